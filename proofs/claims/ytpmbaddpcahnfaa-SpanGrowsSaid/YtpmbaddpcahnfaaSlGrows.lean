/- Proved: the law SpanGrows answers true at every input: a greater span on either side makes no lesser one; so with Join, Meet and Cut. No condition. -/
import Derived.Test.YtpmbaddpcahnfaaSpr
import Derived.Test.YtpmbaddpcahnfaaSr7
set_option linter.unusedVariables false
set_option linter.unusedSimpArgs false
namespace Go.Rf
open Go.Proofs Go.Proofs.Ytpmbaddpcahnfaa

def sGv : Sh := .agg (.cons (.int .i64) (.cons .bool (.cons sSp (.cons sSp (.cons (.int .u64) (.cons (.int .u64) .nil))))))

theorem lift10 (os : Os) (started : os.Started) (H : Type) (enc : TypeId × Value → H) :
    ReturnsInHanded {} Try.checked os 10 .any (Rows.spanGrowsSpec.pre6 enc Try.prog Try.f10 Rows.spanGrowsRow.domain false) (Rows.spanGrowsSpec.post enc Try.prog Try.f10 false true false false) :=
  law_lift (C := Try.checked) (tb := 4) [sGv, sSp, sSp, sI] own started (by kernel_rfl) Try.func10
    (ChangeSpec.witness6 (enc := enc) (C := Try.checked) false ⟨#[], #[.agg #[.int .i64 0, .bool false, .int .u64 0, .int .u64 0, .int .u64 0, .int .u64 0, .int .u64 0, .int .u64 0], .agg #[.int .u64 0, .int .u64 0], .agg #[.int .u64 0, .int .u64 0], .int .i64 0], []⟩ 8 (by kernel_rfl) (by kernel_rfl) (by kernel_rfl) (by kernel_rfl))
    (by kernel_rfl) rfl Try.underlying4 rfl
    (fun ds h => match ds, h with | [_, _, _, _], _ => rfl)
    (fun xs w => match xs with
      | (g, c, d, n, ()) => (ev10 ⟨g.1, g.2.1, ⟨g.2.2.1.1, g.2.2.1.2.1⟩, ⟨g.2.2.2.1.1, g.2.2.2.1.2.1⟩, g.2.2.2.2.1, g.2.2.2.2.2.1⟩ ⟨c.1, c.2.1⟩ ⟨d.1, d.2.1⟩ n).calls sg10 (encs_ok (l := [sGv, sSp, sSp, sI]) (ts := Try.f10.params.toList) (by kernel_rfl) (g, c, d, n, ())) w)

theorem spanGrows_row : Rows.SpanGrowsSaid :=
  OpenClaim.holds_of_wide 10 Try.f10 rfl rfl rfl rfl rfl rfl rfl ⟨rfl, rfl, rfl, rfl, rfl⟩ rfl rfl rfl rfl rfl (by kernel_rfl) Try.func10 (by kernel_rfl)
    (of_decide_eq_true (by kernel_rfl)) (by unfold Func.isWrapper; first | (rw [if_pos (by decide +kernel)]; kernel_rfl) | (rw [if_neg (by decide +kernel)]; exact ⟨rfl, rfl⟩))
    (fun os started H enc _ => lift10 os started H enc)
end Go.Rf

namespace Go.Proofs.Ytpmbaddpcahnfaa
theorem spanGrows_holds : Rows.SpanGrowsSaid := Go.Rf.spanGrows_row
end Go.Proofs.Ytpmbaddpcahnfaa
