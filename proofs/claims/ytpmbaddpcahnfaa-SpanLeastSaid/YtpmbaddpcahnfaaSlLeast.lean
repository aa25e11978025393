/- Proved: the law SpanLeast answers true at every input: of few numbers each nothing is told that is no need. No condition. -/
import Derived.Test.YtpmbaddpcahnfaaSpr
import Derived.Test.YtpmbaddpcahnfaaSr10
set_option linter.unusedVariables false
set_option linter.unusedSimpArgs false
namespace Go.Rf
open Go.Proofs Go.Proofs.Ytpmbaddpcahnfaa

def sGv : Sh := .agg (.cons (.int .i64) (.cons .bool (.cons sSp (.cons sSp (.cons (.int .u64) (.cons (.int .u64) .nil))))))

theorem lift6 (os : Os) (started : os.Started) (H : Type) (enc : TypeId × Value → H) :
    ReturnsInHanded {} Try.checked os 6 .any (Rows.spanLeastSpec.pre6 enc Try.prog Try.f6 Rows.spanLeastRow.domain false) (Rows.spanLeastSpec.post enc Try.prog Try.f6 false true false false) :=
  law_lift (C := Try.checked) (tb := 4) [sGv] own started (by kernel_rfl) Try.func6
    (ChangeSpec.witness6 (enc := enc) (C := Try.checked) false ⟨#[], #[.agg #[.int .i64 0, .bool false, .int .u64 0, .int .u64 0, .int .u64 0, .int .u64 0, .int .u64 0, .int .u64 0]], []⟩ 8 (by kernel_rfl) (by kernel_rfl) (by kernel_rfl) (by kernel_rfl))
    (by kernel_rfl) rfl Try.underlying4 rfl
    (fun ds h => match ds, h with | [_], _ => rfl)
    (fun xs w => match xs with
      | (g, ()) => (ev6 ⟨g.1, g.2.1, ⟨g.2.2.1.1, g.2.2.1.2.1⟩, ⟨g.2.2.2.1.1, g.2.2.2.1.2.1⟩, g.2.2.2.2.1, g.2.2.2.2.2.1⟩).calls sg10 (encs_ok (l := [sGv]) (ts := Try.f6.params.toList) (by kernel_rfl) (g, ())) w)

theorem spanLeast_row : Rows.SpanLeastSaid :=
  OpenClaim.holds_of_wide 6 Try.f6 rfl rfl rfl rfl rfl rfl rfl ⟨rfl, rfl, rfl, rfl, rfl⟩ rfl rfl rfl rfl rfl (by kernel_rfl) Try.func6 (by kernel_rfl)
    (of_decide_eq_true (by kernel_rfl)) (by unfold Func.isWrapper; first | (rw [if_pos (by decide +kernel)]; kernel_rfl) | (rw [if_neg (by decide +kernel)]; exact ⟨rfl, rfl⟩))
    (fun os started H enc _ => lift6 os started H enc)
end Go.Rf

namespace Go.Proofs.Ytpmbaddpcahnfaa
theorem spanLeast_holds : Rows.SpanLeastSaid := Go.Rf.spanLeast_row
end Go.Proofs.Ytpmbaddpcahnfaa
