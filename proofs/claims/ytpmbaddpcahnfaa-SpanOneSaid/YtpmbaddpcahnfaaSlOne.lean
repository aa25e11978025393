/- Proved: the law SpanOne answers true at every input: one number each makes one result; what both hold is what Meet holds, and Join holds what either holds. No condition. -/
import Derived.Test.YtpmbaddpcahnfaaSpr
import Derived.Test.YtpmbaddpcahnfaaSr5
set_option linter.unusedVariables false
set_option linter.unusedSimpArgs false
namespace Go.Rf
open Go.Proofs Go.Proofs.Ytpmbaddpcahnfaa

def sGv : Sh := .agg (.cons (.int .i64) (.cons .bool (.cons sSp (.cons sSp (.cons (.int .u64) (.cons (.int .u64) .nil))))))

theorem lift11 (os : Os) (started : os.Started) (H : Type) (enc : TypeId × Value → H) :
    ReturnsInHanded {} Try.checked os 11 .any (Rows.spanOneSpec.pre6 enc Try.prog Try.f11 Rows.spanOneRow.domain false) (Rows.spanOneSpec.post enc Try.prog Try.f11 false true false false) :=
  law_lift (C := Try.checked) (tb := 4) [sGv] own started (by kernel_rfl) Try.func11
    (ChangeSpec.witness6 (enc := enc) (C := Try.checked) false ⟨#[], #[.agg #[.int .i64 0, .bool false, .int .u64 0, .int .u64 0, .int .u64 0, .int .u64 0, .int .u64 0, .int .u64 0]], []⟩ 8 (by kernel_rfl) (by kernel_rfl) (by kernel_rfl) (by kernel_rfl))
    (by kernel_rfl) rfl Try.underlying4 rfl
    (fun ds h => match ds, h with | [_], _ => rfl)
    (fun xs w => match xs with
      | (g, ()) => (ev11 ⟨g.1, g.2.1, ⟨g.2.2.1.1, g.2.2.1.2.1⟩, ⟨g.2.2.2.1.1, g.2.2.2.1.2.1⟩, g.2.2.2.2.1, g.2.2.2.2.2.1⟩).calls sg10 (encs_ok (l := [sGv]) (ts := Try.f11.params.toList) (by kernel_rfl) (g, ())) w)

theorem spanOne_row : Rows.SpanOneSaid :=
  OpenClaim.holds_of_wide 11 Try.f11 rfl rfl rfl rfl rfl rfl rfl ⟨rfl, rfl, rfl, rfl, rfl⟩ rfl rfl rfl rfl rfl (by kernel_rfl) Try.func11 (by kernel_rfl)
    (of_decide_eq_true (by kernel_rfl)) (by unfold Func.isWrapper; first | (rw [if_pos (by decide +kernel)]; kernel_rfl) | (rw [if_neg (by decide +kernel)]; exact ⟨rfl, rfl⟩))
    (fun os started H enc _ => lift11 os started H enc)
end Go.Rf

namespace Go.Proofs.Ytpmbaddpcahnfaa
theorem spanOne_holds : Rows.SpanOneSaid := Go.Rf.spanOne_row
end Go.Proofs.Ytpmbaddpcahnfaa
