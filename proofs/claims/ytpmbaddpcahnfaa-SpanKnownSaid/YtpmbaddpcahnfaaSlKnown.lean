/- Proved: the law SpanKnown answers true: the chapter's rows. No condition. -/
import Derived.Test.YtpmbaddpcahnfaaSpr
import Derived.Test.YtpmbaddpcahnfaaSk2
set_option linter.unusedVariables false
set_option linter.unusedSimpArgs false
set_option maxRecDepth 100000
namespace Go.Rf
open Go.Proofs Go.Proofs.Ytpmbaddpcahnfaa

theorem lift9 (os : Os) (started : os.Started) (H : Type) (enc : TypeId × Value → H) :
    ReturnsInHanded {} Try.checked os 9 .any (Rows.spanKnownSpec.pre6 enc Try.prog Try.f9 Rows.spanKnownRow.domain false) (Rows.spanKnownSpec.post enc Try.prog Try.f9 false true false false) :=
  law_lift (C := Try.checked) (tb := 4) [] own started (by kernel_rfl) Try.func9
    (ChangeSpec.witness6 (enc := enc) (C := Try.checked) false ⟨#[], #[], []⟩ 8 (by kernel_rfl) (by kernel_rfl) (by kernel_rfl) (by kernel_rfl))
    (by kernel_rfl) rfl Try.underlying4 rfl
    (fun ds h => match ds, h with | [], _ => rfl)
    (fun xs w => match xs with
      | () => (ev9).calls sg7 (encs_ok (l := []) (ts := Try.f9.params.toList) (by kernel_rfl) ()) w)

theorem spanKnown_row : Rows.SpanKnownSaid :=
  OpenClaim.holds_of_wide 9 Try.f9 rfl rfl rfl rfl rfl rfl rfl ⟨rfl, rfl, rfl, rfl, rfl⟩ rfl rfl rfl rfl rfl (by kernel_rfl) Try.func9 (by kernel_rfl)
    (of_decide_eq_true (by kernel_rfl)) (by unfold Func.isWrapper; first | (rw [if_pos (by decide +kernel)]; kernel_rfl) | (rw [if_neg (by decide +kernel)]; exact ⟨rfl, rfl⟩))
    (fun os started H enc _ => lift9 os started H enc)
end Go.Rf

namespace Go.Proofs.Ytpmbaddpcahnfaa
theorem spanKnown_holds : Rows.SpanKnownSaid := Go.Rf.spanKnown_row
end Go.Proofs.Ytpmbaddpcahnfaa
