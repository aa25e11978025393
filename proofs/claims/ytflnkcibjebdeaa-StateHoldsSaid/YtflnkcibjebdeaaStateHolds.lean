/- Proved: the law StateHolds answers true at every input: whether a state holds a view. No condition. -/
import Derived.Test.YtflnkcibjebdeaaSt26
set_option linter.unusedVariables false
set_option linter.unusedSimpArgs false
set_option maxRecDepth 100000
namespace Go.Rf
open Go.Proofs Go.Proofs.Ytflnkcibjebdeaa

theorem lift4 (os : Os) (started : os.Started) (H : Type) (enc : TypeId × Value → H) :
    ReturnsInHanded {} Try.checked os 4 .any (Rows.stateHoldsSpec.pre6 enc Try.prog Try.f4 Rows.stateHoldsRow.domain false) (Rows.stateHoldsSpec.post enc Try.prog Try.f4 false true false false) :=
  law_lift (C := Try.checked) (tb := 4) [sSta, sVw] own started (by kernel_rfl) Try.func4
    (witZ (enc := enc) (C := Try.checked) [zSta, zVw] 8 Try.func4 (by kernel_rfl) (by kernel_rfl) (by kernel_rfl) (by kernel_rfl) (by kernel_rfl) (by kernel_rfl) (by kernel_rfl))
    (by kernel_rfl) rfl Try.underlying4 rfl
    (fun ds h => match ds, h with | [_, _], _ => rfl)
    (fun xs w => match xs with
      | (x0, x1, ()) => calls_of (ts := Try.f4.params.toList) (enc2 (enc_Sta x0) (enc_Vw x1)) (by kernel_rfl) rsv12 (ev4 (mkSta x0) (mkVw x1)) w)

theorem stateHolds_row : Rows.StateHoldsSaid :=
  OpenClaim.holds_of_wide 4 Try.f4 rfl rfl rfl rfl rfl rfl rfl ⟨rfl, rfl, rfl, rfl, rfl⟩ rfl rfl rfl rfl rfl (by kernel_rfl) Try.func4 (by kernel_rfl)
    (of_decide_eq_true (by kernel_rfl)) (by unfold Func.isWrapper; first | (rw [if_pos (by decide +kernel)]; kernel_rfl) | (rw [if_neg (by decide +kernel)]; exact ⟨rfl, rfl⟩))
    (fun os started H enc _ => lift4 os started H enc)
end Go.Rf

namespace Go.Proofs.Ytflnkcibjebdeaa
theorem stateHolds_holds : Rows.StateHoldsSaid := Go.Rf.stateHolds_row
end Go.Proofs.Ytflnkcibjebdeaa
