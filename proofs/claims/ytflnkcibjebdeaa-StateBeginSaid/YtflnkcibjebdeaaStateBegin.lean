/- Proved: the law StateBegin answers true at every input: what Begin holds. No condition. -/
import Derived.Test.YtflnkcibjebdeaaSt26
set_option linter.unusedVariables false
set_option linter.unusedSimpArgs false
set_option maxRecDepth 100000
namespace Go.Rf
open Go.Proofs Go.Proofs.Ytflnkcibjebdeaa

theorem lift9 (os : Os) (started : os.Started) (H : Type) (enc : TypeId × Value → H) :
    ReturnsInHanded {} Try.checked os 9 .any (Rows.stateBeginSpec.pre6 enc Try.prog Try.f9 Rows.stateBeginRow.domain false) (Rows.stateBeginSpec.post enc Try.prog Try.f9 false true false false) :=
  law_lift (C := Try.checked) (tb := 4) [sVw] own started (by kernel_rfl) Try.func9
    (witZ (enc := enc) (C := Try.checked) [zVw] 8 Try.func9 (by kernel_rfl) (by kernel_rfl) (by kernel_rfl) (by kernel_rfl) (by kernel_rfl) (by kernel_rfl) (by kernel_rfl))
    (by kernel_rfl) rfl Try.underlying4 rfl
    (fun ds h => match ds, h with | [_], _ => rfl)
    (fun xs w => match xs with
      | (x0, ()) => calls_of (ts := Try.f9.params.toList) (enc1 (enc_Vw x0)) (by kernel_rfl) rsv12 (ev9 (mkVw x0)) w)

theorem stateBegin_row : Rows.StateBeginSaid :=
  OpenClaim.holds_of_wide 9 Try.f9 rfl rfl rfl rfl rfl rfl rfl ⟨rfl, rfl, rfl, rfl, rfl⟩ rfl rfl rfl rfl rfl (by kernel_rfl) Try.func9 (by kernel_rfl)
    (of_decide_eq_true (by kernel_rfl)) (by unfold Func.isWrapper; first | (rw [if_pos (by decide +kernel)]; kernel_rfl) | (rw [if_neg (by decide +kernel)]; exact ⟨rfl, rfl⟩))
    (fun os started H enc _ => lift9 os started H enc)
end Go.Rf

namespace Go.Proofs.Ytflnkcibjebdeaa
theorem stateBegin_holds : Rows.StateBeginSaid := Go.Rf.stateBegin_row
end Go.Proofs.Ytflnkcibjebdeaa
