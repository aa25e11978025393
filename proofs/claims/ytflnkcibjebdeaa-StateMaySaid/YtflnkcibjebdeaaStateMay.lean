/- Proved: the law StateMay answers true at every input: which states may be; Begin. No condition. -/
import Derived.Test.YtflnkcibjebdeaaSt26
set_option linter.unusedVariables false
set_option linter.unusedSimpArgs false
set_option maxRecDepth 100000
namespace Go.Rf
open Go.Proofs Go.Proofs.Ytflnkcibjebdeaa

theorem lift3 (os : Os) (started : os.Started) (H : Type) (enc : TypeId × Value → H) :
    ReturnsInHanded {} Try.checked os 3 .any (Rows.stateMaySpec.pre6 enc Try.prog Try.f3 Rows.stateMayRow.domain false) (Rows.stateMaySpec.post enc Try.prog Try.f3 false true false false) :=
  law_lift (C := Try.checked) (tb := 4) [sSta] own started (by kernel_rfl) Try.func3
    (witZ (enc := enc) (C := Try.checked) [zSta] 8 Try.func3 (by kernel_rfl) (by kernel_rfl) (by kernel_rfl) (by kernel_rfl) (by kernel_rfl) (by kernel_rfl) (by kernel_rfl))
    (by kernel_rfl) rfl Try.underlying4 rfl
    (fun ds h => match ds, h with | [_], _ => rfl)
    (fun xs w => match xs with
      | (x0, ()) => calls_of (ts := Try.f3.params.toList) (enc1 (enc_Sta x0)) (by kernel_rfl) rsv12 (ev3 (mkSta x0)) w)

theorem stateMay_row : Rows.StateMaySaid :=
  OpenClaim.holds_of_wide 3 Try.f3 rfl rfl rfl rfl rfl rfl rfl ⟨rfl, rfl, rfl, rfl, rfl⟩ rfl rfl rfl rfl rfl (by kernel_rfl) Try.func3 (by kernel_rfl)
    (of_decide_eq_true (by kernel_rfl)) (by unfold Func.isWrapper; first | (rw [if_pos (by decide +kernel)]; kernel_rfl) | (rw [if_neg (by decide +kernel)]; exact ⟨rfl, rfl⟩))
    (fun os started H enc _ => lift3 os started H enc)
end Go.Rf

namespace Go.Proofs.Ytflnkcibjebdeaa
theorem stateMay_holds : Rows.StateMaySaid := Go.Rf.stateMay_row
end Go.Proofs.Ytflnkcibjebdeaa
