/- Proved: the law StateSound answers true at every input: what a state holds, each in which it is holds, and its Join. No condition. -/
import Derived.Test.YtflnkcibjebdeaaSt26
set_option linter.unusedVariables false
set_option linter.unusedSimpArgs false
set_option maxRecDepth 100000
namespace Go.Rf
open Go.Proofs Go.Proofs.Ytflnkcibjebdeaa

theorem lift7 (os : Os) (started : os.Started) (H : Type) (enc : TypeId × Value → H) :
    ReturnsInHanded {} Try.checked os 7 .any (Rows.stateSoundSpec.pre6 enc Try.prog Try.f7 Rows.stateSoundRow.domain false) (Rows.stateSoundSpec.post enc Try.prog Try.f7 false true false false) :=
  law_lift (C := Try.checked) (tb := 4) [sSta, sSta, sVw] own started (by kernel_rfl) Try.func7
    (witZ (enc := enc) (C := Try.checked) [zSta, zSta, zVw] 8 Try.func7 (by kernel_rfl) (by kernel_rfl) (by kernel_rfl) (by kernel_rfl) (by kernel_rfl) (by kernel_rfl) (by kernel_rfl))
    (by kernel_rfl) rfl Try.underlying4 rfl
    (fun ds h => match ds, h with | [_, _, _], _ => rfl)
    (fun xs w => match xs with
      | (x0, x1, x2, ()) => calls_of (ts := Try.f7.params.toList) (enc3 (enc_Sta x0) (enc_Sta x1) (enc_Vw x2)) (by kernel_rfl) rsv12 (ev7 (mkSta x0) (mkSta x1) (mkVw x2)) w)

theorem stateSound_row : Rows.StateSoundSaid :=
  OpenClaim.holds_of_wide 7 Try.f7 rfl rfl rfl rfl rfl rfl rfl ⟨rfl, rfl, rfl, rfl, rfl⟩ rfl rfl rfl rfl rfl (by kernel_rfl) Try.func7 (by kernel_rfl)
    (of_decide_eq_true (by kernel_rfl)) (by unfold Func.isWrapper; first | (rw [if_pos (by decide +kernel)]; kernel_rfl) | (rw [if_neg (by decide +kernel)]; exact ⟨rfl, rfl⟩))
    (fun os started H enc _ => lift7 os started H enc)
end Go.Rf

namespace Go.Proofs.Ytflnkcibjebdeaa
theorem stateSound_holds : Rows.StateSoundSaid := Go.Rf.stateSound_row
end Go.Proofs.Ytflnkcibjebdeaa
