/- Proved: the law StateJoin answers true at every input: the Join of any two states. No condition. -/
import Derived.Test.YtflnkcibjebdeaaSt26
set_option linter.unusedVariables false
set_option linter.unusedSimpArgs false
set_option maxRecDepth 100000
namespace Go.Rf
open Go.Proofs Go.Proofs.Ytflnkcibjebdeaa

theorem lift6 (os : Os) (started : os.Started) (H : Type) (enc : TypeId × Value → H) :
    ReturnsInHanded {} Try.checked os 6 .any (Rows.stateJoinSpec.pre6 enc Try.prog Try.f6 Rows.stateJoinRow.domain false) (Rows.stateJoinSpec.post enc Try.prog Try.f6 false true false false) :=
  law_lift (C := Try.checked) (tb := 4) [sSta, sSta] own started (by kernel_rfl) Try.func6
    (witZ (enc := enc) (C := Try.checked) [zSta, zSta] 8 Try.func6 (by kernel_rfl) (by kernel_rfl) (by kernel_rfl) (by kernel_rfl) (by kernel_rfl) (by kernel_rfl) (by kernel_rfl))
    (by kernel_rfl) rfl Try.underlying4 rfl
    (fun ds h => match ds, h with | [_, _], _ => rfl)
    (fun xs w => match xs with
      | (x0, x1, ()) => calls_of (ts := Try.f6.params.toList) (enc2 (enc_Sta x0) (enc_Sta x1)) (by kernel_rfl) rsv12 (ev6 (mkSta x0) (mkSta x1)) w)

theorem stateJoin_row : Rows.StateJoinSaid :=
  OpenClaim.holds_of_wide 6 Try.f6 rfl rfl rfl rfl rfl rfl rfl ⟨rfl, rfl, rfl, rfl, rfl⟩ rfl rfl rfl rfl rfl (by kernel_rfl) Try.func6 (by kernel_rfl)
    (of_decide_eq_true (by kernel_rfl)) (by unfold Func.isWrapper; first | (rw [if_pos (by decide +kernel)]; kernel_rfl) | (rw [if_neg (by decide +kernel)]; exact ⟨rfl, rfl⟩))
    (fun os started H enc _ => lift6 os started H enc)
end Go.Rf

namespace Go.Proofs.Ytflnkcibjebdeaa
theorem stateJoin_holds : Rows.StateJoinSaid := Go.Rf.stateJoin_row
end Go.Proofs.Ytflnkcibjebdeaa
