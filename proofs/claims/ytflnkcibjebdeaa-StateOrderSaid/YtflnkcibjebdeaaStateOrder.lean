/- Proved: the law StateOrder answers true at every input: In is an order, Join the least above both. No condition. -/
import Derived.Test.YtflnkcibjebdeaaSt26
set_option linter.unusedVariables false
set_option linter.unusedSimpArgs false
set_option maxRecDepth 100000
namespace Go.Rf
open Go.Proofs Go.Proofs.Ytflnkcibjebdeaa

theorem lift8 (os : Os) (started : os.Started) (H : Type) (enc : TypeId × Value → H) :
    ReturnsInHanded {} Try.checked os 8 .any (Rows.stateOrderSpec.pre6 enc Try.prog Try.f8 Rows.stateOrderRow.domain false) (Rows.stateOrderSpec.post enc Try.prog Try.f8 false true false false) :=
  law_lift (C := Try.checked) (tb := 4) [sSta, sSta, sSta] own started (by kernel_rfl) Try.func8
    (witZ (enc := enc) (C := Try.checked) [zSta, zSta, zSta] 8 Try.func8 (by kernel_rfl) (by kernel_rfl) (by kernel_rfl) (by kernel_rfl) (by kernel_rfl) (by kernel_rfl) (by kernel_rfl))
    (by kernel_rfl) rfl Try.underlying4 rfl
    (fun ds h => match ds, h with | [_, _, _], _ => rfl)
    (fun xs w => match xs with
      | (x0, x1, x2, ()) => calls_of (ts := Try.f8.params.toList) (enc3 (enc_Sta x0) (enc_Sta x1) (enc_Sta x2)) (by kernel_rfl) rsv12 (ev8 (mkSta x0) (mkSta x1) (mkSta x2)) w)

theorem stateOrder_row : Rows.StateOrderSaid :=
  OpenClaim.holds_of_wide 8 Try.f8 rfl rfl rfl rfl rfl rfl rfl ⟨rfl, rfl, rfl, rfl, rfl⟩ rfl rfl rfl rfl rfl (by kernel_rfl) Try.func8 (by kernel_rfl)
    (of_decide_eq_true (by kernel_rfl)) (by unfold Func.isWrapper; first | (rw [if_pos (by decide +kernel)]; kernel_rfl) | (rw [if_neg (by decide +kernel)]; exact ⟨rfl, rfl⟩))
    (fun os started H enc _ => lift8 os started H enc)
end Go.Rf

namespace Go.Proofs.Ytflnkcibjebdeaa
theorem stateOrder_holds : Rows.StateOrderSaid := Go.Rf.stateOrder_row
end Go.Proofs.Ytflnkcibjebdeaa
