/- Proved: the law StateKnown answers true at every input: the chapter's rows. No condition. -/
import Derived.Test.YtflnkcibjebdeaaSt27
set_option linter.unusedVariables false
set_option linter.unusedSimpArgs false
set_option maxRecDepth 100000
namespace Go.Rf
open Go.Proofs Go.Proofs.Ytflnkcibjebdeaa

theorem lift10 (os : Os) (started : os.Started) (H : Type) (enc : TypeId × Value → H) :
    ReturnsInHanded {} Try.checked os 10 .any (Rows.stateKnownSpec.pre6 enc Try.prog Try.f10 Rows.stateKnownRow.domain false) (Rows.stateKnownSpec.post enc Try.prog Try.f10 false true false false) :=
  law_lift (C := Try.checked) (tb := 4) [] own started (by kernel_rfl) Try.func10
    (witZ (enc := enc) (C := Try.checked) [] 8 Try.func10 (by kernel_rfl) (by kernel_rfl) (by kernel_rfl) (by kernel_rfl) (by kernel_rfl) (by kernel_rfl) (by kernel_rfl))
    (by kernel_rfl) rfl Try.underlying4 rfl
    (fun ds h => match ds, h with | [], _ => rfl)
    (fun xs w => match xs with
      | () => calls_of (ts := Try.f10.params.toList) rfl (by kernel_rfl) rsv13 (ev10 ) w)

theorem stateKnown_row : Rows.StateKnownSaid :=
  OpenClaim.holds_of_wide 10 Try.f10 rfl rfl rfl rfl rfl rfl rfl ⟨rfl, rfl, rfl, rfl, rfl⟩ rfl rfl rfl rfl rfl (by kernel_rfl) Try.func10 (by kernel_rfl)
    (of_decide_eq_true (by kernel_rfl)) (by unfold Func.isWrapper; first | (rw [if_pos (by decide +kernel)]; kernel_rfl) | (rw [if_neg (by decide +kernel)]; exact ⟨rfl, rfl⟩))
    (fun os started H enc _ => lift10 os started H enc)
end Go.Rf

namespace Go.Proofs.Ytflnkcibjebdeaa
theorem stateKnown_holds : Rows.StateKnownSaid := Go.Rf.stateKnown_row
end Go.Proofs.Ytflnkcibjebdeaa
