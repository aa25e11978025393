/- Proved: the law MemKnown answers true: the document's examples. No condition. -/
import Derived.Test.YtadkiiaagdhhlaaMas
import Derived.Test.YtadkiiaagdhhlaaMf3
set_option linter.unusedVariables false
set_option linter.unusedSimpArgs false
set_option maxRecDepth 100000
namespace Go.Rf
open Go.Proofs Go.Proofs.Ytadkiiaagdhhlaa

theorem lift10 (os : Os) (started : os.Started) (H : Type) (enc : TypeId × Value → H) :
    ReturnsInHanded {} Try.checked os 10 .any (Rows.memKnownSpec.pre6 enc Try.prog Try.f10 [] false) (Rows.memKnownSpec.post enc Try.prog Try.f10 false true false false) :=
  law_lift (C := Try.checked) (tb := 4) [] own started (by kernel_rfl) Try.func10
    (witZ (enc := enc) (C := Try.checked) [] 8 Try.func10 (by kernel_rfl) (by kernel_rfl) (by kernel_rfl) (by kernel_rfl) (by kernel_rfl) (by kernel_rfl) (by kernel_rfl))
    (by kernel_rfl) rfl Try.underlying4 rfl
    (fun ds h => match ds, h with | [], _ => rfl)
    (fun xs w => match xs with
      | () => calls10 w)

theorem memKnown_row : Rows.MemKnownSaid :=
  OpenClaim.holds_of_wide 10 Try.f10 rfl rfl rfl rfl rfl rfl rfl ⟨rfl, rfl, rfl, rfl, rfl⟩ rfl rfl rfl rfl rfl (by kernel_rfl) Try.func10 (by kernel_rfl)
    (of_decide_eq_true (by kernel_rfl)) (by unfold Func.isWrapper; first | (rw [if_pos (by decide +kernel)]; kernel_rfl) | (rw [if_neg (by decide +kernel)]; exact ⟨rfl, rfl⟩))
    (fun os started H enc _ => lift10 os started H enc)
end Go.Rf

namespace Go.Proofs.Ytadkiiaagdhhlaa
theorem memKnown_holds : Rows.MemKnownSaid := Go.Rf.memKnown_row
end Go.Proofs.Ytadkiiaagdhhlaa
