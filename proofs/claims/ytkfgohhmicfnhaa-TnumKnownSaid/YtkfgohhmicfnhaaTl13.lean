/- Proved: the law TnumKnown answers true: the document's examples of tnums. No condition; it takes nothing in. -/
import Derived.Test.YtkfgohhmicfnhaaTnr
import Derived.Test.YtkfgohhmicfnhaaTnC
set_option linter.unusedVariables false
set_option linter.unusedSimpArgs false
namespace Go.Rf
open Go.Proofs Go.Proofs.Ytkfgohhmicfnhaa

theorem ev13 : Ev Try.prog (tabOf lG) noHooks 5 13 [] (eB true) := Ev.of (by kernel_rfl)

theorem lift13 (os : Os) (started : os.Started) (H : Type) (enc : TypeId × Value → H) :
    ReturnsInHanded {} Try.checked os 13 .any (Rows.tnumKnownSpec.pre6 enc Try.prog Try.f13 Rows.tnumKnownRow.domain false) (Rows.tnumKnownSpec.post enc Try.prog Try.f13 false true false false) :=
  law_lift (C := Try.checked) (tb := 4) ([] : List Sh) own started (by kernel_rfl) Try.func13
    (ChangeSpec.witness6 (enc := enc) (C := Try.checked) false ⟨#[], #[], []⟩ 8 (by kernel_rfl) (by kernel_rfl) (by kernel_rfl) (by kernel_rfl))
    (by kernel_rfl) rfl Try.underlying4 rfl
    (fun ds h => match ds, h with | [], _ => rfl)
    (fun xs w => match xs with
      | () => (ev13).calls gG (encs_ok (l := ([] : List Sh)) (ts := Try.f13.params.toList) (by kernel_rfl) ()) w)

theorem tnumKnown_row : Rows.TnumKnownSaid :=
  OpenClaim.holds_of_wide 13 Try.f13 rfl rfl rfl rfl rfl rfl rfl ⟨rfl, rfl, rfl, rfl, rfl⟩ rfl rfl rfl rfl rfl (by kernel_rfl) Try.func13 (by kernel_rfl)
    (of_decide_eq_true (by kernel_rfl)) (by unfold Func.isWrapper; first | (rw [if_pos (by decide +kernel)]; kernel_rfl) | (rw [if_neg (by decide +kernel)]; exact ⟨rfl, rfl⟩))
    (fun os started H enc _ => lift13 os started H enc)
end Go.Rf

namespace Go.Proofs.Ytkfgohhmicfnhaa
theorem tnumKnown_holds : Rows.TnumKnownSaid := Go.Rf.tnumKnown_row
end Go.Proofs.Ytkfgohhmicfnhaa
