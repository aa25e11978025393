/- Proved: the law MemBack answers true at every input: what a store that is carried out has put, a load reads back. No condition. -/
import Derived.Test.YtadkiiaagdhhlaaMas
set_option linter.unusedVariables false
set_option linter.unusedSimpArgs false
set_option maxRecDepth 100000
namespace Go.Rf
open Go.Proofs Go.Proofs.Ytadkiiaagdhhlaa

theorem lift5 (os : Os) (started : os.Started) (H : Type) (enc : TypeId × Value → H) :
    ReturnsInHanded {} Try.checked os 5 .any (Rows.memBackSpec.pre6 enc Try.prog Try.f5 [] false) (Rows.memBackSpec.post enc Try.prog Try.f5 false true false false) :=
  law_liftS (C := Try.checked) (tb := 4) [] sAct [sAct] [] 43 45 [45] own started (by kernel_rfl) Try.func5
    (witZ (enc := enc) (C := Try.checked) [.slice none 0 0, zAct] 8 Try.func5 (by kernel_rfl) (by kernel_rfl) (by kernel_rfl) (by kernel_rfl) (by kernel_rfl) (by kernel_rfl) (by kernel_rfl))
    rfl (by kernel_rfl) (by kernel_rfl) (by kernel_rfl) (by kernel_rfl) rfl Try.underlying4 rfl
    (fun ds h => match ds, h with | [_, _], _ => rfl)
    (by kernel_rfl) (by kernel_rfl)
    (fun xs ys ao cap w => match xs, ys with
      | (), (x, ()) => empS (l1 := []) (l2 := [sAct]) (xs := ()) (ys := (x, ())) rma9 (Λ := hFe ao cap) (n := 8) (args1 := []) (args2 := [eAct (mkAct x)]) rfl (enc1 (enc_Act x)) nil_ok (encs_ok (l := [sAct]) (ts := [45]) (by kernel_rfl) (x, ()))
        (fl_two ((a5e ao cap (mkAct x)).trans (by rw [lawBack_true zF_right]; rfl)) (b5e ao cap (mkAct x)) (obFe_ok ao cap)))
    (fun xs ys D w hD => match xs, ys with
      | (), (x, ()) => nonS (l1 := []) (l2 := [sAct]) (xs := ()) (ys := (x, ())) rma9 (Λ := hFr D) (n := 8) hD (arr_good _) (args1 := []) (args2 := [eAct (mkAct x)]) rfl (enc1 (enc_Act x)) nil_ok (encs_ok (l := [sAct]) (ts := [45]) (by kernel_rfl) (x, ()))
        (fl_two ((a5 D (mkAct x)).trans (by rw [lawBack_true (frF_r _ _)]; rfl)) (b5 D (mkAct x)) (obFr_ok hD)))

theorem memBack_row : Rows.MemBackSaid :=
  OpenClaim.holds_of_wide 5 Try.f5 rfl rfl rfl rfl rfl rfl rfl ⟨rfl, rfl, rfl, rfl, rfl⟩ rfl rfl rfl rfl rfl (by kernel_rfl) Try.func5 (by kernel_rfl)
    (of_decide_eq_true (by kernel_rfl)) (by unfold Func.isWrapper; first | (rw [if_pos (by decide +kernel)]; kernel_rfl) | (rw [if_neg (by decide +kernel)]; exact ⟨rfl, rfl⟩))
    (fun os started H enc _ => lift5 os started H enc)
end Go.Rf

namespace Go.Proofs.Ytadkiiaagdhhlaa
theorem memBack_holds : Rows.MemBackSaid := Go.Rf.memBack_row
end Go.Proofs.Ytadkiiaagdhhlaa
