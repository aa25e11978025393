/- Proved: the law MemKinds answers true at every input: which error a store gives is the document's. No condition. -/
import Derived.Test.YtadkiiaagdhhlaaMas
set_option linter.unusedVariables false
set_option linter.unusedSimpArgs false
set_option maxRecDepth 100000
namespace Go.Rf
open Go.Proofs Go.Proofs.Ytadkiiaagdhhlaa

theorem lift7 (os : Os) (started : os.Started) (H : Type) (enc : TypeId × Value → H) :
    ReturnsInHanded {} Try.checked os 7 .any (Rows.memKindsSpec.pre6 enc Try.prog Try.f7 [] false) (Rows.memKindsSpec.post enc Try.prog Try.f7 false true false false) :=
  law_liftS (C := Try.checked) (tb := 4) [] sAct [sAct] [] 43 45 [45] own started (by kernel_rfl) Try.func7
    (witZ (enc := enc) (C := Try.checked) [.slice none 0 0, zAct] 8 Try.func7 (by kernel_rfl) (by kernel_rfl) (by kernel_rfl) (by kernel_rfl) (by kernel_rfl) (by kernel_rfl) (by kernel_rfl))
    rfl (by kernel_rfl) (by kernel_rfl) (by kernel_rfl) (by kernel_rfl) rfl Try.underlying4 rfl
    (fun ds h => match ds, h with | [_, _], _ => rfl)
    (by kernel_rfl) (by kernel_rfl)
    (fun xs ys ao cap w => match xs, ys with
      | (), (x, ()) => empS (l1 := []) (l2 := [sAct]) (xs := ()) (ys := (x, ())) rma9 (Λ := hFe ao cap) (n := 8) (args1 := []) (args2 := [eAct (mkAct x)]) rfl (enc1 (enc_Act x)) nil_ok (encs_ok (l := [sAct]) (ts := [45]) (by kernel_rfl) (x, ()))
        (fg_two ((a7e ao cap (mkAct x)).trans (by rw [lawKinds_true zF_right]; rfl)) (b7e ao cap (mkAct x)) (obKe_ok ao cap _)))
    (fun xs ys D w hD => match xs, ys with
      | (), (x, ()) => nonS (l1 := []) (l2 := [sAct]) (xs := ()) (ys := (x, ())) rma9 (Λ := hFr D) (n := 8) hD (arr_good _) (args1 := []) (args2 := [eAct (mkAct x)]) rfl (enc1 (enc_Act x)) nil_ok (encs_ok (l := [sAct]) (ts := [45]) (by kernel_rfl) (x, ()))
        (fg_two ((a7 D (mkAct x)).trans (by rw [lawKinds_true (frF_r _ _)]; rfl)) (b7 D (mkAct x)) (obK_ok hD _)))

theorem memKinds_row : Rows.MemKindsSaid :=
  OpenClaim.holds_of_wide 7 Try.f7 rfl rfl rfl rfl rfl rfl rfl ⟨rfl, rfl, rfl, rfl, rfl⟩ rfl rfl rfl rfl rfl (by kernel_rfl) Try.func7 (by kernel_rfl)
    (of_decide_eq_true (by kernel_rfl)) (by unfold Func.isWrapper; first | (rw [if_pos (by decide +kernel)]; kernel_rfl) | (rw [if_neg (by decide +kernel)]; exact ⟨rfl, rfl⟩))
    (fun os started H enc _ => lift7 os started H enc)
end Go.Rf

namespace Go.Proofs.Ytadkiiaagdhhlaa
theorem memKinds_holds : Rows.MemKindsSaid := Go.Rf.memKinds_row
end Go.Proofs.Ytadkiiaagdhhlaa
