/- Proved: the law MemApart answers true at every input: a store leaves what lies elsewhere as it was. No condition. -/
import Derived.Test.YtadkiiaagdhhlaaMas
set_option linter.unusedVariables false
set_option linter.unusedSimpArgs false
set_option maxRecDepth 100000
namespace Go.Rf
open Go.Proofs Go.Proofs.Ytadkiiaagdhhlaa

theorem lift6 (os : Os) (started : os.Started) (H : Type) (enc : TypeId × Value → H) :
    ReturnsInHanded {} Try.checked os 6 .any (Rows.memApartSpec.pre6 enc Try.prog Try.f6 [] false) (Rows.memApartSpec.post enc Try.prog Try.f6 false true false false) :=
  law_liftS (C := Try.checked) (tb := 4) [] sAct [sAct, sI] [] 43 45 [45, 2] own started (by kernel_rfl) Try.func6
    (witZ (enc := enc) (C := Try.checked) [.slice none 0 0, zAct, .int .i64 0] 8 Try.func6 (by kernel_rfl) (by kernel_rfl) (by kernel_rfl) (by kernel_rfl) (by kernel_rfl) (by kernel_rfl) (by kernel_rfl))
    rfl (by kernel_rfl) (by kernel_rfl) (by kernel_rfl) (by kernel_rfl) rfl Try.underlying4 rfl
    (fun ds h => match ds, h with | [_, _, _], _ => rfl)
    (by kernel_rfl) (by kernel_rfl)
    (fun xs ys ao cap w => match xs, ys with
      | (), (x, o, ()) => empS (l1 := []) (l2 := [sAct, sI]) (xs := ()) (ys := (x, o, ())) rma9 (Λ := hFe ao cap) (n := 8) (args1 := []) (args2 := [eAct (mkAct x), eI o]) rfl (enc2 (enc_Act x) (enc_I o)) nil_ok (encs_ok (l := [sAct, sI]) (ts := [45, 2]) (by kernel_rfl) (x, o, ()))
        (fl_two ((a6e ao cap (mkAct x) o).trans (congrArg (fun b => some (eB b)) (lawApart_true zF_right (mkAct x) o))) (b6e ao cap (mkAct x) o) (obFe_ok ao cap)))
    (fun xs ys D w hD => match xs, ys with
      | (), (x, o, ()) => nonS (l1 := []) (l2 := [sAct, sI]) (xs := ()) (ys := (x, o, ())) rma9 (Λ := hFr D) (n := 8) hD (arr_good _) (args1 := []) (args2 := [eAct (mkAct x), eI o]) rfl (enc2 (enc_Act x) (enc_I o)) nil_ok (encs_ok (l := [sAct, sI]) (ts := [45, 2]) (by kernel_rfl) (x, o, ()))
        (fl_two ((a6 D (mkAct x) o).trans (congrArg (fun b => some (eB b)) (lawApart_true (frF_r _ _) (mkAct x) o))) (b6 D (mkAct x) o) (obFr_ok hD)))

theorem memApart_row : Rows.MemApartSaid :=
  OpenClaim.holds_of_wide 6 Try.f6 rfl rfl rfl rfl rfl rfl rfl ⟨rfl, rfl, rfl, rfl, rfl⟩ rfl rfl rfl rfl rfl (by kernel_rfl) Try.func6 (by kernel_rfl)
    (of_decide_eq_true (by kernel_rfl)) (by unfold Func.isWrapper; first | (rw [if_pos (by decide +kernel)]; kernel_rfl) | (rw [if_neg (by decide +kernel)]; exact ⟨rfl, rfl⟩))
    (fun os started H enc _ => lift6 os started H enc)
end Go.Rf

namespace Go.Proofs.Ytadkiiaagdhhlaa
theorem memApart_holds : Rows.MemApartSaid := Go.Rf.memApart_row
end Go.Proofs.Ytadkiiaagdhhlaa
