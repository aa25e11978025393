/- Proved: the law MemParts answers true at every input: a number is made of its halves, and what is put is got, all else as it was. No condition. -/
import Derived.Test.YtadkiiaagdhhlaaMas
import Derived.Test.YtadkiiaagdhhlaaMeXB
import Derived.Test.YtadkiiaagdhhlaaRf36
set_option linter.unusedVariables false
set_option linter.unusedSimpArgs false
set_option maxRecDepth 100000
namespace Go.Rf
open Go.Proofs Go.Proofs.Ytadkiiaagdhhlaa

theorem bytes5 : Try.checked.prog.bytesOf 5 = 1 := by kernel_rfl
theorem empP (x : sAct.T) (o : sI.T) (ao : Option Addr) (cap : Nat) (w : World) : Calls Try.prog 9 (.slice ao 0 cap :: (encs [sAct, sI] (x, o, ())).map (val E0)).toArray w fun e w' => e = .returned (.bool true) ∧ RowKit.Below w.heap.size w w' := by
  have h := calls9z ⟨ao, cap, mkAct x, o⟩ w
  have e : (argLZ ⟨ao, cap, mkAct x, o⟩).map (val E0) = .slice ao 0 cap :: (encs [sAct, sI] (x, o, ())).map (val E0) := by
    simp only [argLZ, encs, List.map_cons, List.map_nil, enc_Act, enc_I]
    rfl
  rw [e] at h
  exact h
theorem nonP (x : sAct.T) (o : sI.T) (D : SlD sB) (w : World) (hD : D.Ok w) (hl : D.len * Try.checked.prog.bytesOf 5 ≤ reachBytes) : Calls Try.prog 9 (D.value :: (encs [sAct, sI] (x, o, ())).map (val E0)).toArray w fun e w' => e = .returned (.bool true) ∧ RowKit.Below w.heap.size w w' := by
  rw [bytes5, Nat.mul_one] at hl
  have hr : reachBytes = 140737488351232 := rfl
  have hl' : D.len ≤ 140737488355328 := by omega
  have h := calls9 ⟨D, mkAct x, o⟩ hl' (b := D.b) (w := w) hD.row
  have e : (argM ⟨D, mkAct x, o⟩).map (val (E1 D.b)) = D.value :: (encs [sAct, sI] (x, o, ())).map (val E0) := by
    simp only [argM, encs, List.map_cons, List.map_nil, enc_Act, enc_I]
    rw [(at_val (D := D) (n := 0) (E := E1 D.b) rfl (by omega)).1, show val (E1 D.b) (eAct (mkAct x)) = val E0 (eAct (mkAct x)) from val_pf (cAct.pf (mkAct x)) (E1 D.b) E0]
    rfl
  rw [e] at h
  exact h
theorem lift9 (os : Os) (started : os.Started) (H : Type) (enc : TypeId × Value → H) :
    ReturnsInHanded {} Try.checked os 9 .any (Rows.memPartsSpec.pre6 enc Try.prog Try.f9 [] false) (Rows.memPartsSpec.post enc Try.prog Try.f9 false true false false) :=
  law_liftZ (C := Try.checked) (tb := 4) sB [sAct, sI] 57 5 [45, 2] own started (by kernel_rfl) Try.func9
    (witZ (enc := enc) (C := Try.checked) [.slice none 0 0, zAct, .int .i64 0] 8 Try.func9 (by kernel_rfl) (by kernel_rfl) (by kernel_rfl) (by kernel_rfl) (by kernel_rfl) (by kernel_rfl) (by kernel_rfl))
    rfl (by kernel_rfl) (by kernel_rfl) (by kernel_rfl) rfl Try.underlying4 rfl
    (fun ds h => match ds, h with | [_, _, _], _ => rfl)
    (by kernel_rfl) (by kernel_rfl)
    (fun ys ao cap w => match ys with
      | (x, o, ()) => empP x o ao cap w)
    (fun ys D w hD hl => match ys with
      | (x, o, ()) => nonP x o D w hD hl)

theorem memParts_row : Rows.MemPartsSaid :=
  OpenClaim.holds_of_wide 9 Try.f9 rfl rfl rfl rfl rfl rfl rfl ⟨rfl, rfl, rfl, rfl, rfl⟩ rfl rfl rfl rfl rfl (by kernel_rfl) Try.func9 (by kernel_rfl)
    (of_decide_eq_true (by kernel_rfl)) (by unfold Func.isWrapper; first | (rw [if_pos (by decide +kernel)]; kernel_rfl) | (rw [if_neg (by decide +kernel)]; exact ⟨rfl, rfl⟩))
    (fun os started H enc _ => lift9 os started H enc)
end Go.Rf

namespace Go.Proofs.Ytadkiiaagdhhlaa
theorem memParts_holds : Rows.MemPartsSaid := Go.Rf.memParts_row
end Go.Proofs.Ytadkiiaagdhhlaa
