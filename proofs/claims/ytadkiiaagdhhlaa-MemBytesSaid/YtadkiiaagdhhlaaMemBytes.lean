/- Proved: the law MemBytes answers true at every input: numbers are got from and put into bytes as the document says, which stay as they were. No condition. -/
import Derived.Test.YtadkiiaagdhhlaaMas
import Derived.Test.YtadkiiaagdhhlaaMgY
import Derived.Test.YtadkiiaagdhhlaaRf36
set_option linter.unusedVariables false
set_option linter.unusedSimpArgs false
set_option maxRecDepth 100000
namespace Go.Rf
open Go.Proofs Go.Proofs.Ytadkiiaagdhhlaa

theorem bytes5 : Try.checked.prog.bytesOf 5 = 1 := by kernel_rfl
theorem empB (x : sAct.T) (ao : Option Addr) (cap : Nat) (w : World) : Calls Try.prog 8 (.slice ao 0 cap :: (encs [sAct] (x, ())).map (val E0)).toArray w fun e w' => e = .returned (.bool true) ∧ RowKit.Below w.heap.size w w' := by
  have h := calls8v ⟨ao, cap, mkAct x⟩ w
  have e : (argV ⟨ao, cap, mkAct x⟩).map (val E0) = .slice ao 0 cap :: (encs [sAct] (x, ())).map (val E0) := by
    simp only [argV, encs, List.map_cons, List.map_nil, enc_Act]
    rfl
  rw [e] at h
  exact h
theorem nonB (x : sAct.T) (D : SlD sB) (w : World) (hD : D.Ok w) (hl : D.len * Try.checked.prog.bytesOf 5 ≤ reachBytes) : Calls Try.prog 8 (D.value :: (encs [sAct] (x, ())).map (val E0)).toArray w fun e w' => e = .returned (.bool true) ∧ RowKit.Below w.heap.size w w' := by
  rw [bytes5, Nat.mul_one] at hl
  have hr : reachBytes = 140737488351232 := rfl
  have hl' : D.len ≤ 140737488351232 := by omega
  have h := calls8 ⟨D, mkAct x⟩ hl' hD.pos (b := D.b) (w := w) hD.row
  have e : (argB ⟨D, mkAct x⟩).map (val (E1 D.b)) = D.value :: (encs [sAct] (x, ())).map (val E0) := by
    simp only [argB, encs, List.map_cons, List.map_nil, enc_Act]
    rw [(at_val (D := D) (n := 0) (E := E1 D.b) rfl (by omega)).1, show val (E1 D.b) (eAct (mkAct x)) = val E0 (eAct (mkAct x)) from val_pf (cAct.pf (mkAct x)) (E1 D.b) E0]
  rw [e] at h
  exact h
theorem lift8 (os : Os) (started : os.Started) (H : Type) (enc : TypeId × Value → H) :
    ReturnsInHanded {} Try.checked os 8 .any (Rows.memBytesSpec.pre6 enc Try.prog Try.f8 [] false) (Rows.memBytesSpec.post enc Try.prog Try.f8 false true false false) :=
  law_liftZ (C := Try.checked) (tb := 4) sB [sAct] 57 5 [45] own started (by kernel_rfl) Try.func8
    (witZ (enc := enc) (C := Try.checked) [.slice none 0 0, zAct] 8 Try.func8 (by kernel_rfl) (by kernel_rfl) (by kernel_rfl) (by kernel_rfl) (by kernel_rfl) (by kernel_rfl) (by kernel_rfl))
    rfl (by kernel_rfl) (by kernel_rfl) (by kernel_rfl) rfl Try.underlying4 rfl
    (fun ds h => match ds, h with | [_, _], _ => rfl)
    (by kernel_rfl) (by kernel_rfl)
    (fun ys ao cap w => match ys with
      | (x, ()) => empB x ao cap w)
    (fun ys D w hD hl => match ys with
      | (x, ()) => nonB x D w hD hl)

theorem memBytes_row : Rows.MemBytesSaid :=
  OpenClaim.holds_of_wide 8 Try.f8 rfl rfl rfl rfl rfl rfl rfl ⟨rfl, rfl, rfl, rfl, rfl⟩ rfl rfl rfl rfl rfl (by kernel_rfl) Try.func8 (by kernel_rfl)
    (of_decide_eq_true (by kernel_rfl)) (by unfold Func.isWrapper; first | (rw [if_pos (by decide +kernel)]; kernel_rfl) | (rw [if_neg (by decide +kernel)]; exact ⟨rfl, rfl⟩))
    (fun os started H enc _ => lift8 os started H enc)
end Go.Rf

namespace Go.Proofs.Ytadkiiaagdhhlaa
theorem memBytes_holds : Rows.MemBytesSaid := Go.Rf.memBytes_row
end Go.Proofs.Ytadkiiaagdhhlaa
