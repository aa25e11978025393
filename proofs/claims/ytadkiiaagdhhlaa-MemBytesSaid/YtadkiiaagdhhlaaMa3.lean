/- Memory: places, sizes. -/
import Derived.Test.YtadkiiaagdhhlaaMa2
set_option linter.unusedVariables false
set_option linter.unusedSimpArgs false
set_option maxRecDepth 100000
namespace Go.Rf
open Go.Proofs
def remI (x y : W) : W := remB .i64 x y
def sizeB (s : W) : Bool := s == 1#64 || s == 2#64 || s == 4#64 || s == 8#64
def offB (o s : W) : Bool := ltB .i64 o 0#64 || ltB .i64 (512#64 - s) o
def placeW (o s : W) : W := bif offB o s then 42#64 else bif remI o s != 0#64 then 43#64 else 0#64
def placeD (o s : W) : W := bif offB o s then 42#64 else bif ltB .i64 0#64 (remI o s) then 43#64 else 0#64
def numV (n : W) : Val := ⟨1#8, 0#64, n, 0#64⟩
def cutW (n s : W) : W := bif s == 8#64 then n else n &&& ((1#64 <<< jU (8#64 * s)) - 1#64)
theorem k29 : ConOk Try.prog 29 (con1 cI fun s => eB (sizeB s)) := con1_ok rma4 (Λ := noHooks) 5 (fun _ => rfl) (fun x => Ev.of (by kernel_rfl))
theorem k32 : ConOk Try.prog 32 (con1 cI fun s => eB (sizeB s)) := con1_ok rma4 (Λ := noHooks) 5 (fun _ => rfl) (fun x => Ev.of (by kernel_rfl))
theorem k28 : ConOk Try.prog 28 (con1 cW fun s => eVal (numV s)) := con1_ok rma4 (Λ := noHooks) 5 (fun _ => rfl) (fun x => Ev.of (by kernel_rfl))
theorem k23 : ConOk Try.prog 23 (con2 cW cI fun n s => eW (cutW n s)) := con2_ok rma4 (Λ := noHooks) 5 (fun _ _ => rfl) (fun x y => Ev.of (by kernel_rfl))
theorem k30 : ConOk Try.prog 30 (con2o cI cI (fun o s => eI (placeW o s)) (fun o s => s ≠ 0#64)) :=
  con2o_ok rma4 (Λ := noHooks) 5 (fun _ _ => rfl) (fun o s h => Ev.fg (L := [([!offB o s], s ≠ 0#64)]) (by kernel_rfl) (fun e he _ => by simp only [List.mem_singleton] at he; subst he; exact h))
theorem kk33 : ConOk Try.prog 33 (con2o cI cI (fun o s => eI (placeD o s)) (fun o s => s ≠ 0#64)) :=
  con2o_ok rma4 (Λ := noHooks) 5 (fun _ _ => rfl) (fun o s h => Ev.fg (L := [([!offB o s], s ≠ 0#64)]) (by kernel_rfl) (fun e he _ => by simp only [List.mem_singleton] at he; subst he; exact h))
theorem place_same (o s : W) : placeD o s = placeW o s := by
  unfold placeD placeW
  cases h : offB o s with
  | true => rfl
  | false =>
    unfold offB at h
    simp only [Bool.or_eq_false_iff] at h
    have h0 : 0 ≤ o.toInt := by
      have := h.1
      rw [ltI, decide_eq_false_iff_not] at this
      have z : (0#64 : W).toInt = 0 := rfl
      omega
    have e : ltB .i64 0#64 (remI o s) = (remI o s != 0#64) := by
      have hr : (remI o s).toInt = o.toInt.tmod s.toInt := by
        show (o.srem s).toInt = _
        rw [BitVec.toInt_srem]
      have hp : 0 ≤ (remI o s).toInt := by rw [hr]; exact Int.tmod_nonneg _ h0
      have z : (0#64 : W).toInt = 0 := rfl
      rw [Bool.eq_iff_iff, ltI, decide_eq_true_eq, bne_iff_ne, z]
      constructor
      · intro hlt e; rw [e] at hlt; exact absurd hlt (by decide)
      · intro hne
        rcases Int.lt_or_eq_of_le hp with hh | hh
        · exact hh
        · exact absurd (BitVec.eq_of_toInt_eq (by rw [← hh]; rfl)) hne
    rw [e]
theorem k33 : ConOk Try.prog 33 (con2o cI cI (fun o s => eI (placeW o s)) (fun o s => s ≠ 0#64)) :=
  (show (con2o cI cI (fun o s => eI (placeD o s)) (fun o s => s ≠ 0#64)) = (con2o cI cI (fun o s => eI (placeW o s)) (fun o s => s ≠ 0#64)) from by
    have : (fun o s => eI (placeD o s)) = (fun o s => eI (placeW o s)) := by funext o s; rw [place_same]
    rw [this]) ▸ kk33
noncomputable def ma5 : List (FuncId × Con) := (29, con1 cI fun s => eB (sizeB s)) :: (32, con1 cI fun s => eB (sizeB s)) :: (28, con1 cW fun s => eVal (numV s)) :: (23, con2 cW cI fun n s => eW (cutW n s)) ::
  (30, con2o cI cI (fun o s => eI (placeW o s)) (fun o s => s ≠ 0#64)) :: (33, con2o cI cI (fun o s => eI (placeW o s)) (fun o s => s ≠ 0#64)) :: ma4
theorem rma5 : TabOk Try.prog (tabOf ma5) := tabOf_cons (tabOf_cons (tabOf_cons (tabOf_cons (tabOf_cons (tabOf_cons rma4 k33) k30) k23) k28) k32) k29
end Go.Rf
