/- Memory: the contracts of Load. -/
import Derived.Test.YtadkiiaagdhhlaaMa4
set_option linter.unusedVariables false
set_option linter.unusedSimpArgs false
set_option maxRecDepth 100000
namespace Go.Rf
open Go.Proofs
def qI (o : W) : W := quoB .i64 o 8#64
def Val.mux (c : Bool) (x y : Val) : Val := ⟨bif c then x.k else y.k, bif c then x.m else y.m, bif c then x.n else y.n, bif c then x.o else y.o⟩
theorem Val.mux_eq (c : Bool) (x y : Val) : Val.mux c x y = bif c then x else y := by cases c <;> rfl
def slotAt (f : Fra) (o : W) : MSl := f (ixN (qI o))
def cA (f : Fra) (s : W) : Bool := !rightF f || !sizeB s
def cP (o s : W) : Bool := placeW o s != 0#64
def ldS (f : Fra) (o s : W) : LdS := ⟨slotAt f o, remI o 8#64, remI o 8#64 + s - 1#64, 0#64, 0#64⟩
def ldV (f : Fra) (o s : W) : Val :=
  Val.mux (cA f s) nilV (Val.mux (cP o s) nilV (Val.mux (addrV (slotAt f o).v) (Val.mux (s != 8#64) nilV (slotAt f o).v) (Val.mux (ldS f o s).hit nilV (numV (ldS f o s).an))))
def ldE (f : Fra) (o s : W) : W :=
  bif cA f s then 1#64 else bif cP o s then placeW o s else bif addrV (slotAt f o).v then (bif s != 8#64 then 41#64 else 0#64) else bif (ldS f o s).hit then 40#64 else 0#64
noncomputable def hLd : FuncId → Hook := fun f p => if f == 11 && p == pLd then some (lpLd.hk LdS.T) else none
/-! Places. -/
structure PlaceOk (o s : W) : Prop where
  s4 : s = 1#64 ∨ s = 2#64 ∨ s = 4#64 ∨ s = 8#64
  ot : o.toNat < 512
  fit : o.toNat + s.toNat ≤ 512
  rem : (remI o 8#64).toNat = o.toNat % 8
  quo : (qI o).toNat = o.toNat / 8
  room : o.toNat % 8 + s.toNat ≤ 8
theorem sizeB_iff {s : W} : sizeB s = true ↔ s = 1#64 ∨ s = 2#64 ∨ s = 4#64 ∨ s = 8#64 := by
  unfold sizeB
  simp only [Bool.or_eq_true, beq_iff_eq, or_assoc]
theorem rem_nat {o s : W} (h0 : 0 ≤ o.toInt) (hs : 0 ≤ s.toInt) : (remI o s).toNat = o.toNat % s.toNat := by
  have h1 := nat_of_int h0
  have h2 := nat_of_int hs
  have e : (remI o s).toInt = o.toInt.tmod s.toInt := by
    show (o.srem s).toInt = _
    rw [BitVec.toInt_srem]
  have hp : 0 ≤ (remI o s).toInt := by rw [e]; exact Int.tmod_nonneg _ h0
  have h3 := nat_of_int hp
  rw [e, h1, h2, Int.tmod_eq_emod_of_nonneg (by omega)] at h3
  omega
theorem quo_nat {o : W} (h0 : 0 ≤ o.toInt) : (qI o).toNat = o.toNat / 8 := by
  have h1 := nat_of_int h0
  have e8 : (8#64 : W).toInt = 8 := rfl
  have e : (qI o).toInt = o.toInt.tdiv 8 := by
    show (o.sdiv 8#64).toInt = _
    rw [BitVec.toInt_sdiv_of_ne_or_ne _ _ (.inr (by decide)), e8]
  have hq : o.toInt.tdiv 8 = o.toInt / 8 := Int.tdiv_eq_ediv_of_nonneg h0
  have hp : 0 ≤ (qI o).toInt := by rw [e, hq]; omega
  have h3 := nat_of_int hp
  rw [e, hq, h1] at h3
  omega
theorem place_ok {o s : W} (h1 : sizeB s = true) (h2 : placeW o s = 0#64) : PlaceOk o s := by
  have hs := sizeB_iff.1 h1
  unfold placeW at h2
  cases hb : offB o s with
  | true => rw [hb] at h2; exact absurd (show (42#64 : W) = 0#64 from h2) (by decide)
  | false =>
    rw [hb] at h2
    cases hr : (remI o s != 0#64) with
    | true => rw [hr] at h2; exact absurd (show (43#64 : W) = 0#64 from h2) (by decide)
    | false =>
      unfold offB at hb
      simp only [Bool.or_eq_false_iff, ltI, decide_eq_false_iff_not] at hb
      have z : (0#64 : W).toInt = 0 := rfl
      have h0 : 0 ≤ o.toInt := by omega
      have hn := nat_of_int h0
      have hr' : remI o s = 0#64 := by simpa using hr
      have q8 := rem_nat (o := o) (s := 8#64) h0 (by decide)
      have qs : o.toNat % s.toNat = 0 := by
        have := rem_nat (o := o) (s := s) h0 (by rcases hs with rfl | rfl | rfl | rfl <;> decide)
        rw [hr'] at this
        exact this.symm
      have e8 : (8#64 : W).toNat = 8 := rfl
      rw [e8] at q8
      have hq := quo_nat h0
      have fit : o.toNat + s.toNat ≤ 512 := by
        have := hb.2
        rcases hs with rfl | rfl | rfl | rfl
        · have e : (512#64 - 1#64 : W).toInt = 511 := rfl
          have e2 : (1#64 : W).toNat = 1 := rfl
          omega
        · have e : (512#64 - 2#64 : W).toInt = 510 := rfl
          have e2 : (2#64 : W).toNat = 2 := rfl
          omega
        · have e : (512#64 - 4#64 : W).toInt = 508 := rfl
          have e2 : (4#64 : W).toNat = 4 := rfl
          omega
        · have e : (512#64 - 8#64 : W).toInt = 504 := rfl
          have e2 : (8#64 : W).toNat = 8 := rfl
          omega
      refine ⟨hs, ?_, fit, q8, hq, ?_⟩
      · rcases hs with rfl | rfl | rfl | rfl <;> (have e2 : (1#64 : W).toNat = 1 ∧ (2#64 : W).toNat = 2 ∧ (4#64 : W).toNat = 4 ∧ (8#64 : W).toNat = 8 := ⟨rfl, rfl, rfl, rfl⟩; omega)
      · rcases hs with rfl | rfl | rfl | rfl
        · have e2 : (1#64 : W).toNat = 1 := rfl
          omega
        · have e2 : (2#64 : W).toNat = 2 := rfl
          rw [e2] at qs ⊢
          omega
        · have e2 : (4#64 : W).toNat = 4 := rfl
          rw [e2] at qs ⊢
          omega
        · have e2 : (8#64 : W).toNat = 8 := rfl
          rw [e2] at qs ⊢
          omega
theorem size_pos {s : W} (h : sizeB s = true) : s ≠ 0#64 := by
  intro e; subst e; exact absurd h (by decide)
theorem size_nat {s : W} (h : s = 1#64 ∨ s = 2#64 ∨ s = 4#64 ∨ s = 8#64) : 1 ≤ s.toNat ∧ s.toNat ≤ 8 := by
  rcases h with rfl | rfl | rfl | rfl <;> decide
theorem not_cA {f : Fra} {s : W} (h : (!cA f s) = true) : rightF f = true ∧ sizeB s = true := by
  unfold cA at h
  simpa using h
theorem not_cP {o s : W} (h : (!cP o s) = true) : placeW o s = 0#64 := by
  unfold cP at h
  simpa using h
theorem qI_ix {o s : W} (h : PlaceOk o s) : 0 ≤ toZ .i64 (qI o) ∧ toZ .i64 (qI o) < ((64 : Nat) : Int) ∧ (toZ .i64 (qI o)).toNat < 64 := by
  have h1 := h.quo
  have h2 := h.ot
  rw [toZ_nat (by omega)]
  omega
theorem toInt_small {x : W} (h : x.toNat < 2 ^ 63) : x.toInt = x.toNat := by
  rw [BitVec.toInt_eq_toNat_cond, if_pos (by omega)]
theorem ldS_inv {f : Fra} {o s : W} (h : PlaceOk o s) : (ldS f o s).inv := by
  have h1 := h.rem
  have h2 := h.room
  have h3 := size_nat h.s4
  have a : (remI o 8#64).toInt = o.toNat % 8 := by rw [toInt_small (by omega)]; omega
  have e1 : (1#64 : W).toNat = 1 := rfl
  have b1 : (remI o 8#64 + s - 1#64).toNat = o.toNat % 8 + s.toNat - 1 := by
    rw [BitVec.toNat_sub, BitVec.toNat_add, e1, h1]
    omega
  have b : (remI o 8#64 + s - 1#64).toInt = o.toNat % 8 + s.toNat - 1 := by
    rw [toInt_small (by omega), b1]
    omega
  unfold LdS.inv ldS
  simp only [a, b]
  omega
noncomputable def obLd (f : Fra) (o s : W) : List (List Bool × Prop) :=
  [([!cA f s], s ≠ 0#64), ([!cP o s, !cA f s], 0 ≤ toZ .i64 (qI o) ∧ toZ .i64 (qI o) < ((64 : Nat) : Int)), ([!cP o s, !cA f s], (toZ .i64 (qI o)).toNat < 64),
   ([!addrV (slotAt f o).v, !cP o s, !cA f s], LoopGoal Try.prog (loopAt Try.prog 11 pLd) lpLd LdS.T (ldS f o s) 3 70 0)]
theorem obLd_ok (f : Fra) (o s : W) : ∀ e ∈ obLd f o s, (∀ g ∈ e.1, g = true) → e.2 := by
  intro e he hg
  simp only [obLd, List.mem_cons, List.not_mem_nil, or_false] at he
  rcases he with rfl | rfl | rfl | rfl
  · exact size_pos (not_cA (hg (!cA f s) (by simp))).2
  all_goals
    have h := place_ok (not_cA (hg (!cA f s) (by simp))).2 (not_cP (hg (!cP o s) (by simp)))
  · exact ⟨(qI_ix h).1, (qI_ix h).2.1⟩
  · exact (qI_ix h).2.2
  · exact goalLd _ (ldS_inv h)
theorem a11 (f : Fra) (o s : W) : (fg (evalN Try.prog (tabOf ma5) hLd 5 11 [cFra.enc f, cI.enc o, cI.enc s])).map (·.1) = some (pair (eVal (ldV f o s)) (eI (ldE f o s))) := by kernel_rfl
theorem b11 (f : Fra) (o s : W) : (fg (evalN Try.prog (tabOf ma5) hLd 5 11 [cFra.enc f, cI.enc o, cI.enc s])).map (·.2) = some (obLd f o s) := by kernel_rfl
theorem kk11 : ConOk Try.prog 11 (con3 cFra cI cI fun f o s => pair (eVal (ldV f o s)) (eI (ldE f o s))) :=
  con3_ok rma5 (Λ := hLd) 5 (fun _ _ _ => rfl) (fun f o s => Ev.fg2 (a11 f o s) (b11 f o s) (obLd_ok f o s))
end Go.Rf
