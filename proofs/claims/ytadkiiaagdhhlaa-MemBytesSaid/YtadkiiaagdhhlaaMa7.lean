/- Memory: what Load answers. -/
import Derived.Test.YtadkiiaagdhhlaaMa6
set_option linter.unusedVariables false
set_option linter.unusedSimpArgs false
set_option maxRecDepth 100000
namespace Go.Rf
open Go.Proofs
def fO (o : W) : Nat := o.toNat % 8
def okL (f : Fra) (o s : W) : Bool := hasAll (slotAt f o) (fO o) s.toNat
def loadV (f : Fra) (o s : W) : Val :=
  bif cA f s then nilV else bif cP o s then nilV else bif addrV (slotAt f o).v then (bif s != 8#64 then nilV else (slotAt f o).v) else bif okL f o s then numV (valN (slotAt f o).b (fO o) s.toNat) else nilV
def loadE (f : Fra) (o s : W) : W :=
  bif cA f s then 1#64 else bif cP o s then placeW o s else bif addrV (slotAt f o).v then (bif s != 8#64 then 41#64 else 0#64) else bif okL f o s then 0#64 else 40#64

theorem ld_hit {f : Fra} {o s : W} (h : PlaceOk o s) : (ldS f o s).hit = !okL f o s ∧ (okL f o s = true → (ldS f o s).an = valN (slotAt f o).b (fO o) s.toNat) := by
  have h3 := size_nat h.s4
  have hr := h.room
  have hk : fO o + s.toNat ≤ 8 := hr
  have e0 : ldS f o s = ldAt (slotAt f o) (fO o) s.toNat (remI o 8#64) 0#64 0 := by
    unfold ldS ldAt
    congr 1
    apply BitVec.eq_of_toInt_eq
    have e1 : (1#64 : W).toNat = 1 := rfl
    have b1 : (remI o 8#64 + s - 1#64).toNat = fO o + s.toNat - 1 := by
      rw [BitVec.toNat_sub, BitVec.toNat_add, e1, h.rem]
      unfold fO
      omega
    rw [toInt_small (by omega), b1]
    have := ofInt_Int (z := ((fO o : Int) + s.toNat - 1 - (0 : Nat))) (by omega) (by omega)
    rw [this]
    omega
  have hm : (ldS f o s).mu = s.toNat := by
    have hi := ldS_inv (f := f) h
    unfold LdS.mu
    have e1 : (ldS f o s).fr.toInt = fO o := by
      show (remI o 8#64).toInt = _
      rw [toInt_small (by rw [h.rem]; omega), h.rem]; rfl
    have e2 : (ldS f o s).j.toInt = fO o + s.toNat - 1 := by
      rw [e0]
      show (BitVec.ofInt 64 ((fO o : Int) + s.toNat - 1 - (0 : Nat))).toInt = _
      rw [ofInt_Int (by omega) (by omega)]
      omega
    rw [e1, e2]
    omega
  have er : (ldS f o s).run = runN LdS.go LdS.nxt s.toNat (ldS f o s) := by
    unfold LdS.run
    rw [runN_ge LdS.dec 8 _ (ldS_inv h) (by rw [hm]; omega), hm]
  unfold LdS.hit LdS.an
  rw [er, e0]
  exact ldRun _ _ _ _ _ h.rem hk
theorem le_hit {f : Fra} {o s : W} (h : PlaceOk o s) : (leS f o s).hit = !okL f o s ∧ (okL f o s = true → (leS f o s).an = valN (slotAt f o).b (fO o) s.toNat) := by
  have h3 := size_nat h.s4
  have hk : fO o + s.toNat ≤ 8 := h.room
  have hm : (leS f o s).mu = s.toNat := by
    unfold LeS.mu leS
    show s.toNat - (0#64 : W).toNat = _
    have z : (0#64 : W).toNat = 0 := rfl
    omega
  have er : (leS f o s).run = runN LeS.go LeS.nxt s.toNat (leS f o s) := by
    unfold LeS.run
    rw [runN_ge LeS.dec 8 _ (leS_inv h) (by rw [hm]; omega), hm]
  unfold LeS.hit LeS.an
  rw [er]
  exact leRun _ _ _ _ _ _ h.rem rfl hk
theorem lt8_ne {s : W} (h : sizeB s = true) : ltB .i64 s 8#64 = (s != 8#64) := by
  rcases sizeB_iff.1 h with rfl | rfl | rfl | rfl <;> decide
theorem right_val {m : MSl} (h : rightS m = true) : mayV m.v = true := by
  unfold rightS at h
  cases he : eqVal m.v nilV with
  | true => rw [eqVal_iff.1 he]; rfl
  | false =>
    rw [he] at h
    simp only [cond_false, Bool.and_eq_true] at h
    exact h.1.1.1
theorem slot_right {f : Fra} {o s : W} (hf : rightF f = true) (h : PlaceOk o s) : rightS (slotAt f o) = true := by
  have h2 := (qI_ix h).2.2
  exact allN_iff.1 hf _ h2
theorem ld_eq (f : Fra) (o s : W) : ldV f o s = loadV f o s ∧ ldE f o s = loadE f o s ∧ ldDV f o s = loadV f o s ∧ ldDE f o s = loadE f o s := by
  unfold ldV ldE ldDV ldDE loadV loadE
  simp only [Val.mux_eq]
  cases hA : cA f s with
  | true => exact ⟨rfl, rfl, rfl, rfl⟩
  | false =>
    cases hP : cP o s with
    | true => exact ⟨rfl, rfl, rfl, rfl⟩
    | false =>
      have hc := not_cA (f := f) (s := s) (by rw [hA]; rfl)
      have h := place_ok hc.2 (not_cP (by rw [hP]; rfl))
      obtain ⟨p1, p2⟩ := ld_hit (f := f) h
      obtain ⟨q1, q2⟩ := le_hit (f := f) h
      rw [p1, q1, addr_same (right_val (slot_right hc.1 h)), lt8_ne hc.2]
      cases ho : okL f o s with
      | true =>
        rw [p2 ho, q2 ho]
        exact ⟨rfl, rfl, rfl, rfl⟩
      | false => exact ⟨rfl, rfl, rfl, rfl⟩
noncomputable def ldRes (f : Fra) (o s : W) : AV := pair (eVal (loadV f o s)) (eI (loadE f o s))
theorem k11 : ConOk Try.prog 11 (con3 cFra cI cI ldRes) :=
  (show (con3 cFra cI cI fun f o s => pair (eVal (ldV f o s)) (eI (ldE f o s))) = con3 cFra cI cI ldRes from congrArg _ (by funext f o s; unfold ldRes; rw [(ld_eq f o s).1, (ld_eq f o s).2.1])) ▸ kk11
theorem k13 : ConOk Try.prog 13 (con3 cFra cI cI ldRes) :=
  (show (con3 cFra cI cI fun f o s => pair (eVal (ldDV f o s)) (eI (ldDE f o s))) = con3 cFra cI cI ldRes from congrArg _ (by funext f o s; unfold ldRes; rw [(ld_eq f o s).2.2.1, (ld_eq f o s).2.2.2])) ▸ kk13
noncomputable def ma6 : List (FuncId × Con) := (11, con3 cFra cI cI ldRes) :: (13, con3 cFra cI cI ldRes) :: ma5
theorem rma6 : TabOk Try.prog (tabOf ma6) := tabOf_cons (tabOf_cons rma5 k13) k11
end Go.Rf
