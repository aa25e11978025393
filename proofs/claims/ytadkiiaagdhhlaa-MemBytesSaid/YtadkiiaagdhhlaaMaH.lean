/- Memory: MemBack, MemApart, MemKinds are true. -/
import Derived.Test.YtadkiiaagdhhlaaMaF
import Derived.Test.YtadkiiaagdhhlaaMaG
set_option linter.unusedVariables false
set_option linter.unusedSimpArgs false
set_option maxRecDepth 100000
namespace Go.Rf
theorem ld_at {G : Fra} {o s : W} (hG : rightF G = true) (hs : sizeB s = true) (hp : placeW o s = 0#64) :
    loadV G o s = (bif addrV (slotAt G o).v then (bif s != 8#64 then nilV else (slotAt G o).v) else bif okL G o s then numV (valN (slotAt G o).b (fO o) s.toNat) else nilV) ∧
    loadE G o s = (bif addrV (slotAt G o).v then (bif s != 8#64 then 41#64 else 0#64) else bif okL G o s then 0#64 else 40#64) := by
  have c1 : cA G s = false := by unfold cA; rw [hG, hs]; rfl
  have c2 : cP o s = false := by unfold cP; rw [hp]; rfl
  unfold loadV loadE
  rw [c1, c2]
  exact ⟨rfl, rfl⟩
theorem ld_congr {F G : Fra} {o s : W} (h : rightF F = rightF G) (hs : slotAt F o = slotAt G o) : loadV F o s = loadV G o s ∧ loadE F o s = loadE G o s := by
  have c : cA F s = cA G s := by unfold cA; rw [h]
  unfold loadV loadE okL
  rw [c, hs]
  exact ⟨rfl, rfl⟩
theorem slot_at {F : Fra} {K : Nat} {m : MSl} {o : W} (h : kO o = K) : slotAt (setF F K m) o = m := by
  unfold slotAt
  have : ixN (qI o) = K := h
  rw [this, setF_at]
theorem slot_other {F : Fra} {K : Nat} {m : MSl} {o : W} (h : kO o ≠ K) : slotAt (setF F K m) o = slotAt F o := by
  unfold slotAt setF
  have : ixN (qI o) ≠ K := h
  rw [if_neg this]
theorem may_num {v : Val} (h : mayV v = true) (h0 : v.k ≠ 0#8) (ha : addrV v = false) : v.k = 1#8 ∧ v = numV v.n := by
  have := mayV_ok.1 h
  cases this with
  | none => exact absurd rfl h0
  | num n => exact ⟨rfl, rfl⟩
  | _ => exact absurd ha (by simp [addrV])
theorem lawBack_true {F : Fra} (hF : rightF F = true) (x : Act) : lawBack F x = true := by
  unfold lawBack
  rcases act_cases F x with ⟨h1, h2⟩ | ⟨h1, h⟩
  · have e : (actE F x != 0#64) = true := by simpa using h1
    rw [e, h2, eqFra_self]; rfl
  · rw [h1]
    have hG := st_right h
    obtain ⟨l1, l2⟩ := ld_at (o := x.o) (s := x.s) hG h.size h.p0
    have hS : slotAt (actS F x) x.o = (bif addrV x.v then adM x.v else putM (baseM (slotAt F x.o)) (fO x.o) x.s.toNat x.v.n) := by rw [h.eq]; exact slot_at rfl
    rw [l1, l2, hS]
    cases hv : addrV x.v with
    | true =>
      have h8 := h.adr hv
      have hk1 : (x.v.k == 1#8) = false := by
        unfold addrV at hv
        simp only [Bool.and_eq_true, bne_iff_ne, ne_eq] at hv
        simpa using hv.2
      have e : (adM x.v).v = x.v := rfl
      rw [hk1, h8]
      show (bif false then _ else _ ) = true
      simp only [cond_true, cond_false, Bool.not_true, e, hv]
      have : ((8#64 : W) != 8#64) = false := by decide
      rw [this, cond_false, cond_false, eqVal_self]
      rfl
    | false =>
      obtain ⟨k1, kn⟩ := may_num h.may h.k0 hv
      obtain ⟨b1, b2⟩ := base_right (slot_right h.right h.pl)
      have hok : okL (actS F x) x.o x.s = true := by
        unfold okL
        rw [hS, hv]
        exact put_all h.pl.room _
      rw [hok]
      have e1 : (putM (baseM (slotAt F x.o)) (fO x.o) x.s.toNat x.v.n).v = nilV := b2
      have e2 := put_val (m := baseM (slotAt F x.o)) (F := fO x.o) (n := x.v.n) h.size h.pl.room
      have e3 : addrV nilV = false := by decide
      simp only [cond_false, e1, e3, e2, cond_true]
      have e4 : (x.v.k == 1#8) = true := by rw [k1]; rfl
      rw [e4]
      have e5 : (⟨x.v.k, x.v.m, cutW x.v.n x.s, x.v.o⟩ : Val) = numV (cutW x.v.n x.s) := by
        rw [kn]; rfl
      rw [e5, eqVal_self]
      rfl
theorem lawKinds_true {F : Fra} (hF : rightF F = true) (x : Act) : lawKinds F x = true := by
  have hz : ∀ w, actE F x = w → kinds1 F x w = true := by
    intro w hw
    unfold kinds1
    rw [hw]
    rcases act_cases F x with ⟨h1, h2⟩ | ⟨h1, h⟩
    · rw [h2, eqFra_self]; simp
    · rw [← hw, h1]; rfl
  have hA : cS F x.v x.s = (!mayV x.v || !sizeB x.s) := by unfold cS; rw [hF]; rfl
  unfold lawKinds
  show (bif !mayV x.v || !sizeB x.s then _ else _) = true
  cases c1 : (!mayV x.v || !sizeB x.s) with
  | true => exact hz _ (by unfold actE storeE; rw [hA, c1]; rfl)
  | false =>
    cases c2 : (x.v.k == 0#8) with
    | true => exact hz _ (by unfold actE storeE; rw [hA, c1, c2]; rfl)
    | false =>
      have e : actE F x = bif cP x.o x.s then placeW x.o x.s else bif addrV x.v then (bif x.s != 8#64 then 41#64 else 0#64) else 0#64 := by
        unfold actE storeE; rw [hA, c1, c2]; rfl
      cases c3 : offB x.o x.s with
      | true =>
        have p : placeW x.o x.s = 42#64 := by unfold placeW; rw [c3]; rfl
        refine hz _ ?_
        rw [e]
        unfold cP
        rw [p]; rfl
      | false =>
        cases c4 : (remI x.o x.s != 0#64) with
        | true =>
          have p : placeW x.o x.s = 43#64 := by unfold placeW; rw [c3, c4]; rfl
          refine hz _ ?_
          rw [e]
          unfold cP
          rw [p]; rfl
        | false =>
          have p : placeW x.o x.s = 0#64 := by unfold placeW; rw [c3, c4]; rfl
          have e2 : actE F x = bif addrV x.v then (bif x.s != 8#64 then 41#64 else 0#64) else 0#64 := by
            rw [e]
            unfold cP
            rw [p]; rfl
          have e3 : (x.v.k != 0#8 && x.v.k != 1#8) = addrV x.v := rfl
          rw [e3]
          cases c5 : addrV x.v with
          | true =>
            cases c6 : (x.s != 8#64) with
            | true => exact hz _ (by rw [e2, c5, c6]; rfl)
            | false => exact hz _ (by rw [e2, c5, c6]; rfl)
          | false => exact hz _ (by rw [e2, c5]; rfl)

theorem kO_nat {o : W} (h0 : 0 ≤ o.toInt) : kO o = o.toNat / 8 := by
  unfold kO
  have := quo_nat h0
  have hn := nat_of_int h0
  have hb : o.toNat < 2 ^ 63 := by have := o.toInt_lt; omega
  rw [ixN_nat (by omega), this]
theorem place1 {o : W} (h0 : 0 ≤ o.toInt) (h1 : o.toNat < 512) : placeW o 1#64 = 0#64 := by
  unfold placeW offB
  have z : (0#64 : W).toInt = 0 := rfl
  have e : (512#64 - 1#64 : W).toInt = 511 := rfl
  have hn := nat_of_int h0
  have a : ltB .i64 o 0#64 = false := by rw [ltI, z, decide_eq_false_iff_not]; omega
  have b : ltB .i64 (512#64 - 1#64) o = false := by rw [ltI, e, decide_eq_false_iff_not]; omega
  have r : remI o 1#64 = 0#64 := by
    apply BitVec.eq_of_toNat_eq
    rw [rem_nat h0 (by decide)]
    have : (1#64 : W).toNat = 1 := rfl
    rw [this, Nat.mod_one]; rfl
  rw [a, b, r]; rfl
theorem lawApart_true {F : Fra} (hF : rightF F = true) (x : Act) (o : W) : lawApart F x o = true := by
  unfold lawApart
  rw [hF]
  show (bif (actE F x != 0#64 || ltB .i64 o 0#64) || leB .i64 512#64 o then true else _) = true
  rcases act_cases F x with ⟨h1, h2⟩ | ⟨h1, h⟩
  · have e : (actE F x != 0#64) = true := by simpa using h1
    rw [e]; rfl
  · rw [h1]
    cases ho : ltB .i64 o 0#64 with
    | true => rfl
    | false =>
      cases ho2 : leB .i64 512#64 o with
      | true => rfl
      | false =>
        have hG := st_right h
        rw [hG]
        have z : (0#64 : W).toInt = 0 := rfl
        have e512 : (512#64 : W).toInt = 512 := rfl
        rw [ltI, z, decide_eq_false_iff_not] at ho
        rw [leI, e512, decide_eq_false_iff_not] at ho2
        have o0 : 0 ≤ o.toInt := by omega
        have on := nat_of_int o0
        have hx0 : 0 ≤ x.o.toInt := by
          have := h.pl.ot
          rw [toInt_small (by omega)]; omega
        show (bif farB o x then _ else _) = true
        cases hf : farB o x with
        | true =>
          have hk : kO o ≠ kO x.o := by
            unfold farB at hf
            intro e
            have h3 := quo_nat o0
            have h4 := quo_nat hx0
            rw [kO_nat o0, kO_nat hx0] at e
            have : qI o = qI x.o := BitVec.eq_of_toNat_eq (by omega)
            rw [this] at hf
            simp at hf
          have b0 : (base8 o).toNat = o.toNat - o.toNat % 8 := by
            unfold base8
            have hr := rem_nat (o := o) (s := 8#64) o0 (by decide)
            have e8 : (8#64 : W).toNat = 8 := rfl
            rw [e8] at hr
            rw [BitVec.toNat_sub, hr]
            have := o.isLt
            omega
          have bI : 0 ≤ (base8 o).toInt := by rw [toInt_small (by omega)]; omega
          have hk2 : kO (base8 o) ≠ kO x.o := by
            rw [kO_nat bI, b0]
            rw [kO_nat o0] at hk
            intro e
            apply hk
            rw [← e]
            omega
          have s1 : slotAt F o = slotAt (actS F x) o := by rw [h.eq, slot_other hk]
          have s2 : slotAt F (base8 o) = slotAt (actS F x) (base8 o) := by rw [h.eq, slot_other hk2]
          have c1 := ld_congr (s := 1#64) (hF.trans hG.symm) s1
          have c2 := ld_congr (s := 8#64) (hF.trans hG.symm) s2
          show (((eqVal _ _ && _) && eqVal _ _) && _) = true
          rw [c1.1, c1.2, c2.1, c2.2, eqVal_self, eqVal_self]
          simp
        | false =>
          have hk : kO o = kO x.o := by
            unfold farB at hf
            have : qI o = qI x.o := by simpa using hf
            unfold kO
            rw [this]
          have hkn : o.toNat / 8 = x.o.toNat / 8 := by rw [← kO_nat o0, hk, kO_nat hx0]
          show (bif laidB o x then true else _) = true
          cases hl : laidB o x with
          | true => rfl
          | false =>
            have hs := size_nat h.pl.s4
            have hfit := h.pl.fit
            have hnl : o.toNat < x.o.toNat ∨ x.o.toNat + x.s.toNat ≤ o.toNat := by
              unfold laidB at hl
              have a1 := nat_of_int hx0
              have a2 : (x.o + x.s).toNat = x.o.toNat + x.s.toNat := by rw [BitVec.toNat_add]; omega
              have a3 : (x.o + x.s).toInt = x.o.toNat + x.s.toNat := by rw [toInt_small (by omega), a2]; omega
              rw [leI, ltI, a3] at hl
              simp only [Bool.and_eq_false_iff, decide_eq_false_iff_not] at hl
              omega
            have p1 := place1 o0 (by omega)
            have sF : slotAt F o = slotAt F x.o := by unfold slotAt; have : ixN (qI o) = ixN (qI x.o) := hk; rw [this]
            have sG : slotAt (actS F x) o = (bif addrV x.v then adM x.v else putM (baseM (slotAt F x.o)) (fO x.o) x.s.toNat x.v.n) := by rw [h.eq]; exact slot_at hk
            obtain ⟨f1, f2⟩ := ld_at (o := o) (s := 1#64) hF (by decide) p1
            obtain ⟨g1, g2⟩ := ld_at (o := o) (s := 1#64) hG (by decide) p1
            have hroom : fO x.o + x.s.toNat ≤ 8 := h.pl.room
            have hna : addrV x.v = false := by
              cases hv : addrV x.v with
              | false => rfl
              | true =>
                have h8 := h.adr hv
                rw [h8] at hroom hnl
                have e8 : (8#64 : W).toNat = 8 := rfl
                rw [e8] at hroom hnl
                unfold fO at hroom
                omega
            rw [hna, cond_false] at sG
            obtain ⟨b1, b2⟩ := base_right (slot_right h.right h.pl)
            have e1 : (putM (baseM (slotAt F x.o)) (fO x.o) x.s.toNat x.v.n).v = nilV := b2
            have e3 : addrV nilV = false := by decide
            have e81 : ((1#64 : W) != 8#64) = true := by decide
            rw [sG, e1, e3] at g1 g2
            rw [sF] at f1 f2
            simp only [cond_false] at g1 g2
            have hnin : ¬ (fO x.o ≤ fO o ∧ fO o < fO x.o + x.s.toNat) := by unfold fO; omega
            have hfo : fO o < 8 := by unfold fO; omega
            have bit : (putM (baseM (slotAt F x.o)) (fO x.o) x.s.toNat x.v.n).h.getLsbD (fO o) = (baseM (slotAt F x.o)).h.getLsbD (fO o) := by
              show (hN _ _ _).getLsbD _ = _
              rw [hN_bit _ _ _ hroom _ hfo]
              rcases Decidable.not_and_iff_not_or_not.1 hnin with hh | hh <;> simp [hh]
            have byt : (putM (baseM (slotAt F x.o)) (fO x.o) x.s.toNat x.v.n).b (fO o) = (baseM (slotAt F x.o)).b (fO o) := by
              show bN _ _ _ _ _ = _
              rw [bN_at, if_neg hnin]
            have ok1 : ∀ (f : Fra), okL f o 1#64 = (slotAt f o).h.getLsbD (fO o) := by
              intro f
              unfold okL hasAll
              have : (1#64 : W).toNat = 1 := rfl
              rw [this]
              simp [allN]
            have okG : okL (actS F x) o 1#64 = (baseM (slotAt F x.o)).h.getLsbD (fO o) := by rw [ok1, sG, bit]
            have okF : okL F o 1#64 = (slotAt F x.o).h.getLsbD (fO o) := by rw [ok1, sF]
            rw [okG] at g1 g2
            rw [okF] at f1 f2
            show (bif loadE F o 1#64 == 41#64 then _ else _) = true
            cases hA : addrV (slotAt F x.o).v with
            | true =>
              rw [hA, e81] at f1 f2
              have eb : baseM (slotAt F x.o) = nilM := by unfold baseM; rw [hA]; rfl
              rw [eb] at g2
              have en : nilM.h.getLsbD (fO o) = false := by show (0#8 : B8).getLsbD _ = false; simp
              rw [en] at g2
              rw [f2, g2]
              rfl
            | false =>
              have eb : baseM (slotAt F x.o) = slotAt F x.o := by unfold baseM; rw [hA]; rfl
              rw [hA] at f1 f2
              rw [eb] at g1 g2 byt
              simp only [cond_false] at f1 f2
              have v1 : valN (putM (slotAt F x.o) (fO x.o) x.s.toNat x.v.n).b (fO o) (1#64 : W).toNat = valN (slotAt F x.o).b (fO o) (1#64 : W).toNat := by
                show zx _ + _ = zx _ + _
                have : (putM (slotAt F x.o) (fO x.o) x.s.toNat x.v.n).b (fO o) = (slotAt F x.o).b (fO o) := byt
                rw [this]; rfl
              rw [v1] at g1
              rw [f1, f2, g1, g2]
              cases (slotAt F x.o).h.getLsbD (fO o) <;> simp [eqVal_self]
end Go.Rf
