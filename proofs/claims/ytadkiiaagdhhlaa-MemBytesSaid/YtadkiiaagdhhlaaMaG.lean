/- Memory: laws over stores, plain. -/
import Derived.Test.YtadkiiaagdhhlaaMaE
set_option linter.unusedVariables false
set_option linter.unusedSimpArgs false
set_option maxRecDepth 100000
namespace Go.Rf
theorem bitN_bit : ∀ q, q < 8 → ∀ j, j < 8 → (bitN q).getLsbD j = decide (j = q) := by
  intro q hq j hj
  unfold bitN
  rw [BitVec.getLsbD_shiftLeft]
  by_cases h : j = q
  · subst h; simp [hj]
  · rw [decide_eq_false h]
    by_cases h2 : j < q
    · simp [h2]
    · have : (1#8 : B8).getLsbD (j - q) = false := by
        have e : j - q ≠ 0 := by omega
        rw [BitVec.getLsbD_one]
        simp [e]
      simp [this]
theorem hN_bit (h : B8) (F : Nat) : ∀ k, F + k ≤ 8 → ∀ j, j < 8 → (hN h F k).getLsbD j = (h.getLsbD j || (decide (F ≤ j) && decide (j < F + k)))
  | 0, _, j, _ => by
    rw [Bool.eq_iff_iff]
    simp only [hN, Bool.or_eq_true, Bool.and_eq_true, decide_eq_true_eq]
    constructor
    · exact .inl
    · rintro (h | h)
      · exact h
      · omega
  | k + 1, hk, j, hj => by
    rw [hN, BitVec.getLsbD_or, hN_bit h F k (by omega) j hj, bitN_bit (F + k) (by omega) j hj, Bool.or_assoc]
    congr 1
    rw [Bool.eq_iff_iff]
    simp only [Bool.or_eq_true, Bool.and_eq_true, decide_eq_true_eq]
    omega
theorem bN_at (b : Nat → B8) (F : Nat) (n : W) : ∀ k j, bN b F n k j = if F ≤ j ∧ j < F + k then byteAt8 n (j - F) else b j
  | 0, j => by rw [if_neg (by omega)]; rfl
  | k + 1, j => by
    simp only [bN, updB]
    by_cases h : j = F + k
    · subst h
      rw [if_pos rfl, if_pos (by omega), Nat.add_sub_cancel_left]
    · rw [if_neg h, bN_at b F n k j]
      by_cases h2 : F ≤ j ∧ j < F + k
      · rw [if_pos h2, if_pos (by omega)]
      · rw [if_neg h2, if_neg (by omega)]

/-- What a store that is carried out is. -/
structure StOk (f : Fra) (a : Act) : Prop where
  right : rightF f = true
  may : mayV a.v = true
  size : sizeB a.s = true
  pl : PlaceOk a.o a.s
  p0 : placeW a.o a.s = 0#64
  k0 : a.v.k ≠ 0#8
  adr : addrV a.v = true → a.s = 8#64
  eq : actS f a = setF f (kO a.o) (bif addrV a.v then adM a.v else putM (baseM (slotAt f a.o)) (fO a.o) a.s.toNat a.v.n)
theorem act_cases (f : Fra) (a : Act) : (actE f a ≠ 0#64 ∧ actS f a = zF) ∨ (actE f a = 0#64 ∧ StOk f a) := by
  unfold actE actS storeE
  cases hA : cS f a.v a.s with
  | true => left; exact ⟨by show (1#64 : W) ≠ 0#64; decide, by unfold storeF; rw [hA]; rfl⟩
  | false =>
    have hc := not_cS (f := f) (v := a.v) (s := a.s) (by rw [hA]; rfl)
    cases h0 : (a.v.k == 0#8) with
    | true => left; exact ⟨by show (40#64 : W) ≠ 0#64; decide, by unfold storeF; rw [hA, h0]; rfl⟩
    | false =>
      cases hP : cP a.o a.s with
      | true =>
        left
        refine ⟨?_, by unfold storeF; rw [hA, h0, hP]; rfl⟩
        show placeW a.o a.s ≠ 0#64
        unfold cP at hP
        simpa using hP
      | false =>
        have p0 := not_cP (o := a.o) (s := a.s) (by rw [hP]; rfl)
        have pl := place_ok hc.2.2 p0
        have hk : a.v.k ≠ 0#8 := by simpa using h0
        cases hv : addrV a.v with
        | true =>
          cases h8 : (a.s != 8#64) with
          | true => left; exact ⟨by show (41#64 : W) ≠ 0#64; decide, by unfold storeF; rw [hA, h0, hP, hv, h8]; rfl⟩
          | false =>
            right
            refine ⟨rfl, hc.1, hc.2.1, hc.2.2, pl, p0, hk, fun _ => by simpa using h8, ?_⟩
            unfold actS storeF
            rw [hA, h0, hP, hv, h8]; rfl
        | false =>
          right
          refine ⟨rfl, hc.1, hc.2.1, hc.2.2, pl, p0, hk, fun h => absurd (hv.symm.trans h) (by decide), ?_⟩
          unfold actS storeF
          rw [hA, h0, hP, hv]; rfl
theorem not_addr_nil {m : MSl} (h : rightS m = true) (ha : addrV m.v = false) : m.v = nilV := by
  unfold rightS at h
  cases he : eqVal m.v nilV with
  | true => exact eqVal_iff.1 he
  | false =>
    rw [he, ha] at h
    simp at h
theorem nilM_right : rightS nilM = true := by decide
theorem base_right {m : MSl} (h : rightS m = true) : rightS (baseM m) = true ∧ (baseM m).v = nilV := by
  unfold baseM
  cases ha : addrV m.v with
  | true => exact ⟨nilM_right, rfl⟩
  | false => exact ⟨h, not_addr_nil h ha⟩
theorem put_right {m : MSl} (h : rightS m = true) (hv : m.v = nilV) {F k : Nat} (hk : F + k ≤ 8) (n : W) : rightS (putM m F k n) = true := by
  unfold rightS at h ⊢
  have e : eqVal m.v nilV = true := eqVal_iff.2 hv
  have e' : (putM m F k n).v = m.v := rfl
  rw [e', e]
  rw [e] at h
  simp only [cond_true, allN_iff, Bool.or_eq_true, beq_iff_eq] at h ⊢
  intro j hj
  show bN m.b F n k j = 0#8 ∨ (hN m.h F k).getLsbD j = true
  rw [hN_bit m.h F k hk j hj, bN_at]
  by_cases hin : F ≤ j ∧ j < F + k
  · right; simp [hin]
  · rw [if_neg hin]
    rcases h j hj with h | h
    · left; exact h
    · right; simp [h]
theorem ad_right {v : Val} (h1 : mayV v = true) (h2 : addrV v = true) : rightS (adM v) = true := by
  unfold rightS adM
  have : eqVal v nilV = false := by
    cases he : eqVal v nilV with
    | false => rfl
    | true => rw [eqVal_iff.1 he] at h2; exact absurd h2 (by decide)
  simp only [this, h1, h2]
  decide
theorem set_right {f : Fra} (hf : rightF f = true) {K : Nat} {m : MSl} (hm : rightS m = true) : rightF (setF f K m) = true := by
  unfold rightF at *
  rw [allN_iff] at *
  intro i hi
  unfold setF
  split
  · exact hm
  · exact hf i hi
theorem st_right {f : Fra} {a : Act} (h : StOk f a) : rightF (actS f a) = true := by
  rw [h.eq]
  refine set_right h.right ?_
  cases hv : addrV a.v with
  | true => exact ad_right h.may hv
  | false =>
    obtain ⟨b1, b2⟩ := base_right (slot_right h.right h.pl)
    exact put_right b1 b2 h.pl.room _
theorem zF_right : rightF zF = true := by decide
theorem frF_right (n : Nat) (ac : Nat → Act) : rightF ((⟨zF, 0#64⟩ : FrS).rf n ac) = true := by
  have : rightF (runN (FrS.go n) (FrS.nxt ac) 60 ⟨zF, 0#64⟩).f = true := by
    refine runN_inv (go := FrS.go n) (next := FrS.nxt ac) (fun s => rightF s.f = true) (fun s h _ => ?_) 60 _ zF_right
    unfold FrS.nxt
    split
    · rename_i hok
      rcases act_cases s.f (ac (ixN s.i)) with ⟨h1, _⟩ | ⟨_, h2⟩
      · unfold FrS.ok at hok
        exact absurd (by simpa using hok) h1
      · exact st_right h2
    · exact h
  exact this

/-! A number of so many bytes. -/
theorem byte_nat (n : W) (i : Nat) : (byteAt8 n i).toNat = n.toNat / 2 ^ (8 * i) % 256 := by
  unfold byteAt8
  rw [BitVec.toNat_setWidth, BitVec.toNat_ushiftRight, Nat.shiftRight_eq_div_pow]
theorem valN_nat (n : W) : ∀ (k i F : Nat) (b : Nat → B8), i + k ≤ 8 → (∀ j, j < k → b (F + j) = byteAt8 n (i + j)) → (valN b F k).toNat = n.toNat / 2 ^ (8 * i) % 256 ^ k
  | 0, i, F, b, _, _ => by simp [valN, Nat.mod_one]
  | k + 1, i, F, b, hk, hb => by
    have ih := valN_nat n k (i + 1) (F + 1) b (by omega) (fun j hj => by
      have := hb (j + 1) (by omega)
      rw [show F + 1 + j = F + (j + 1) by omega, this, show i + 1 + j = i + (j + 1) by omega])
    have h0 := hb 0 (by omega)
    simp only [Nat.add_zero] at h0
    rw [valN, BitVec.toNat_add, BitVec.toNat_mul, zx_nat, h0, byte_nat, ih]
    have e256 : (256#64 : W).toNat = 256 := rfl
    rw [e256]
    have e1 : n.toNat / 2 ^ (8 * (i + 1)) = n.toNat / 2 ^ (8 * i) / 256 := by
      rw [Nat.div_div_eq_div_mul, Nat.mul_succ, Nat.pow_add]
    rw [e1]
    generalize n.toNat / 2 ^ (8 * i) = m
    have key : m % 256 ^ (k + 1) = m % 256 + 256 * (m / 256 % 256 ^ k) := by
      rw [Nat.pow_succ, Nat.mul_comm (256 ^ k) 256, Nat.mod_mul]
    rw [← Nat.add_mod_mod, Nat.mod_mod, Nat.add_mod_mod]
    rw [← key]
    have hle : 256 ^ (k + 1) ≤ 2 ^ 64 := by
      have : (256 : Nat) ^ (k + 1) ≤ 256 ^ 8 := Nat.pow_le_pow_right (by decide) (by omega)
      have e : (256 : Nat) ^ 8 = 2 ^ 64 := by decide
      omega
    have : m % 256 ^ (k + 1) < 256 ^ (k + 1) := Nat.mod_lt _ (Nat.pow_pos (by decide))
    rw [Nat.mod_eq_of_lt (by omega)]
theorem cut_nat {n s : W} (h : sizeB s = true) : (cutW n s).toNat = n.toNat % 256 ^ s.toNat := by
  unfold cutW
  rcases sizeB_iff.1 h with rfl | rfl | rfl | rfl
  · show (n &&& ((1#64 <<< jU (8#64 * 1#64)) - 1#64)).toNat = n.toNat % 256 ^ 1
    have : ((1#64 <<< jU (8#64 * 1#64)) - 1#64 : W) = 255#64 := by decide
    rw [this, BitVec.toNat_and]
    exact Nat.and_two_pow_sub_one_eq_mod n.toNat 8
  · show (n &&& ((1#64 <<< jU (8#64 * 2#64)) - 1#64)).toNat = n.toNat % 256 ^ 2
    have : ((1#64 <<< jU (8#64 * 2#64)) - 1#64 : W) = 65535#64 := by decide
    rw [this, BitVec.toNat_and]
    exact Nat.and_two_pow_sub_one_eq_mod n.toNat 16
  · show (n &&& ((1#64 <<< jU (8#64 * 4#64)) - 1#64)).toNat = n.toNat % 256 ^ 4
    have : ((1#64 <<< jU (8#64 * 4#64)) - 1#64 : W) = 4294967295#64 := by decide
    rw [this, BitVec.toNat_and]
    exact Nat.and_two_pow_sub_one_eq_mod n.toNat 32
  · show n.toNat = n.toNat % 256 ^ 8
    have e : (256 : Nat) ^ 8 = 2 ^ 64 := by decide
    rw [e, Nat.mod_eq_of_lt n.isLt]
theorem put_val {m : MSl} {F : Nat} {n s : W} (h : sizeB s = true) (hk : F + s.toNat ≤ 8) : valN (putM m F s.toNat n).b F s.toNat = cutW n s := by
  have h8 := size_nat (sizeB_iff.1 h)
  apply BitVec.eq_of_toNat_eq
  rw [cut_nat h, valN_nat n s.toNat 0 F _ (by omega) (fun j hj => by
    show bN m.b F n s.toNat (F + j) = _
    rw [bN_at, if_pos (by omega), Nat.add_sub_cancel_left, Nat.zero_add])]
  simp
theorem put_all {m : MSl} {F k : Nat} (hk : F + k ≤ 8) (n : W) : hasAll (putM m F k n) F k = true := by
  unfold hasAll
  rw [allN_iff]
  intro i hi
  show (hN m.h F k).getLsbD (F + i) = true
  rw [hN_bit m.h F k hk (F + i) (by omega)]
  simp [hi]
end Go.Rf
