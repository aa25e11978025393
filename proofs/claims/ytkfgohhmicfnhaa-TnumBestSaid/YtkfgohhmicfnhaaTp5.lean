/- Laws of bits: meetings, joinings, stretches. -/
import Derived.Test.YtkfgohhmicfnhaaTnC
set_option linter.unusedVariables false
set_option linter.unusedSimpArgs false
namespace Go.Rf

theorem mem_iff_bits {t : Tn} {n : W} : Mem t n ↔ ∀ i, i < 64 → t.v.getLsbD i = (n.getLsbD i && !t.m.getLsbD i) := by
  constructor
  · intro h i hi; exact h.bit i hi
  · intro h
    apply BitVec.eq_of_getLsbD_eq
    intro i hi
    rw [h i hi]
    simp [hi]

theorem noMeet_iff {a b : Tn} (ha : may a = true) (hb : may b = true) : noMeet a b = false ↔ ∀ i, i < 64 → (a.m.getLsbD i || b.m.getLsbD i || (a.v.getLsbD i == b.v.getLsbD i)) = true := by
  unfold noMeet
  rw [ha, hb]
  simp only [Bool.not_true, Bool.false_or, bne_eq_false_iff_eq]
  constructor
  · intro h i hi
    have := congrArg (fun x : W => x.getLsbD i) h
    simp only [BitVec.getLsbD_and, BitVec.getLsbD_xor, BitVec.getLsbD_not, hi, decide_true, Bool.true_and, BitVec.getLsbD_or, BitVec.getLsbD_zero] at this
    revert this
    cases a.m.getLsbD i <;> cases b.m.getLsbD i <;> cases a.v.getLsbD i <;> cases b.v.getLsbD i <;> simp
  · intro h
    apply BitVec.eq_of_getLsbD_eq
    intro i hi
    have := h i hi
    simp only [BitVec.getLsbD_and, BitVec.getLsbD_xor, BitVec.getLsbD_not, hi, decide_true, Bool.true_and, BitVec.getLsbD_or, BitVec.getLsbD_zero]
    revert this
    cases a.m.getLsbD i <;> cases b.m.getLsbD i <;> cases a.v.getLsbD i <;> cases b.v.getLsbD i <;> simp

theorem meet_mem {a b : Tn} (ha : may a = true) (hb : may b = true) (hn : noMeet a b = false) (x : W) : Mem (tMeet a b) x ↔ Mem a x ∧ Mem b x := by
  rw [mem_iff_bits, mem_iff_bits, mem_iff_bits]
  have hnn := (noMeet_iff ha hb).1 hn
  have bits : ∀ i, i < 64 → ((tMeet a b).v.getLsbD i = (x.getLsbD i && !(tMeet a b).m.getLsbD i) ↔ (a.v.getLsbD i = (x.getLsbD i && !a.m.getLsbD i) ∧ b.v.getLsbD i = (x.getLsbD i && !b.m.getLsbD i))) := by
    intro i hi
    have h1 := may_bit ha i
    have h2 := may_bit hb i
    have h3 := hnn i hi
    simp only [tMeet, fit, BitVec.getLsbD_and, BitVec.getLsbD_not, hi, decide_true, Bool.true_and, BitVec.getLsbD_or]
    revert h1 h2 h3
    cases a.m.getLsbD i <;> cases b.m.getLsbD i <;> cases a.v.getLsbD i <;> cases b.v.getLsbD i <;> cases x.getLsbD i <;> simp
  constructor
  · intro h
    exact ⟨fun i hi => ((bits i hi).1 (h i hi)).1, fun i hi => ((bits i hi).1 (h i hi)).2⟩
  · rintro ⟨h1, h2⟩ i hi
    exact (bits i hi).2 ⟨h1 i hi, h2 i hi⟩

theorem no_meet_mem {a b : Tn} (ha : may a = true) (hb : may b = true) {x : W} (h1 : Mem a x) (h2 : Mem b x) : noMeet a b = false := by
  rw [noMeet_iff ha hb]
  intro i hi
  rw [h1.bit i hi, h2.bit i hi]
  cases a.m.getLsbD i <;> cases b.m.getLsbD i <;> cases x.getLsbD i <;> rfl

theorem join_mem_l {a b : Tn} {x : W} (h : Mem a x) : Mem (tJoin a b) x := by
  rw [mem_iff_bits]
  intro i hi
  have := h.bit i hi
  simp only [tJoin, fit, BitVec.getLsbD_and, BitVec.getLsbD_not, hi, decide_true, Bool.true_and, BitVec.getLsbD_or, BitVec.getLsbD_xor, this]
  cases a.m.getLsbD i <;> cases b.m.getLsbD i <;> cases b.v.getLsbD i <;> cases x.getLsbD i <;> rfl

theorem join_mem_r {a b : Tn} {x : W} (h : Mem b x) : Mem (tJoin a b) x := by
  rw [mem_iff_bits]
  intro i hi
  have := h.bit i hi
  simp only [tJoin, fit, BitVec.getLsbD_and, BitVec.getLsbD_not, hi, decide_true, Bool.true_and, BitVec.getLsbD_or, BitVec.getLsbD_xor, this]
  cases a.m.getLsbD i <;> cases b.m.getLsbD i <;> cases a.v.getLsbD i <;> cases x.getLsbD i <;> rfl

/-! Stretches. -/

theorem bit_eq_div (x : W) (i : Nat) : x.getLsbD i = decide (x.toNat / 2 ^ i % 2 = 1) := Nat.testBit_eq_decide_div_mod_eq

theorem nxor (a b : Nat) : a ^^^ b = 0 ↔ a = b := by
  constructor
  · intro h
    apply Nat.eq_of_testBit_eq
    intro i
    have := congrArg (fun n => n.testBit i) h
    simp only [Nat.testBit_xor, Nat.zero_testBit] at this
    revert this
    cases a.testBit i <;> cases b.testBit i <;> simp
  · intro h; subst h; exact Nat.xor_self a

theorem unl_false {lo hi : W} {i : Nat} : unl lo hi i = false ↔ lo.toNat / 2 ^ i = hi.toNat / 2 ^ i := by
  unfold unl
  rw [decide_eq_false_iff_not, Classical.not_not]
  have e : (lo ^^^ hi).toNat / 2 ^ i = (lo.toNat / 2 ^ i) ^^^ (hi.toNat / 2 ^ i) := by
    rw [BitVec.toNat_xor, ← Nat.shiftRight_eq_div_pow, ← Nat.shiftRight_eq_div_pow, ← Nat.shiftRight_eq_div_pow, Nat.shiftRight_xor_distrib]
  rw [e]
  exact nxor _ _

theorem rg_mem {lo hi x : W} (h1 : lo.toNat ≤ x.toNat) (h2 : x.toNat ≤ hi.toNat) : Mem (rgT lo hi) x := by
  rw [mem_iff_bits]
  intro i hi'
  obtain ⟨e1, e2⟩ := rgT_bits lo hi i hi'
  rw [e1, e2]
  cases hu : unl lo hi i with
  | true => simp
  | false =>
    have h3 := unl_false.1 hu
    have a1 : lo.toNat / 2 ^ i ≤ x.toNat / 2 ^ i := Nat.div_le_div_right h1
    have a2 : x.toNat / 2 ^ i ≤ hi.toNat / 2 ^ i := Nat.div_le_div_right h2
    have : x.toNat / 2 ^ i = lo.toNat / 2 ^ i := by omega
    rw [bit_eq_div lo, bit_eq_div x, this]
    simp

theorem rg_m (lo hi : W) : (rgT lo hi).m.toNat = 2 ^ bl (lo ^^^ hi).toNat - 1 ∧ bl (lo ^^^ hi).toNat ≤ 64 := by
  have hle : bl (lo ^^^ hi).toNat ≤ 64 := bl_le _ 64 (lo ^^^ hi).isLt
  refine ⟨?_, hle⟩
  have e : (rgT lo hi).m = BitVec.ofNat 64 (2 ^ bl (lo ^^^ hi).toNat - 1) := by
    apply BitVec.eq_of_getLsbD_eq
    intro j hj
    rw [(rgT_bits lo hi j hj).1, BitVec.getLsbD_ofNat, Nat.testBit_two_pow_sub_one]
    have : unl lo hi j = decide (j < bl (lo ^^^ hi).toNat) := bl_lt _ _
    rw [this]
    simp [hj]
  rw [e, BitVec.toNat_ofNat]
  have : 2 ^ bl (lo ^^^ hi).toNat ≤ 2 ^ 64 := Nat.pow_le_pow_right (by decide) hle
  exact Nat.mod_eq_of_lt (by have := Nat.two_pow_pos (bl (lo ^^^ hi).toNat); omega)

theorem rg_and (lo hi : W) : (rgT lo hi).m &&& ((rgT lo hi).m + 1#64) = 0#64 := by
  obtain ⟨h1, h2⟩ := rg_m lo hi
  have hp := Nat.two_pow_pos (bl (lo ^^^ hi).toNat)
  apply BitVec.eq_of_getLsbD_eq
  intro j hj
  have hm : (rgT lo hi).m.getLsbD j = decide (j < bl (lo ^^^ hi).toNat) := by
    rw [(rgT_bits lo hi j hj).1]; exact bl_lt _ _
  have hs : ((rgT lo hi).m + 1#64).getLsbD j = decide (bl (lo ^^^ hi).toNat = j) := by
    have e : (rgT lo hi).m + 1#64 = BitVec.ofNat 64 (2 ^ bl (lo ^^^ hi).toNat) := by
      apply BitVec.eq_of_toNat_eq
      rw [BitVec.toNat_add, h1]
      simp only [BitVec.toNat_ofNat]
      congr 1; omega
    rw [e, BitVec.getLsbD_ofNat, Nat.testBit_two_pow]
    simp [hj]
  rw [BitVec.getLsbD_and, hm, hs, BitVec.getLsbD_zero]
  clear hm hs h1 h2 hp
  generalize bl (lo ^^^ hi).toNat = b
  by_cases h : b = j
  · have : ¬ j < b := by omega
    simp [this]
  · simp [h]

theorem rg_zero (lo hi : W) : ((rgT lo hi).m == 0#64) = (lo == hi) := by
  obtain ⟨h1, h2⟩ := rg_m lo hi
  have hp := Nat.two_pow_pos (bl (lo ^^^ hi).toNat)
  by_cases h : lo = hi
  · subst h
    have hb : bl (lo ^^^ lo).toNat = 0 := by rw [BitVec.xor_self]; rfl
    rw [hb] at h1
    have : (rgT lo lo).m = 0#64 := BitVec.eq_of_toNat_eq (by rw [h1]; rfl)
    rw [this]; simp
  · have hx : (lo ^^^ hi).toNat ≠ 0 := by
      intro e
      have : lo ^^^ hi = 0#64 := BitVec.eq_of_toNat_eq (by rw [e]; rfl)
      exact h (BitVec.xor_eq_zero_iff.1 this)
    have hb : 1 ≤ bl (lo ^^^ hi).toNat := by simp only [bl, hx, if_false]; omega
    have : 2 ≤ 2 ^ bl (lo ^^^ hi).toNat := by
      have := Nat.pow_le_pow_right (n := 2) (by decide) hb
      simpa using this
    have hm : (rgT lo hi).m ≠ 0#64 := by
      intro e
      rw [e] at h1
      have : (0#64 : W).toNat = 0 := rfl
      omega
    rw [beq_eq_false_iff_ne.2 hm, beq_eq_false_iff_ne.2 h]

theorem rg_out (lo hi : W) : (lo ^^^ hi) &&& ~~~(rgT lo hi).m = 0#64 := by
  apply BitVec.eq_of_getLsbD_eq
  intro j hj
  rw [BitVec.getLsbD_and, BitVec.getLsbD_not, (rgT_bits lo hi j hj).1, BitVec.getLsbD_zero, unl_step, BitVec.getLsbD_xor]
  simp only [hj, decide_true, Bool.true_and]
  cases unl lo hi (j + 1) <;> cases lo.getLsbD j <;> cases hi.getLsbD j <;> rfl

theorem rg_top (lo hi : W) (h : lo ≠ hi) : (shrW (rgT lo hi).m 1).toNat < (lo ^^^ hi).toNat := by
  obtain ⟨h1, h2⟩ := rg_m lo hi
  have hx : (lo ^^^ hi).toNat ≠ 0 := by
    intro e
    have : lo ^^^ hi = 0#64 := BitVec.eq_of_toNat_eq (by rw [e]; rfl)
    exact h (BitVec.xor_eq_zero_iff.1 this)
  have hb : bl (lo ^^^ hi).toNat = (lo ^^^ hi).toNat.log2 + 1 := by simp only [bl, hx, if_false]
  have hl := (Nat.le_log2 hx (k := (lo ^^^ hi).toNat.log2)).1 (Nat.le_refl _)
  rw [shr_nat, h1, hb, Nat.pow_succ]
  have hp := Nat.two_pow_pos (lo ^^^ hi).toNat.log2
  omega

end Go.Rf
