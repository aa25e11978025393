/- Scalars: turned bytes, plain. -/
import Derived.Test.YtigiedlngfkfbaaGreatPs4
set_option linter.unusedVariables false
set_option linter.unusedSimpArgs false
namespace Go.Rf

def rv1 (a : W) : W := ((a >>> 8) &&& 71777214294589695#64) ||| ((a &&& 71777214294589695#64) <<< 8)
def rv2 (a : W) : W := ((a >>> 16) &&& 281470681808895#64) ||| ((a &&& 281470681808895#64) <<< 16)
def rv3 (a : W) : W := (a >>> 32) ||| (a <<< 32)
def revW (a : W) : W := rv3 (rv2 (rv1 a))

structure SwS where
  z : W
  a : W
  r : W
  i : W
def quoI (x y : W) : W := quoB .i64 x y
def SwS.go (s : SwS) : Bool := ltB .i64 s.i (quoI s.z 8#64)
def SwS.nxt (s : SwS) : SwS := ⟨s.z, quoW s.a 256#64, s.r * 256#64 + remW s.a 256#64, s.i + 1#64⟩
def SwS.step (s : SwS) : Rd SwS := .br s.go (.norm s.nxt) (.exit 0 s)
def SwS.inv (s : SwS) : Prop := 0 ≤ s.i.toInt
def SwS.mu (s : SwS) : Nat := ((quoI s.z 8#64).toInt - s.i.toInt).toNat
theorem SwS.dec (s : SwS) (h : s.inv) (hg : s.go = true) : s.nxt.inv ∧ s.nxt.mu < s.mu := by
  rw [SwS.go, ltI, decide_eq_true_eq] at hg
  have e : s.nxt.i.toInt = s.i.toInt + 1 := succ_int hg
  have e2 : s.nxt.z = s.z := rfl
  have h' : 0 ≤ s.i.toInt := h
  simp only [SwS.inv, SwS.mu, e, e2]
  omega
def SwS.run (s : SwS) : SwS := runN SwS.go SwS.nxt s.mu s
def SwS.T (s : SwS) : Rd SwS := .exit 0 s.run
theorem SwS.good : ∀ s, SwS.inv s → Good SwS.inv SwS.mu SwS.T s s.step.sel := by
  refine good_mu (go := SwS.go) (next := SwS.nxt) SwS.dec ?_ ?_
  · intro s hi hg
    simp only [SwS.step, Rd.sel, hg, if_true]
  · intro s hi hg
    simp only [SwS.step, Rd.sel, hg, Bool.false_eq_true, if_false]
def swBad (z : W) : Bool := z != 16#64 && z != 32#64 && z != 64#64
def swD (z a : W) : W := bif swBad z then 0#64 else (SwS.run ⟨z, a, 0#64, 0#64⟩).r

/-! Bit by bit. -/
theorem mk1 : ∀ i, i < 64 → (71777214294589695#64 : W).getLsbD i = decide (i / 8 % 2 = 0) := by decide
theorem mk2 : ∀ i, i < 64 → (281470681808895#64 : W).getLsbD i = decide (i / 16 % 2 = 0) := by decide
theorem rv1_bit (a : W) (i : Nat) (hi : i < 64) : (rv1 a).getLsbD i = if i / 8 % 2 = 0 then a.getLsbD (i + 8) else a.getLsbD (i - 8) := by
  unfold rv1
  rw [BitVec.getLsbD_or, BitVec.getLsbD_and, BitVec.getLsbD_ushiftRight, BitVec.getLsbD_shiftLeft, BitVec.getLsbD_and, mk1 i hi]
  by_cases h : i / 8 % 2 = 0
  · rw [if_pos h, decide_eq_true h]
    by_cases h8 : i < 8
    · simp [h8, Nat.add_comm]
    · have e : ¬ (i - 8) / 8 % 2 = 0 := by omega
      rw [mk1 (i - 8) (by omega), decide_eq_false e]
      simp [Nat.add_comm]
  · have h8 : ¬ i < 8 := by omega
    have e : (i - 8) / 8 % 2 = 0 := by omega
    rw [if_neg h, decide_eq_false h, mk1 (i - 8) (by omega), decide_eq_true e]
    simp [hi, h8]
theorem rv2_bit (a : W) (i : Nat) (hi : i < 64) : (rv2 a).getLsbD i = if i / 16 % 2 = 0 then a.getLsbD (i + 16) else a.getLsbD (i - 16) := by
  unfold rv2
  rw [BitVec.getLsbD_or, BitVec.getLsbD_and, BitVec.getLsbD_ushiftRight, BitVec.getLsbD_shiftLeft, BitVec.getLsbD_and, mk2 i hi]
  by_cases h : i / 16 % 2 = 0
  · rw [if_pos h, decide_eq_true h]
    by_cases h8 : i < 16
    · simp [h8, Nat.add_comm]
    · have e : ¬ (i - 16) / 16 % 2 = 0 := by omega
      rw [mk2 (i - 16) (by omega), decide_eq_false e]
      simp [Nat.add_comm]
  · have h8 : ¬ i < 16 := by omega
    have e : (i - 16) / 16 % 2 = 0 := by omega
    rw [if_neg h, decide_eq_false h, mk2 (i - 16) (by omega), decide_eq_true e]
    simp [hi, h8]
theorem rv3_bit (a : W) (i : Nat) (hi : i < 64) : (rv3 a).getLsbD i = if i < 32 then a.getLsbD (i + 32) else a.getLsbD (i - 32) := by
  unfold rv3
  rw [BitVec.getLsbD_or, BitVec.getLsbD_ushiftRight, BitVec.getLsbD_shiftLeft]
  by_cases h : i < 32
  · simp [h, Nat.add_comm]
  · rw [if_neg h, BitVec.getLsbD_of_ge a (32 + i) (by omega)]
    simp [hi, h]
theorem rev_bit (a : W) (i : Nat) (hi : i < 64) : (revW a).getLsbD i = a.getLsbD (8 * (7 - i / 8) + i % 8) := by
  unfold revW
  rw [rv3_bit _ i hi]
  by_cases h1 : i < 32
  · rw [if_pos h1, rv2_bit _ _ (by omega)]
    by_cases h2 : (i + 32) / 16 % 2 = 0
    · rw [if_pos h2, rv1_bit _ _ (by omega)]
      by_cases h3 : (i + 32 + 16) / 8 % 2 = 0
      · rw [if_pos h3]; congr 1; omega
      · rw [if_neg h3]; congr 1; omega
    · rw [if_neg h2, rv1_bit _ _ (by omega)]
      by_cases h3 : (i + 32 - 16) / 8 % 2 = 0
      · rw [if_pos h3]; congr 1; omega
      · rw [if_neg h3]; congr 1; omega
  · rw [if_neg h1, rv2_bit _ _ (by omega)]
    by_cases h2 : (i - 32) / 16 % 2 = 0
    · rw [if_pos h2, rv1_bit _ _ (by omega)]
      by_cases h3 : (i - 32 + 16) / 8 % 2 = 0
      · rw [if_pos h3]; congr 1; omega
      · rw [if_neg h3]; congr 1; omega
    · rw [if_neg h2, rv1_bit _ _ (by omega)]
      by_cases h3 : (i - 32 - 16) / 8 % 2 = 0
      · rw [if_pos h3]; congr 1; omega
      · rw [if_neg h3]; congr 1; omega

/-- What so many rounds come to. -/
def swAt (a : W) : Nat → W
  | 0 => 0#64
  | k + 1 => swAt a k * 256#64 + remW (a >>> (8 * k)) 256#64
theorem mul256 (x : W) : x * 256#64 = x <<< 8 := by
  rw [BitVec.shiftLeft_eq_mul_twoPow]; rfl
theorem rem256 (x : W) : remW x 256#64 = x &&& 255#64 := by
  apply BitVec.eq_of_toNat_eq
  rw [remW_nat, BitVec.toNat_and]
  exact (Nat.and_two_pow_sub_one_eq_mod x.toNat 8).symm
theorem quo256 (x : W) : quoW x 256#64 = x >>> 8 := by
  apply BitVec.eq_of_toNat_eq
  rw [quoW_nat, BitVec.toNat_ushiftRight, Nat.shiftRight_eq_div_pow]; rfl
theorem low255 (i : Nat) (hi : i < 64) : (255#64 : W).getLsbD i = decide (i < 8) := by
  have : (255#64 : W) = BitVec.ofNat 64 (2 ^ 8 - 1) := rfl
  rw [this, BitVec.getLsbD_ofNat, Nat.testBit_two_pow_sub_one]
  simp [hi]
theorem sw_round (r x : W) (i : Nat) (hi : i < 64) : (r * 256#64 + remW x 256#64).getLsbD i = if i < 8 then x.getLsbD i else r.getLsbD (i - 8) := by
  rw [mul256, rem256, BitVec.add_eq_or_of_and_eq_zero, BitVec.getLsbD_or, BitVec.getLsbD_shiftLeft, BitVec.getLsbD_and, low255 i hi]
  · by_cases h : i < 8
    · simp [h]
    · simp [h, hi]
  · apply BitVec.eq_of_getLsbD_eq
    intro j hj
    rw [BitVec.getLsbD_and, BitVec.getLsbD_shiftLeft, BitVec.getLsbD_and, low255 j hj, BitVec.getLsbD_zero]
    by_cases h : j < 8 <;> simp [h]
theorem swAt_bit (a : W) : ∀ (k i : Nat), i < 64 → k ≤ 8 → (swAt a k).getLsbD i = (decide (i < 8 * k) && a.getLsbD (8 * (k - 1 - i / 8) + i % 8)) := by
  intro k
  induction k with
  | zero => intro i hi _; simp [swAt]
  | succ k ih =>
    intro i hi hk
    rw [swAt, sw_round _ _ i hi]
    by_cases h : i < 8
    · rw [if_pos h, BitVec.getLsbD_ushiftRight, decide_eq_true (by omega), Bool.true_and]
      congr 1; omega
    · rw [if_neg h, ih (i - 8) (by omega) (by omega)]
      by_cases h2 : i < 8 * (k + 1)
      · rw [decide_eq_true h2, decide_eq_true (by omega), Bool.true_and, Bool.true_and]
        congr 1; omega
      · rw [decide_eq_false h2, decide_eq_false (by omega), Bool.false_and, Bool.false_and]

theorem sw_run {z a : W} {k : Nat} (hk : k ≤ 8) (hz : quoI z 8#64 = BitVec.ofNat 64 k) : (SwS.run ⟨z, a, 0#64, 0#64⟩).r = swAt a k := by
  have hki : (BitVec.ofNat 64 k).toInt = k := by
    rw [nat_of_int (by rw [BitVec.toInt_eq_toNat_cond, if_pos (by rw [ofNat_toNat (by omega)]; omega)]; omega), ofNat_toNat (by omega)]
  have hm : (⟨z, a, 0#64, 0#64⟩ : SwS).mu = k := by
    show ((quoI z 8#64).toInt - (0#64 : W).toInt).toNat = _
    rw [hz, hki, show ((0#64 : W).toInt) = 0 from rfl]; omega
  unfold SwS.run
  rw [hm]
  have e := runN_count (go := SwS.go) (next := SwS.nxt) (fun i => (⟨z, a >>> (8 * i), swAt a i, BitVec.ofNat 64 i⟩ : SwS)) k (fun i hi => by
    show ltB .i64 (BitVec.ofNat 64 i) (quoI z 8#64) = _
    rw [hz, ltB_ofNat (by omega) (by omega)]) (fun i hi => by
    unfold SwS.nxt
    show (⟨z, quoW (a >>> (8 * i)) 256#64, swAt a i * 256#64 + remW (a >>> (8 * i)) 256#64, BitVec.ofNat 64 i + 1#64⟩ : SwS) = _
    rw [quo256, ofNat_succ, ← BitVec.shiftRight_add]
    rfl)
  have e0 : (⟨z, a, 0#64, 0#64⟩ : SwS) = ⟨z, a >>> (8 * 0), swAt a 0, BitVec.ofNat 64 0⟩ := by
    have : a >>> (8 * 0) = a := by
      apply BitVec.eq_of_toNat_eq
      rw [BitVec.toNat_ushiftRight, Nat.shiftRight_eq_div_pow]; simp
    rw [this]; rfl
  rw [e0, e]

theorem rev_sw (a : W) {k : Nat} (h1 : 1 ≤ k) (hk : k ≤ 8) : revW a >>> (64 - 8 * k) = swAt a k := by
  apply BitVec.eq_of_getLsbD_eq
  intro i hi
  rw [BitVec.getLsbD_ushiftRight, swAt_bit a k i hi hk]
  by_cases h : i < 8 * k
  · rw [rev_bit a _ (by omega), decide_eq_true h, Bool.true_and]
    congr 1; omega
  · rw [BitVec.getLsbD_of_ge _ _ (by omega), decide_eq_false h, Bool.false_and]
end Go.Rf
