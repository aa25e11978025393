/- Laws of bits: how many bits a number has that are 1. -/
import Derived.Test.YtkfgohhmicfnhaaTp5
set_option linter.unusedVariables false
set_option linter.unusedSimpArgs false
namespace Go.Rf

/-- A number of n digits of w bits. -/
def dig (w : Nat) : Nat → (Nat → Nat) → Nat
  | 0, _ => 0
  | n + 1, f => f 0 + 2 ^ w * dig w n (fun i => f (i + 1))

theorem dig_lt (w : Nat) : ∀ (n : Nat) (f : Nat → Nat), (∀ i, f i < 2 ^ w) → dig w n f < 2 ^ (w * n)
  | 0, f, h => by simp [dig]
  | n + 1, f, h => by
    have ih := dig_lt w n (fun i => f (i + 1)) (fun i => h _)
    have h0 := h 0
    rw [dig, Nat.mul_succ, Nat.pow_add, Nat.mul_comm (2 ^ (w * n))]
    have : 2 ^ w * dig w n (fun i => f (i + 1)) + 2 ^ w ≤ 2 ^ w * 2 ^ (w * n) := by
      rw [← Nat.mul_succ]; exact Nat.mul_le_mul_left _ ih
    omega

theorem and_parts {k a b c d : Nat} (ha : a < 2 ^ k) (hc : c < 2 ^ k) : (a + 2 ^ k * b) &&& (c + 2 ^ k * d) = (a &&& c) + 2 ^ k * (b &&& d) := by
  have hac : a &&& c < 2 ^ k := Nat.lt_of_le_of_lt Nat.and_le_left ha
  apply Nat.eq_of_testBit_eq
  intro i
  rw [Nat.testBit_and]
  rw [Nat.add_comm a, Nat.add_comm c, Nat.add_comm (a &&& c)]
  rw [Nat.testBit_two_pow_mul_add _ ha, Nat.testBit_two_pow_mul_add _ hc, Nat.testBit_two_pow_mul_add _ hac]
  split
  · rw [Nat.testBit_and]
  · rw [Nat.testBit_and]

/-- The mask of every other digit. -/
def evens (w : Nat) : Nat → Nat
  | 0 => 0
  | n + 1 => (2 ^ w - 1) + 2 ^ (2 * w) * evens w n

theorem dig_evens (w : Nat) : ∀ (n : Nat) (f : Nat → Nat), (∀ i, f i < 2 ^ w) → dig w (2 * n) f &&& evens w n = dig (2 * w) n (fun i => f (2 * i))
  | 0, f, h => by simp [dig, evens]
  | n + 1, f, h => by
    have ih := dig_evens w n (fun i => f (i + 2)) (fun i => h _)
    have e : dig w (2 * (n + 1)) f = (f 0 + 2 ^ w * f 1) + 2 ^ (2 * w) * dig w (2 * n) (fun i => f (i + 2)) := by
      have : 2 * (n + 1) = 2 * n + 1 + 1 := by omega
      rw [this, dig, dig, Nat.mul_add, ← Nat.mul_assoc, ← Nat.pow_add, Nat.add_assoc]
      have : w + w = 2 * w := by omega
      rw [this]
    have h0 := h 0
    have h1 := h 1
    have hp : 2 ^ (2 * w) = 2 ^ w * 2 ^ w := by rw [← Nat.pow_add]; congr 1; omega
    have ha : f 0 + 2 ^ w * f 1 < 2 ^ (2 * w) := by
      rw [hp]
      have : 2 ^ w * f 1 + 2 ^ w ≤ 2 ^ w * 2 ^ w := by rw [← Nat.mul_succ]; exact Nat.mul_le_mul_left _ h1
      omega
    have hw := Nat.two_pow_pos w
    have hc : 2 ^ w - 1 < 2 ^ (2 * w) := by
      rw [hp]
      have : 2 ^ w * 1 ≤ 2 ^ w * 2 ^ w := Nat.mul_le_mul_left _ hw
      omega
    rw [e, evens, and_parts ha hc, ih, Nat.and_two_pow_sub_one_eq_mod, Nat.add_mul_mod_self_left, Nat.mod_eq_of_lt h0]
    rfl

theorem dig_shift (w n : Nat) (f : Nat → Nat) (h : ∀ i, f i < 2 ^ w) : dig w (n + 1) f / 2 ^ w = dig w n (fun i => f (i + 1)) := by
  rw [dig, Nat.add_mul_div_left _ _ (Nat.two_pow_pos w), Nat.div_eq_of_lt (h 0), Nat.zero_add]

theorem dig_add (w : Nat) : ∀ (n : Nat) (f g : Nat → Nat), dig w n f + dig w n g = dig w n (fun i => f i + g i)
  | 0, f, g => rfl
  | n + 1, f, g => by
    have := dig_add w n (fun i => f (i + 1)) (fun i => g (i + 1))
    simp only [dig]
    rw [← this, Nat.mul_add]
    omega

theorem dig_more (w : Nat) : ∀ (n : Nat) (f : Nat → Nat), f n = 0 → dig w (n + 1) f = dig w n f
  | 0, f, h => by simp [dig, h]
  | n + 1, f, h => by
    rw [dig, dig_more w n (fun i => f (i + 1)) h]; rfl

theorem dig_congr (w : Nat) : ∀ (n : Nat) (f g : Nat → Nat), (∀ i, i < n → f i = g i) → dig w n f = dig w n g
  | 0, f, g, h => rfl
  | n + 1, f, g, h => by
    rw [dig, dig, h 0 (by omega), dig_congr w n (fun i => f (i + 1)) (fun i => g (i + 1)) (fun i hi => h (i + 1) (by omega))]

/-- A number by its bits. -/
theorem bits_dig : ∀ (n x : Nat), x < 2 ^ n → dig 1 n (fun i => x / 2 ^ i % 2) = x
  | 0, x, h => by simp at h; subst h; rfl
  | n + 1, x, h => by
    have ih := bits_dig n (x / 2) (by rw [Nat.pow_succ] at h; omega)
    have e : (fun i => x / 2 ^ (i + 1) % 2) = (fun i => x / 2 / 2 ^ i % 2) := by
      funext i
      rw [Nat.div_div_eq_div_mul, ← Nat.pow_succ']
    simp only [dig, e, ih]
    simp
    omega

/-- Shifted by one digit, in as many digits. -/
theorem dig_down (w n : Nat) (f : Nat → Nat) (h : ∀ i, f i < 2 ^ w) (h0 : f (n + 1) = 0) : dig w (n + 1) f / 2 ^ w = dig w (n + 1) (fun i => f (i + 1)) := by
  rw [dig_shift w n f h, dig_more w n (fun i => f (i + 1)) h0]

def xb (x : W) (i : Nat) : Nat := x.toNat / 2 ^ i % 2
theorem xb_lt (x : W) (i : Nat) : xb x i ≤ 1 := by unfold xb; omega
theorem xb_hi (x : W) (i : Nat) (h : 64 ≤ i) : xb x i = 0 := by
  unfold xb
  have : x.toNat < 2 ^ i := Nat.lt_of_lt_of_le x.isLt (Nat.pow_le_pow_right (by decide) h)
  rw [Nat.div_eq_of_lt this]
theorem xb_bit (x : W) (i : Nat) : xb x i = (x.getLsbD i).toNat := by
  unfold xb
  rw [bit_eq_div]
  rcases Nat.mod_two_eq_zero_or_one (x.toNat / 2 ^ i) with h | h <;> simp [h]

def q1 (x : W) (i : Nat) : Nat := xb x (2 * i) + xb x (2 * i + 1)
def q2 (x : W) (i : Nat) : Nat := q1 x (2 * i) + q1 x (2 * i + 1)
def q3 (x : W) (i : Nat) : Nat := q2 x (2 * i) + q2 x (2 * i + 1)
theorem q1_le (x : W) (i : Nat) : q1 x i ≤ 2 := by unfold q1; have := xb_lt x (2 * i); have := xb_lt x (2 * i + 1); omega
theorem q2_le (x : W) (i : Nat) : q2 x i ≤ 4 := by unfold q2; have := q1_le x (2 * i); have := q1_le x (2 * i + 1); omega
theorem q3_le (x : W) (i : Nat) : q3 x i ≤ 8 := by unfold q3; have := q2_le x (2 * i); have := q2_le x (2 * i + 1); omega
theorem q1_hi (x : W) (i : Nat) (h : 32 ≤ i) : q1 x i = 0 := by unfold q1; rw [xb_hi x _ (by omega), xb_hi x _ (by omega)]
theorem q2_hi (x : W) (i : Nat) (h : 16 ≤ i) : q2 x i = 0 := by unfold q2; rw [q1_hi x _ (by omega), q1_hi x _ (by omega)]
theorem q3_hi (x : W) (i : Nat) (h : 8 ≤ i) : q3 x i = 0 := by unfold q3; rw [q2_hi x _ (by omega), q2_hi x _ (by omega)]

theorem pop1_nat (x : W) : (pop1 x).toNat = dig 2 32 (q1 x) := by
  have e : x.toNat = dig 1 64 (xb x) := (bits_dig 64 x.toNat x.isLt).symm
  have hm : (6148914691236517205#64 : W).toNat = evens 1 32 := by decide
  have lt : ∀ i, xb x i < 2 ^ 1 := fun i => by have := xb_lt x i; omega
  unfold pop1
  rw [BitVec.toNat_add, BitVec.toNat_and, BitVec.toNat_and, hm, shr_nat, e]
  rw [dig_down 1 63 (xb x) lt (xb_hi x 64 (by omega)), dig_evens 1 32 (fun i => xb x (i + 1)) (fun i => lt _), dig_evens 1 32 (xb x) lt, dig_add]
  rw [Nat.mod_eq_of_lt]
  · exact dig_congr _ _ _ _ fun i _ => by unfold q1; omega
  · exact dig_lt 2 32 _ fun i => by have := xb_lt x (2 * i); have := xb_lt x (2 * i + 1); simp; omega

theorem pop2_nat (x : W) : (pop2 (pop1 x)).toNat = dig 4 16 (q2 x) := by
  have e := pop1_nat x
  have hm : (3689348814741910323#64 : W).toNat = evens 2 16 := by decide
  have lt : ∀ i, q1 x i < 2 ^ 2 := fun i => by have := q1_le x i; omega
  unfold pop2
  rw [BitVec.toNat_add, BitVec.toNat_and, BitVec.toNat_and, hm, shr_nat, e]
  rw [dig_down 2 31 (q1 x) lt (q1_hi x 32 (by omega)), dig_evens 2 16 (fun i => q1 x (i + 1)) (fun i => lt _), dig_evens 2 16 (q1 x) lt, dig_add]
  rw [Nat.mod_eq_of_lt]
  · exact dig_congr _ _ _ _ fun i _ => by unfold q2; omega
  · exact dig_lt 4 16 _ fun i => by have := q1_le x (2 * i); have := q1_le x (2 * i + 1); simp; omega

theorem pop3_nat (x : W) : (pop3 (pop2 (pop1 x))).toNat = dig 8 8 (q3 x) := by
  have e := pop2_nat x
  have hm : (1085102592571150095#64 : W).toNat = evens 4 8 := by decide
  have lt : ∀ i, q2 x i < 2 ^ 4 := fun i => by have := q2_le x i; omega
  unfold pop3
  rw [BitVec.toNat_and, BitVec.toNat_add, hm, shr_nat, e]
  rw [dig_down 4 15 (q2 x) lt (q2_hi x 16 (by omega)), dig_add]
  have lt2 : ∀ i, q2 x (i + 1) + q2 x i < 2 ^ 4 := fun i => by have := q2_le x i; have := q2_le x (i + 1); omega
  rw [Nat.mod_eq_of_lt (dig_lt 4 16 _ lt2), dig_evens 4 8 _ lt2]
  exact dig_congr _ _ _ _ fun i _ => by unfold q3; omega

/-- The sum of so many. -/
def sumN : Nat → (Nat → Nat) → Nat
  | 0, _ => 0
  | n + 1, f => sumN n f + f n

def ones (x : W) : Nat := sumN 64 fun i => (x.getLsbD i).toNat

theorem sumN_pairs : ∀ (n : Nat) (f : Nat → Nat), sumN (2 * n) f = sumN n (fun i => f (2 * i) + f (2 * i + 1))
  | 0, f => rfl
  | n + 1, f => by
    have e : 2 * (n + 1) = 2 * n + 1 + 1 := by omega
    rw [e, sumN, sumN, sumN_pairs n f, sumN]
    omega

theorem ones_q (x : W) : ones x = q3 x 0 + q3 x 1 + q3 x 2 + q3 x 3 + q3 x 4 + q3 x 5 + q3 x 6 + q3 x 7 := by
  have e0 : ones x = sumN (2 * 32) (xb x) := by
    unfold ones
    have : (fun i => (x.getLsbD i).toNat) = xb x := by funext i; exact (xb_bit x i).symm
    rw [this]
  have e1 : sumN (2 * 32) (xb x) = sumN (2 * 16) (q1 x) := sumN_pairs 32 (xb x)
  have e2 : sumN (2 * 16) (q1 x) = sumN (2 * 8) (q2 x) := sumN_pairs 16 (q1 x)
  have e3 : sumN (2 * 8) (q2 x) = sumN 8 (q3 x) := sumN_pairs 8 (q2 x)
  rw [e0, e1, e2, e3]
  simp only [sumN, Nat.zero_add]

theorem popS_dig {k : Nat} {u : W} {f : Nat → Nat} {m : Nat} (hu : u.toNat = dig 8 8 f) (hf : ∀ i, f i + f (i + m) < 2 ^ 8) (hd : dig 8 8 f / 2 ^ k = dig 8 8 (fun i => f (i + m))) : (popS k u).toNat = dig 8 8 (fun i => f i + f (i + m)) := by
  unfold popS
  rw [BitVec.toNat_add, shr_nat, hu, hd, dig_add, Nat.mod_eq_of_lt (dig_lt 8 8 _ hf)]

theorem dig_down8 (f : Nat → Nat) (h : ∀ i, f i < 2 ^ 8) (h0 : ∀ i, 8 ≤ i → f i = 0) : ∀ m, dig 8 8 f / 2 ^ (8 * m) = dig 8 8 (fun i => f (i + m))
  | 0 => by simp
  | m + 1 => by
    have e : 8 * (m + 1) = 8 * m + 8 := by omega
    rw [e, Nat.pow_add, ← Nat.div_div_eq_div_mul, dig_down8 f h h0 m, dig_down 8 7 (fun i => f (i + m)) (fun i => h _) (h0 _ (by omega))]
    exact dig_congr _ _ _ _ fun i _ => by congr 1; omega

theorem popW_eq (x : W) : popW x = BitVec.ofNat 64 (ones x) ∧ ones x ≤ 64 := by
  have hs := ones_q x
  have b : ∀ i, q3 x i ≤ 8 := q3_le x
  have z : ∀ i, 8 ≤ i → q3 x i = 0 := q3_hi x
  have hle : ones x ≤ 64 := by
    have b0 := b 0
    have b1 := b 1
    have b2 := b 2
    have b3 := b 3
    have b4 := b 4
    have b5 := b 5
    have b6 := b 6
    have b7 := b 7
    omega
  refine ⟨?_, hle⟩
  have hI : ∀ y : W, toI y = y := fun y => by
    show (y.setWidth 64 : W) = y
    exact BitVec.setWidth_eq y
  have s1 := popS_dig (k := 8) (m := 1) (pop3_nat x) (fun i => by have := b i; have := b (i + 1); omega) (dig_down8 (q3 x) (fun i => by have := b i; omega) z 1)
  have s2 := popS_dig (k := 16) (m := 2) s1 (fun i => by have := b i; have := b (i + 1); have := b (i + 2); have := b (i + 2 + 1); omega)
    (dig_down8 (fun i => q3 x i + q3 x (i + 1)) (fun i => by have := b i; have := b (i + 1); omega) (fun i hi => by rw [z i hi, z (i + 1) (by omega)]) 2)
  have s3 := popS_dig (k := 32) (m := 4) s2 (fun i => by have := b i; have := b (i + 1); have := b (i + 2); have := b (i + 2 + 1); have := b (i + 4); have := b (i + 4 + 1); have := b (i + 4 + 2); have := b (i + 4 + 2 + 1); omega)
    (dig_down8 (fun i => q3 x i + q3 x (i + 1) + (q3 x (i + 2) + q3 x (i + 2 + 1))) (fun i => by have := b i; have := b (i + 1); have := b (i + 2); have := b (i + 2 + 1); omega) (fun i hi => by rw [z i hi, z (i + 1) (by omega), z (i + 2) (by omega), z (i + 2 + 1) (by omega)]) 4)
  apply BitVec.eq_of_toNat_eq
  unfold popW
  rw [hI, BitVec.toNat_and]
  have h127 : (127#64 : W).toNat = 2 ^ 7 - 1 := by decide
  rw [h127, Nat.and_two_pow_sub_one_eq_mod, BitVec.toNat_ofNat, s3]
  have hd : ∀ f : Nat → Nat, dig 8 8 f = f 0 + 2 ^ 8 * dig 8 7 (fun i => f (i + 1)) := fun f => rfl
  rw [hd]
  generalize dig 8 7 _ = r
  simp only [Nat.zero_add, Nat.reduceAdd]
  omega


theorem sumN_le : ∀ (n : Nat) (f g : Nat → Nat), (∀ i, i < n → f i ≤ g i) → sumN n f ≤ sumN n g
  | 0, f, g, h => Nat.le_refl _
  | n + 1, f, g, h => by
    have := sumN_le n f g (fun i hi => h i (by omega))
    have := h n (by omega)
    simp only [sumN]; omega

theorem sumN_zero : ∀ (n : Nat) (f : Nat → Nat), sumN n f = 0 ↔ ∀ i, i < n → f i = 0
  | 0, f => by simp [sumN]
  | n + 1, f => by
    have ih := sumN_zero n f
    simp only [sumN]
    constructor
    · intro h i hi
      by_cases e : i = n
      · subst e; omega
      · exact ih.1 (by omega) i (by omega)
    · intro h
      have := ih.2 fun i hi => h i (by omega)
      have := h n (by omega)
      omega

theorem ones_zero (x : W) : ones x = 0 ↔ x = 0#64 := by
  unfold ones
  rw [sumN_zero]
  constructor
  · intro h
    apply BitVec.eq_of_getLsbD_eq
    intro i hi
    have := h i hi
    rw [BitVec.getLsbD_zero]
    cases hx : x.getLsbD i
    · rfl
    · rw [hx] at this; simp at this
  · intro h i _
    subst h; simp

theorem sumN_drop : ∀ (k n : Nat) (f : Nat → Nat), sumN n (fun i => f (k + i)) ≤ sumN (k + n) f
  | k, 0, f => Nat.zero_le _
  | k, n + 1, f => by
    have := sumN_drop k n f
    have e : k + (n + 1) = (k + n) + 1 := by omega
    rw [e]
    simp only [sumN]
    omega

theorem sumN_hi : ∀ (k n : Nat) (f : Nat → Nat), (∀ i, n ≤ i → f i = 0) → sumN (n + k) f = sumN n f
  | 0, n, f, h => rfl
  | k + 1, n, f, h => by
    have := sumN_hi k n f h
    have e : n + (k + 1) = (n + k) + 1 := by omega
    rw [e, sumN, this, h _ (by omega)]; rfl

theorem ones_shr (x : W) (k : Nat) : ones (x >>> k) ≤ ones x := by
  unfold ones
  have e : (fun i => ((x >>> k).getLsbD i).toNat) = fun i => (x.getLsbD (k + i)).toNat := by
    funext i; rw [BitVec.getLsbD_ushiftRight]
  rw [e]
  refine Nat.le_trans (sumN_drop k 64 fun i => (x.getLsbD i).toNat) ?_
  rw [Nat.add_comm, sumN_hi k 64 _ fun i hi => by rw [BitVec.getLsbD_of_ge _ _ hi]; rfl]
  exact Nat.le_refl _

theorem sumN_up : ∀ (k n : Nat) (f : Nat → Nat), sumN n (fun i => if i < k then 0 else f (i - k)) ≤ sumN n f
  | k, 0, f => Nat.le_refl _
  | 0, n + 1, f => by simp
  | k + 1, n + 1, f => by
    have ih := sumN_up k n f
    have e : sumN (n + 1) (fun i => if i < k + 1 then 0 else f (i - (k + 1))) = sumN n (fun i => if i < k then 0 else f (i - k)) := by
      have gen : ∀ m (g h : Nat → Nat), g 0 = 0 → (∀ i, g (i + 1) = h i) → sumN (m + 1) g = sumN m h := by
        intro m g h h0 hs
        induction m with
        | zero => simp [sumN, h0]
        | succ m ihm => rw [sumN, ihm, sumN, hs]
      refine gen n _ _ (by simp) fun i => ?_
      by_cases hi : i < k
      · simp [hi]
      · have : ¬ i + 1 < k + 1 := by omega
        simp only [this, hi, if_false]
        congr 1; omega
    rw [e]
    simp only [sumN]
    omega

theorem ones_shl (x : W) (k : Nat) : ones (x <<< k) ≤ ones x := by
  unfold ones
  refine Nat.le_trans (sumN_le 64 _ (fun i => if i < k then 0 else (x.getLsbD (i - k)).toNat) fun i hi => ?_) (sumN_up k 64 fun i => (x.getLsbD i).toNat)
  rw [BitVec.getLsbD_shiftLeft]
  by_cases h : i < k <;> simp [h, hi]

end Go.Rf
