/- Plain laws of bits: the least and the greatest Or, And of numbers of two stretches. -/
import Derived.Test.YtpmbaddpcahnfaaSpp
set_option linter.unusedVariables false
set_option linter.unusedSimpArgs false
namespace Go.Rf

def mB (j : Nat) : W := 1#64 <<< j

theorem neg_mB (j : Nat) : -(mB j) = BitVec.allOnes 64 <<< j := by
  unfold mB
  rw [BitVec.shiftLeft_eq_mul_twoPow, BitVec.shiftLeft_eq_mul_twoPow, ← BitVec.neg_one_eq_allOnes, BitVec.neg_mul]
theorem mB_bit (j i : Nat) (hi : i < 64) : (mB j).getLsbD i = decide (i = j) := by
  unfold mB
  rw [← BitVec.twoPow_eq, BitVec.getLsbD_twoPow]
  by_cases h : j = i
  · subst h; simp [hi]
  · simp [h, Ne.symm h]
theorem up_bit (x : W) (j i : Nat) (hi : i < 64) : (upW x (mB j)).getLsbD i = (decide (i = j) || (decide (j < i) && x.getLsbD i)) := by
  unfold upW
  rw [neg_mB, BitVec.getLsbD_and, BitVec.getLsbD_or, mB_bit j i hi, BitVec.getLsbD_shiftLeft, BitVec.getLsbD_allOnes]
  by_cases h1 : i = j
  · subst h1; simp [hi]
  · by_cases h2 : i < j
    · have : ¬ j < i := by omega
      simp [h1, h2, this]
    · have : j < i := by omega
      have h3 : i - j < 64 := by omega
      simp [h1, h2, this, hi, h3]
theorem low_bit (j i : Nat) (hj : j < 64) (hi : i < 64) : (mB j - 1#64).getLsbD i = decide (i < j) := by
  have e : mB j - 1#64 = BitVec.ofNat 64 (2 ^ j - 1) := by
    unfold mB
    apply BitVec.eq_of_toNat_eq
    have := Nat.two_pow_pos j
    have h2 : 2 ^ j < 2 ^ 64 := Nat.pow_lt_pow_right (by decide) hj
    rw [BitVec.toNat_sub, BitVec.toNat_shiftLeft]
    have e1 : (1#64 : W).toNat = 1 := rfl
    simp only [e1, Nat.shiftLeft_eq, Nat.one_mul, BitVec.toNat_ofNat]
    omega
  rw [e, BitVec.getLsbD_ofNat, Nat.testBit_two_pow_sub_one]
  simp [hi]
theorem wi_bit (x : W) (j i : Nat) (hj : j < 64) (hi : i < 64) : (wiW x (mB j)).getLsbD i = (decide (i < j) || (decide (j < i) && x.getLsbD i)) := by
  unfold wiW
  rw [BitVec.getLsbD_or, BitVec.getLsbD_and, BitVec.getLsbD_not, mB_bit j i hi, low_bit j i hj hi]
  by_cases h1 : i = j
  · subst h1; simp
  · by_cases h2 : i < j
    · simp [h2]
    · have : j < i := by omega
      simp [h1, h2, this, hi]

theorem bit_lt {x y : W} {q : Nat} (h1 : x.getLsbD q = false) (h2 : y.getLsbD q = true) (h3 : ∀ i, q < i → i < 64 → x.getLsbD i = y.getLsbD i) : x.toNat < y.toNat := by
  have e1 : x.toNat / 2 ^ (q + 1) = y.toNat / 2 ^ (q + 1) := by
    apply Nat.eq_of_testBit_eq
    intro i
    rw [Nat.testBit_div_two_pow, Nat.testBit_div_two_pow]
    show x.getLsbD _ = y.getLsbD _
    by_cases hj : i + (q + 1) < 64
    · exact h3 _ (by omega) hj
    · rw [BitVec.getLsbD_of_ge x _ (by omega), BitVec.getLsbD_of_ge y _ (by omega)]
  have b1 : x.toNat / 2 ^ q % 2 ≠ 1 := by
    intro h
    have : x.getLsbD q = decide (x.toNat / 2 ^ q % 2 = 1) := Nat.testBit_eq_decide_div_mod_eq
    rw [h1, h] at this
    simp at this
  have b2 : y.toNat / 2 ^ q % 2 = 1 := by
    have : y.getLsbD q = decide (y.toNat / 2 ^ q % 2 = 1) := Nat.testBit_eq_decide_div_mod_eq
    rw [h2] at this
    simpa using this.symm
  rw [Nat.pow_succ, ← Nat.div_div_eq_div_mul, ← Nat.div_div_eq_div_mul] at e1
  have : x.toNat / 2 ^ q < y.toNat / 2 ^ q := by omega
  exact Nat.lt_of_div_lt_div this

theorem hi_diff {x y : W} (h : x.toNat < y.toNat) : ∃ q, q < 64 ∧ x.getLsbD q = false ∧ y.getLsbD q = true ∧ ∀ i, q < i → i < 64 → x.getLsbD i = y.getLsbD i := by
  have key : ∀ n, n ≤ 64 → (∀ i, n ≤ i → i < 64 → x.getLsbD i = y.getLsbD i) → ∃ q, q < 64 ∧ x.getLsbD q = false ∧ y.getLsbD q = true ∧ ∀ i, q < i → i < 64 → x.getLsbD i = y.getLsbD i := by
    intro n
    induction n with
    | zero =>
      intro _ he
      have : x = y := BitVec.eq_of_getLsbD_eq (fun i hi => he i (by omega) hi)
      subst this; omega
    | succ n ih =>
      intro hn he
      by_cases e : x.getLsbD n = y.getLsbD n
      · refine ih (by omega) (fun i h1 h2 => ?_)
        by_cases h3 : i = n
        · subst h3; exact e
        · exact he i (by omega) h2
      · cases hx : x.getLsbD n with
        | false =>
          cases hy : y.getLsbD n with
          | false => rw [hx, hy] at e; exact absurd rfl e
          | true => exact ⟨n, by omega, hx, hy, fun i h1 h2 => he i (by omega) h2⟩
        | true =>
          cases hy : y.getLsbD n with
          | true => rw [hx, hy] at e; exact absurd rfl e
          | false =>
            have := bit_lt (x := y) (y := x) hy hx (fun i h1 h2 => (he i (by omega) h2).symm)
            omega
  exact key 64 (Nat.le_refl _) (fun i h1 h2 => by omega)

theorem bit_le {x y : W} (h : ∀ i, i < 64 → x.getLsbD i = true → y.getLsbD i = true) : x.toNat ≤ y.toNat := by
  by_cases hlt : y.toNat < x.toNat
  · obtain ⟨q, hq, h1, h2, _⟩ := hi_diff hlt
    rw [h q hq h2] at h1
    cases h1
  · omega

/-- What agrees above, and has the bit, is no less. -/
theorem up_le {x X : W} {q : Nat} (h : ∀ i, q < i → i < 64 → x.getLsbD i = X.getLsbD i) (hX : X.getLsbD q = true) : (upW x (mB q)).toNat ≤ X.toNat := by
  refine bit_le (fun i hi => ?_)
  rw [up_bit x q i hi]
  by_cases h1 : i = q
  · subst h1; intro _; exact hX
  · by_cases h2 : q < i
    · rw [h i h2 hi]; simp [h1, h2]
    · simp [h1, h2]
theorem le_wi {x X : W} {q : Nat} (hq : q < 64) (h : ∀ i, q < i → i < 64 → x.getLsbD i = X.getLsbD i) (hX : X.getLsbD q = false) : X.toNat ≤ (wiW x (mB q)).toNat := by
  refine bit_le (fun i hi => ?_)
  rw [wi_bit x q i hq hi]
  by_cases h1 : i = q
  · subst h1; rw [hX]; intro h; cases h
  · by_cases h2 : q < i
    · rw [h i h2 hi]
      intro h3
      simp [h2, h3]
    · have : i < q := by omega
      simp [this]
theorem le_up {x : W} {q : Nat} (hq : q < 64) (h : x.getLsbD q = false) : x.toNat ≤ (upW x (mB q)).toNat := by
  refine Nat.le_of_lt (bit_lt (q := q) h ?_ (fun i h1 h2 => ?_))
  · rw [up_bit x q q hq]; simp
  · rw [up_bit x q i h2]
    have n : i ≠ q := by omega
    simp [h1, n]
theorem wi_le {x : W} {q : Nat} (hq : q < 64) (h : x.getLsbD q = true) : (wiW x (mB q)).toNat ≤ x.toNat := by
  refine Nat.le_of_lt (bit_lt (q := q) ?_ h (fun i h1 h2 => ?_))
  · rw [wi_bit x q q hq hq]; simp
  · rw [wi_bit x q i hq h2]
    have n : ¬ i < q := by omega
    simp [h1, n]

/-- The highest bit in which a greater number is unlike. -/
theorem up_from {x X : W} {p : Nat} (hp : p < 64) (h : x.toNat ≤ X.toNat) (h1 : x.getLsbD p = true) (h2 : X.getLsbD p = false) :
    ∃ q, p < q ∧ q < 64 ∧ x.getLsbD q = false ∧ X.getLsbD q = true ∧ ∀ i, q < i → i < 64 → x.getLsbD i = X.getLsbD i := by
  have hlt : x.toNat < X.toNat := by
    by_cases e : x.toNat = X.toNat
    · have : x = X := BitVec.eq_of_toNat_eq e
      subst this; rw [h1] at h2; cases h2
    · omega
  obtain ⟨q, a, b, c, d⟩ := hi_diff hlt
  refine ⟨q, ?_, a, b, c, d⟩
  by_cases e : p = q
  · subst e; rw [h1] at b; cases b
  · by_cases e2 : q < p
    · have := d p e2 hp
      rw [h1, h2] at this; cases this
    · omega

section
variable {x y hx hy X Y : W}
def Up (x hx : W) (q : Nat) : Prop := (upW x (mB q)).toNat ≤ hx.toNat
def In' (x lx : W) (q : Nat) : Prop := lx.toNat ≤ (wiW x (mB q)).toNat

/-- No bit from p on lets either number be turned up. -/
def NoUp (x y hx hy : W) (p : Nat) : Prop := ∀ q, p < q → q < 64 → ¬(x.getLsbD q = false ∧ y.getLsbD q = true ∧ Up x hx q) ∧ ¬(x.getLsbD q = true ∧ y.getLsbD q = false ∧ Up y hy q)

theorem noUp_x (hX : x.toNat ≤ X.toNat ∧ X.toNat ≤ hx.toNat) {p : Nat} (hp : p < 64) (hf : NoUp x y hx hy p) (hr : ∀ i, p < i → i < 64 → (X.getLsbD i || Y.getLsbD i) = (x.getLsbD i || y.getLsbD i))
    (h1 : x.getLsbD p = true) (h2 : X.getLsbD p = false) : False := by
  obtain ⟨q, a, b, c, d, e⟩ := up_from hp hX.1 h1 h2
  have h3 := hr q a b
  rw [c, d, Bool.true_or, Bool.false_or] at h3
  exact (hf q a b).1 ⟨c, h3.symm, by have := up_le e d; unfold Up; omega⟩

theorem noUp_swap {p : Nat} (hf : NoUp x y hx hy p) : NoUp y x hy hx p := fun q a b => ⟨fun h => (hf q a b).2 ⟨h.2.1, h.1, h.2.2⟩, fun h => (hf q a b).1 ⟨h.2.1, h.1, h.2.2⟩⟩

theorem noUp_y (hY : y.toNat ≤ Y.toNat ∧ Y.toNat ≤ hy.toNat) {p : Nat} (hp : p < 64) (hf : NoUp x y hx hy p) (hr : ∀ i, p < i → i < 64 → (X.getLsbD i || Y.getLsbD i) = (x.getLsbD i || y.getLsbD i))
    (h1 : y.getLsbD p = true) (h2 : Y.getLsbD p = false) : False :=
  noUp_x (X := Y) (Y := X) hY hp (noUp_swap hf) (fun i a b => by rw [Bool.or_comm, hr i a b, Bool.or_comm]) h1 h2

/-- Nothing is turned up: Or is least. -/
theorem or_none (hX : x.toNat ≤ X.toNat ∧ X.toNat ≤ hx.toNat) (hY : y.toNat ≤ Y.toNat ∧ Y.toNat ≤ hy.toNat)
    (hf : ∀ q, q < 64 → ¬(x.getLsbD q = false ∧ y.getLsbD q = true ∧ Up x hx q) ∧ ¬(x.getLsbD q = true ∧ y.getLsbD q = false ∧ Up y hy q)) : (x ||| y).toNat ≤ (X ||| Y).toNat := by
  by_cases hlt : (X ||| Y).toNat < (x ||| y).toNat
  · exfalso
    obtain ⟨p, hp, h1, h2, h3⟩ := hi_diff hlt
    rw [BitVec.getLsbD_or, Bool.or_eq_false_iff] at h1
    rw [BitVec.getLsbD_or, Bool.or_eq_true] at h2
    have hr : ∀ i, p < i → i < 64 → (X.getLsbD i || Y.getLsbD i) = (x.getLsbD i || y.getLsbD i) := fun i a b => by
      have := h3 i a b
      rwa [BitVec.getLsbD_or, BitVec.getLsbD_or] at this
    have hN : NoUp x y hx hy p := fun q _ b => hf q b
    rcases h2 with h2 | h2
    · exact noUp_x hX hp hN hr h2 h1.1
    · exact noUp_y hY hp hN hr h2 h1.2
  · omega

/-- x is turned up at m: Or is least. -/
theorem or_up (hX : x.toNat ≤ X.toNat ∧ X.toNat ≤ hx.toNat) (hY : y.toNat ≤ Y.toNat ∧ Y.toNat ≤ hy.toNat) {m : Nat} (hm : m < 64) (hym : y.getLsbD m = true)
    (hf : NoUp x y hx hy m) : (upW x (mB m) ||| y).toNat ≤ (X ||| Y).toNat := by
  by_cases hlt : (X ||| Y).toNat < (upW x (mB m) ||| y).toNat
  · exfalso
    obtain ⟨p, hp, h1, h2, h3⟩ := hi_diff hlt
    rw [BitVec.getLsbD_or, Bool.or_eq_false_iff] at h1
    rw [BitVec.getLsbD_or, up_bit x m p hp] at h2
    have hab : ∀ i, p < i → i < 64 → (X.getLsbD i || Y.getLsbD i) = ((decide (i = m) || (decide (m < i) && x.getLsbD i)) || y.getLsbD i) := fun i a b => by
      have := h3 i a b
      rwa [BitVec.getLsbD_or, BitVec.getLsbD_or, up_bit x m i b] at this
    by_cases e1 : m ≤ p
    · have hN : NoUp x y hx hy p := fun q a b => hf q (by omega) b
      have hr : ∀ i, p < i → i < 64 → (X.getLsbD i || Y.getLsbD i) = (x.getLsbD i || y.getLsbD i) := fun i a b => by
        have := hab i a b
        have n1 : i ≠ m := by omega
        have n2 : m < i := by omega
        simpa [n1, n2] using this
      by_cases e2 : p = m
      · subst e2
        exact noUp_y hY hp hN hr hym h1.2
      · have n2 : m < p := by omega
        simp only [e2, n2, decide_false, decide_true, Bool.false_or, Bool.true_and, Bool.or_eq_true] at h2
        rcases h2 with h2 | h2
        · exact noUp_x hX hp hN hr h2 h1.1
        · exact noUp_y hY hp hN hr h2 h1.2
    · have n1 : p ≠ m := by omega
      have n2 : ¬ m < p := by omega
      simp only [n1, n2, decide_false, Bool.false_or, Bool.false_and] at h2
      obtain ⟨q, a, b, c, d, e⟩ := up_from hp hY.1 h2 h1.2
      have hq := hab q a b
      rw [c, d, Bool.or_true, Bool.or_false] at hq
      by_cases e3 : q = m
      · subst e3; rw [hym] at c; cases c
      · by_cases e4 : m < q
        · simp only [e3, e4, decide_false, decide_true, Bool.false_or, Bool.true_and] at hq
          exact (hf q e4 b).2 ⟨hq.symm, c, by have := up_le e d; unfold Up; omega⟩
        · simp [e3, e4] at hq
  · omega

/-- No bit from p on that both have lets either be turned down. -/
def NoIn (x y lx ly : W) (p : Nat) : Prop := ∀ q, p < q → q < 64 → x.getLsbD q = true → y.getLsbD q = true → ¬ In' x lx q ∧ ¬ In' y ly q

variable {lx ly : W}
theorem noIn_swap {p : Nat} (hf : NoIn x y lx ly p) : NoIn y x ly lx p := fun q a b c d => ⟨(hf q a b d c).2, (hf q a b d c).1⟩

theorem noIn_x (hX : lx.toNat ≤ X.toNat ∧ X.toNat ≤ x.toNat) (hY : ly.toNat ≤ Y.toNat ∧ Y.toNat ≤ y.toNat) {p : Nat} (hp : p < 64) (hf : NoIn x y lx ly p)
    (hr : ∀ i, p < i → i < 64 → (x.getLsbD i || y.getLsbD i) = (X.getLsbD i || Y.getLsbD i)) (h1 : X.getLsbD p = true) (h2 : x.getLsbD p = false) : False := by
  obtain ⟨q, a, b, c, d, e⟩ := up_from hp hX.2 h1 h2
  have h3 := hr q a b
  rw [c, d, Bool.true_or, Bool.false_or] at h3
  have hYq : Y.getLsbD q = true := h3.symm
  cases hyq : y.getLsbD q with
  | true => exact (hf q a b d hyq).1 (by have := le_wi b (fun i u v => (e i u v).symm) c; unfold In'; omega)
  | false =>
    obtain ⟨q2, a2, b2, c2, d2, e2⟩ := up_from b hY.2 hYq hyq
    have h4 := hr q2 (by omega) b2
    rw [d2, c2, Bool.or_true, Bool.or_false] at h4
    have hx2 : x.getLsbD q2 = true := by rw [← e q2 a2 b2]; exact h4.symm
    exact (hf q2 (by omega) b2 hx2 d2).2 (by have := le_wi b2 (fun i u v => (e2 i u v).symm) c2; unfold In'; omega)

theorem noIn_y (hX : lx.toNat ≤ X.toNat ∧ X.toNat ≤ x.toNat) (hY : ly.toNat ≤ Y.toNat ∧ Y.toNat ≤ y.toNat) {p : Nat} (hp : p < 64) (hf : NoIn x y lx ly p)
    (hr : ∀ i, p < i → i < 64 → (x.getLsbD i || y.getLsbD i) = (X.getLsbD i || Y.getLsbD i)) (h1 : Y.getLsbD p = true) (h2 : y.getLsbD p = false) : False :=
  noIn_x hY hX hp (noIn_swap hf) (fun i a b => by rw [Bool.or_comm, hr i a b, Bool.or_comm]) h1 h2

theorem or_most_none (hX : lx.toNat ≤ X.toNat ∧ X.toNat ≤ x.toNat) (hY : ly.toNat ≤ Y.toNat ∧ Y.toNat ≤ y.toNat)
    (hf : ∀ q, q < 64 → x.getLsbD q = true → y.getLsbD q = true → ¬ In' x lx q ∧ ¬ In' y ly q) : (X ||| Y).toNat ≤ (x ||| y).toNat := by
  by_cases hlt : (x ||| y).toNat < (X ||| Y).toNat
  · exfalso
    obtain ⟨p, hp, h1, h2, h3⟩ := hi_diff hlt
    rw [BitVec.getLsbD_or, Bool.or_eq_false_iff] at h1
    rw [BitVec.getLsbD_or, Bool.or_eq_true] at h2
    have hr : ∀ i, p < i → i < 64 → (x.getLsbD i || y.getLsbD i) = (X.getLsbD i || Y.getLsbD i) := fun i a b => by
      have := h3 i a b
      rwa [BitVec.getLsbD_or, BitVec.getLsbD_or] at this
    have hN : NoIn x y lx ly p := fun q _ b => hf q b
    rcases h2 with h2 | h2
    · exact noIn_x hX hY hp hN hr h2 h1.1
    · exact noIn_y hX hY hp hN hr h2 h1.2
  · omega

theorem or_most_in (hX : lx.toNat ≤ X.toNat ∧ X.toNat ≤ x.toNat) (hY : ly.toNat ≤ Y.toNat ∧ Y.toNat ≤ y.toNat) {m : Nat} (hm : m < 64) (hym : y.getLsbD m = true)
    (hf : NoIn x y lx ly m) : (X ||| Y).toNat ≤ (wiW x (mB m) ||| y).toNat := by
  by_cases hlt : (wiW x (mB m) ||| y).toNat < (X ||| Y).toNat
  · exfalso
    obtain ⟨p, hp, h1, h2, h3⟩ := hi_diff hlt
    rw [BitVec.getLsbD_or, wi_bit x m p hm hp, Bool.or_eq_false_iff] at h1
    rw [BitVec.getLsbD_or, Bool.or_eq_true] at h2
    have hpm : m < p := by
      by_cases e : p = m
      · subst e; rw [hym] at h1; exact absurd h1.2 (by decide)
      · by_cases e2 : p < m
        · simp [e2] at h1
        · omega
    have n1 : ¬ p < m := by omega
    simp only [n1, hpm, decide_false, decide_true, Bool.false_or, Bool.true_and] at h1
    have hr : ∀ i, p < i → i < 64 → (x.getLsbD i || y.getLsbD i) = (X.getLsbD i || Y.getLsbD i) := fun i a b => by
      have := h3 i a b
      rw [BitVec.getLsbD_or, BitVec.getLsbD_or, wi_bit x m i hm b] at this
      have n2 : ¬ i < m := by omega
      have n3 : m < i := by omega
      simpa [n2, n3] using this
    have hN : NoIn x y lx ly p := fun q a b => hf q (by omega) b
    rcases h2 with h2 | h2
    · exact noIn_x hX hY hp hN hr h2 h1.1
    · exact noIn_y hX hY hp hN hr h2 h1.2
  · omega
end
end Go.Rf
