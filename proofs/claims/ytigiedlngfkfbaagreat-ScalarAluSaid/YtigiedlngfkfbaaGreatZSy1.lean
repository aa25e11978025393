/- Spans: the least result bit by bit, from the highest bit on: plain, in natural numbers. -/
import Derived.Test.YtigiedlngfkfbaaGreatUt
set_option linter.unusedVariables false
set_option linter.unusedSimpArgs false
namespace Go.Rf

/-- Is a number as low, as high as the ends? -/
def mk2y (L H p : Nat) : Nat := (if p = L then 1 else 0) + (if p = H then 2 else 0)
def okN (s l h x : Nat) : Prop := ¬(s % 2 = 1 ∧ x < l) ∧ ¬(s / 2 % 2 = 1 ∧ h < x)
def nwN (s l h x : Nat) : Nat := (if s % 2 = 1 ∧ x = l then 1 else 0) + (if s / 2 % 2 = 1 ∧ x = h then 2 else 0)

theorem div_bit (n i : Nat) : n / 2 ^ i = 2 * (n / 2 ^ (i + 1)) + n / 2 ^ i % 2 := by
  rw [Nat.pow_succ, ← Nat.div_div_eq_div_mul]; omega
theorem mk2_lt (L H p : Nat) : mk2y L H p < 4 := by unfold mk2y; split <;> split <;> omega
theorem mk2_lo (L H p : Nat) : mk2y L H p % 2 = 1 ↔ p = L := by unfold mk2y; split <;> split <;> omega
theorem mk2_hi (L H p : Nat) : mk2y L H p / 2 % 2 = 1 ↔ p = H := by unfold mk2y; split <;> split <;> omega
theorem mark_step {L H l h p x : Nat} (e1 : l = 2 * L + l % 2) (e2 : h = 2 * H + h % 2) (hp : L ≤ p ∧ p ≤ H) (hx : x < 2) :
    (okN (mk2y L H p) (l % 2) (h % 2) x ↔ l ≤ 2 * p + x ∧ 2 * p + x ≤ h) ∧ (l ≤ 2 * p + x ∧ 2 * p + x ≤ h → nwN (mk2y L H p) (l % 2) (h % 2) x = mk2y l h (2 * p + x)) := by
  have b1 := mk2_lo L H p
  have b2 := mk2_hi L H p
  refine ⟨by unfold okN; rw [b1, b2]; omega, fun hh => ?_⟩
  unfold nwN
  simp only [b1, b2]
  have c1 : (p = L ∧ x = l % 2) ↔ 2 * p + x = l := by omega
  have c2 : (p = H ∧ x = h % 2) ↔ 2 * p + x = h := by omega
  unfold mk2y
  simp only [c1, c2]

/-- What is done bit by bit. -/
structure BOp (f g : Nat → Nat → Nat) : Prop where
  step : ∀ p q x y, x < 2 → y < 2 → f (2 * p + x) (2 * q + y) = 2 * f p q + g x y
  lt : ∀ x y, x < 2 → y < 2 → g x y < 2
  zero : f 0 0 = 0

theorem bit_parts (p x : Nat) (hx : x < 2) : (2 * p + x) / 2 = p ∧ (2 * p + x) % 2 = x := by omega
theorem nat_bits {a b : Nat} (h0 : a % 2 = b % 2) (h : a / 2 = b / 2) : a = b := by omega
theorem bop_or : BOp (· ||| ·) (· ||| ·) where
  step p q x y hx hy := by
    show (2 * p + x) ||| (2 * q + y) = 2 * (p ||| q) + (x ||| y)
    have hxy : x ||| y < 2 := Nat.or_lt_two_pow (n := 1) hx hy
    refine nat_bits ?_ ?_
    · rw [show ((2 * p + x) ||| (2 * q + y)) % 2 = ((2 * p + x) % 2 ||| (2 * q + y) % 2) from Nat.or_mod_two_pow (n := 1)]
      rw [(bit_parts p x hx).2, (bit_parts q y hy).2]; omega
    · rw [Nat.or_div_two, (bit_parts p x hx).1, (bit_parts q y hy).1]; omega
  lt x y hx hy := Nat.or_lt_two_pow (n := 1) hx hy
  zero := rfl
theorem bop_and : BOp (· &&& ·) (· &&& ·) where
  step p q x y hx hy := by
    show (2 * p + x) &&& (2 * q + y) = 2 * (p &&& q) + (x &&& y)
    have hxy : x &&& y < 2 := Nat.lt_of_le_of_lt Nat.and_le_left hx
    refine nat_bits ?_ ?_
    · rw [show ((2 * p + x) &&& (2 * q + y)) % 2 = ((2 * p + x) % 2 &&& (2 * q + y) % 2) from Nat.and_mod_two_pow (n := 1)]
      rw [(bit_parts p x hx).2, (bit_parts q y hy).2]; omega
    · rw [Nat.and_div_two, (bit_parts p x hx).1, (bit_parts q y hy).1]; omega
  lt x y hx hy := Nat.lt_of_le_of_lt Nat.and_le_left hx
  zero := rfl
theorem bop_xor : BOp (· ^^^ ·) (· ^^^ ·) where
  step p q x y hx hy := by
    show (2 * p + x) ^^^ (2 * q + y) = 2 * (p ^^^ q) + (x ^^^ y)
    have hxy : x ^^^ y < 2 := Nat.xor_lt_two_pow (n := 1) hx hy
    refine nat_bits ?_ ?_
    · rw [show ((2 * p + x) ^^^ (2 * q + y)) % 2 = ((2 * p + x) % 2 ^^^ (2 * q + y) % 2) from Nat.xor_mod_two_pow (n := 1)]
      rw [(bit_parts p x hx).2, (bit_parts q y hy).2]; omega
    · rw [Nat.xor_div_two, (bit_parts p x hx).1, (bit_parts q y hy).1]; omega
  lt x y hx hy := Nat.xor_lt_two_pow (n := 1) hx hy
  zero := rfl

section
variable {f g : Nat → Nat → Nat} (B : BOp f g) (la ha lb hb : Nat)
/-- The bits from i on of two numbers within their ends. -/
def Pair (i p q : Nat) : Prop := (la / 2 ^ i ≤ p ∧ p ≤ ha / 2 ^ i) ∧ (lb / 2 ^ i ≤ q ∧ q ≤ hb / 2 ^ i)
/-- The marks of all pairs that come to out. -/
def Marks (f : Nat → Nat → Nat) (i out : Nat) (now : Nat → Bool) : Prop :=
  ∀ s, s < 16 → (now s = true ↔ ∃ p q, Pair la ha lb hb i p q ∧ f p q = out ∧ s = mk2y (la / 2 ^ i) (ha / 2 ^ i) p + 4 * mk2y (lb / 2 ^ i) (hb / 2 ^ i) q)
/-- A way from mark s by the bits x, y to mark t. -/
def Way (g : Nat → Nat → Nat) (i want : Nat) (now : Nat → Bool) (s x y t : Nat) : Prop :=
  now s = true ∧ g x y = want ∧ okN (s % 4) (la / 2 ^ i % 2) (ha / 2 ^ i % 2) x ∧ okN (s / 4) (lb / 2 ^ i % 2) (hb / 2 ^ i % 2) y ∧
    t = nwN (s % 4) (la / 2 ^ i % 2) (ha / 2 ^ i % 2) x + 4 * nwN (s / 4) (lb / 2 ^ i % 2) (hb / 2 ^ i % 2) y
include B
theorem ways {i out want : Nat} (hw : want < 2) {now : Nat → Bool} (h : Marks la ha lb hb f (i + 1) out now) (t : Nat) :
    (∃ s x y, s < 16 ∧ x < 2 ∧ y < 2 ∧ Way la ha lb hb g i want now s x y t) ↔
    ∃ p q, Pair la ha lb hb i p q ∧ f p q = 2 * out + want ∧ t = mk2y (la / 2 ^ i) (ha / 2 ^ i) p + 4 * mk2y (lb / 2 ^ i) (hb / 2 ^ i) q := by
  constructor
  · rintro ⟨s, x, y, hs, hx, hy, w1, w2, w3, w4, w5⟩
    obtain ⟨p, q, ⟨hp, hq⟩, e1, e2⟩ := (h s hs).1 w1
    have m1 := mk2_lt (la / 2 ^ (i + 1)) (ha / 2 ^ (i + 1)) p
    have m2 := mk2_lt (lb / 2 ^ (i + 1)) (hb / 2 ^ (i + 1)) q
    have s1 : s % 4 = mk2y (la / 2 ^ (i + 1)) (ha / 2 ^ (i + 1)) p := by omega
    have s2 : s / 4 = mk2y (lb / 2 ^ (i + 1)) (hb / 2 ^ (i + 1)) q := by omega
    rw [s1] at w3 w5
    rw [s2] at w4 w5
    obtain ⟨a1, a2⟩ := mark_step (div_bit la i) (div_bit ha i) hp hx
    obtain ⟨b1, b2⟩ := mark_step (div_bit lb i) (div_bit hb i) hq hy
    have c1 := a1.1 w3
    have c2 := b1.1 w4
    refine ⟨2 * p + x, 2 * q + y, ⟨c1, c2⟩, ?_, ?_⟩
    · rw [B.step p q x y hx hy, e1, w2]
    · rw [w5, a2 c1, b2 c2]
  · rintro ⟨p', q', ⟨hp, hq⟩, e1, e2⟩
    have hx : p' % 2 < 2 := by omega
    have hy : q' % 2 < 2 := by omega
    have ep : p' = 2 * (p' / 2) + p' % 2 := by omega
    have eq : q' = 2 * (q' / 2) + q' % 2 := by omega
    have d1 := div_bit la i
    have d2 := div_bit ha i
    have d3 := div_bit lb i
    have d4 := div_bit hb i
    have hP : la / 2 ^ (i + 1) ≤ p' / 2 ∧ p' / 2 ≤ ha / 2 ^ (i + 1) := by omega
    have hQ : lb / 2 ^ (i + 1) ≤ q' / 2 ∧ q' / 2 ≤ hb / 2 ^ (i + 1) := by omega
    obtain ⟨a1, a2⟩ := mark_step d1 d2 hP hx
    obtain ⟨b1, b2⟩ := mark_step d3 d4 hQ hy
    rw [← ep] at a1 a2
    rw [← eq] at b1 b2
    have hf := B.step (p' / 2) (q' / 2) (p' % 2) (q' % 2) hx hy
    rw [← ep, ← eq, e1] at hf
    have hg := B.lt (p' % 2) (q' % 2) hx hy
    have m1 := mk2_lt (la / 2 ^ (i + 1)) (ha / 2 ^ (i + 1)) (p' / 2)
    have m2 := mk2_lt (lb / 2 ^ (i + 1)) (hb / 2 ^ (i + 1)) (q' / 2)
    refine ⟨mk2y (la / 2 ^ (i + 1)) (ha / 2 ^ (i + 1)) (p' / 2) + 4 * mk2y (lb / 2 ^ (i + 1)) (hb / 2 ^ (i + 1)) (q' / 2), p' % 2, q' % 2, by omega, hx, hy, ?_⟩
    have s1 : (mk2y (la / 2 ^ (i + 1)) (ha / 2 ^ (i + 1)) (p' / 2) + 4 * mk2y (lb / 2 ^ (i + 1)) (hb / 2 ^ (i + 1)) (q' / 2)) % 4 = mk2y (la / 2 ^ (i + 1)) (ha / 2 ^ (i + 1)) (p' / 2) := by omega
    have s2 : (mk2y (la / 2 ^ (i + 1)) (ha / 2 ^ (i + 1)) (p' / 2) + 4 * mk2y (lb / 2 ^ (i + 1)) (hb / 2 ^ (i + 1)) (q' / 2)) / 4 = mk2y (lb / 2 ^ (i + 1)) (hb / 2 ^ (i + 1)) (q' / 2) := by omega
    unfold Way
    rw [s1, s2]
    refine ⟨(h _ (by omega)).2 ⟨p' / 2, q' / 2, ⟨hP, hQ⟩, by omega, rfl⟩, by omega, a1.2 hp, b1.2 hq, ?_⟩
    rw [e2, a2 hp, b2 hq]

/-- The least (of want 0), or the greatest (of want 1), of all pairs' results. -/
structure Opt (f : Nat → Nat → Nat) (want i out : Nat) : Prop where
  ex : ∃ p q, Pair la ha lb hb i p q ∧ f p q = out
  best : ∀ p q, Pair la ha lb hb i p q → (want = 0 → out ≤ f p q) ∧ (want = 1 → f p q ≤ out)
def Any (g : Nat → Nat → Nat) (i want : Nat) (now : Nat → Bool) : Prop := ∃ t s x y, s < 16 ∧ x < 2 ∧ y < 2 ∧ Way la ha lb hb g i want now s x y t
omit B in
theorem half_pair {i p q : Nat} (h : Pair la ha lb hb i p q) : Pair la ha lb hb (i + 1) (p / 2) (q / 2) := by
  have d1 := div_bit la i
  have d2 := div_bit ha i
  have d3 := div_bit lb i
  have d4 := div_bit hb i
  obtain ⟨⟨h1, h2⟩, h3, h4⟩ := h
  exact ⟨by omega, by omega⟩
omit B in
theorem more_one {l h L H p : Nat} (e1 : l = 2 * L + l % 2) (e2 : h = 2 * H + h % 2) (hlh : l ≤ h) (hp : L ≤ p ∧ p ≤ H) : ∃ x, x < 2 ∧ l ≤ 2 * p + x ∧ 2 * p + x ≤ h := by
  by_cases c1 : p = L
  · by_cases c2 : p = H
    · exact ⟨l % 2, by omega, by omega, by omega⟩
    · exact ⟨1, by omega, by omega, by omega⟩
  · exact ⟨0, by omega, by omega, by omega⟩
omit B in
theorem more_pair {i p q : Nat} (hla : la ≤ ha) (hlb : lb ≤ hb) (h : Pair la ha lb hb (i + 1) p q) : ∃ x y, x < 2 ∧ y < 2 ∧ Pair la ha lb hb i (2 * p + x) (2 * q + y) := by
  obtain ⟨x, x1, x2⟩ := more_one (div_bit la i) (div_bit ha i) (Nat.div_le_div_right hla) h.1
  obtain ⟨y, y1, y2⟩ := more_one (div_bit lb i) (div_bit hb i) (Nat.div_le_div_right hlb) h.2
  exact ⟨x, y, x1, y1, x2, y2⟩
theorem f_half (p q : Nat) : f p q = 2 * f (p / 2) (q / 2) + g (p % 2) (q % 2) ∧ g (p % 2) (q % 2) < 2 := by
  have ep : p = 2 * (p / 2) + p % 2 := by omega
  have eq : q = 2 * (q / 2) + q % 2 := by omega
  have := B.step (p / 2) (q / 2) (p % 2) (q % 2) (by omega) (by omega)
  rw [← ep, ← eq] at this
  exact ⟨this, B.lt _ _ (by omega) (by omega)⟩
theorem any_iff {i out want : Nat} (hw : want < 2) {now : Nat → Bool} (h : Marks la ha lb hb f (i + 1) out now) : Any la ha lb hb g i want now ↔ ∃ p q, Pair la ha lb hb i p q ∧ f p q = 2 * out + want := by
  constructor
  · rintro ⟨t, hh⟩
    obtain ⟨p, q, h1, h2, _⟩ := (ways B la ha lb hb hw h t).1 hh
    exact ⟨p, q, h1, h2⟩
  · rintro ⟨p, q, h1, h2⟩
    exact ⟨_, (ways B la ha lb hb hw h _).2 ⟨p, q, h1, h2, rfl⟩⟩
theorem opt_yes {i out want : Nat} (hw : want < 2) {now : Nat → Bool} (h : Marks la ha lb hb f (i + 1) out now) (o : Opt la ha lb hb f want (i + 1) out) (ha' : Any la ha lb hb g i want now) : Opt la ha lb hb f want i (2 * out + want) := by
  refine ⟨(any_iff B la ha lb hb hw h).1 ha', fun p q hp => ?_⟩
  obtain ⟨e, e2⟩ := f_half B p q
  have := o.best _ _ (half_pair la ha lb hb hp)
  rw [e]
  exact ⟨fun hz => by have := this.1 hz; omega, fun hz => by have := this.2 hz; omega⟩
theorem opt_no {i out want : Nat} (hla : la ≤ ha) (hlb : lb ≤ hb) (hw : want < 2) {now : Nat → Bool} (h : Marks la ha lb hb f (i + 1) out now) (o : Opt la ha lb hb f want (i + 1) out) (ha' : ¬ Any la ha lb hb g i want now) : Opt la ha lb hb f want i (2 * out + (1 - want)) := by
  rw [any_iff B la ha lb hb hw h] at ha'
  refine ⟨?_, fun p q hp => ?_⟩
  · obtain ⟨p, q, hp, e⟩ := o.ex
    obtain ⟨x, y, hx, hy, hp'⟩ := more_pair la ha lb hb hla hlb hp
    refine ⟨_, _, hp', ?_⟩
    have e1 := B.step p q x y hx hy
    have e2 := B.lt x y hx hy
    rw [e1, e]
    have : 2 * out + g x y ≠ 2 * out + want := fun hh => ha' ⟨_, _, hp', by rw [e1, e]; exact hh⟩
    omega
  · obtain ⟨e, e2⟩ := f_half B p q
    have hb' := o.best _ _ (half_pair la ha lb hb hp)
    have hne : f p q ≠ 2 * out + want := fun hh => ha' ⟨p, q, hp, hh⟩
    rw [e] at hne ⊢
    exact ⟨fun hz => by have := hb'.1 hz; omega, fun hz => by have := hb'.2 hz; omega⟩
theorem marks_step {i out want : Nat} (hw : want < 2) {now next : Nat → Bool} (h : Marks la ha lb hb f (i + 1) out now) (hn : ∀ t, t < 16 → (next t = true ↔ ∃ s x y, s < 16 ∧ x < 2 ∧ y < 2 ∧ Way la ha lb hb g i want now s x y t)) : Marks la ha lb hb f i (2 * out + want) next := fun t ht => by
  rw [hn t ht]
  exact ways B la ha lb hb hw h t
theorem marks_start {n : Nat} (h1 : la < 2 ^ n) (h2 : ha < 2 ^ n) (h3 : lb < 2 ^ n) (h4 : hb < 2 ^ n) {now : Nat → Bool} (hn : ∀ s, s < 16 → (now s = true ↔ s = 15)) : Marks la ha lb hb f n 0 now := by
  intro s hs
  rw [hn s hs]
  unfold Pair
  rw [Nat.div_eq_of_lt h1, Nat.div_eq_of_lt h2, Nat.div_eq_of_lt h3, Nat.div_eq_of_lt h4]
  constructor
  · rintro rfl
    exact ⟨0, 0, by omega, B.zero, rfl⟩
  · rintro ⟨p, q, ⟨hp, hq⟩, _, e⟩
    obtain rfl : p = 0 := by omega
    obtain rfl : q = 0 := by omega
    rw [e]; rfl
theorem opt_start {n want : Nat} (h1 : la < 2 ^ n) (h2 : ha < 2 ^ n) (h3 : lb < 2 ^ n) (h4 : hb < 2 ^ n) : Opt la ha lb hb f want n 0 := by
  have hP : ∀ p q, Pair la ha lb hb n p q ↔ p = 0 ∧ q = 0 := by
    intro p q
    unfold Pair
    rw [Nat.div_eq_of_lt h1, Nat.div_eq_of_lt h2, Nat.div_eq_of_lt h3, Nat.div_eq_of_lt h4]
    omega
  refine ⟨⟨0, 0, (hP 0 0).2 ⟨rfl, rfl⟩, B.zero⟩, fun p q hp => ?_⟩
  obtain ⟨rfl, rfl⟩ := (hP p q).1 hp
  rw [B.zero]
  exact ⟨fun _ => Nat.le_refl _, fun _ => Nat.le_refl _⟩
end
end Go.Rf
