/- Spans: no result is left out. -/
import Derived.Test.YtpmbaddpcahnfaaSr1
import Derived.Test.YtpmbaddpcahnfaaSp7
set_option linter.unusedVariables false
set_option linter.unusedSimpArgs false
namespace Go.Rf

/-- So many bits, and the greatest number of them. -/
structure Wd (n t : W) : Prop where
  nn : n = 32#64 ∨ n = 64#64
  tt : t = ones' n.toNat
theorem wd32 : Wd 32#64 t32 := ⟨.inl rfl, by decide⟩
theorem wd64 : Wd 64#64 t64 := ⟨.inr rfl, by decide⟩

variable {n t : W} {a b : Sp} {X Y : W}
theorem Wd.le (h : Wd n t) : n.toNat ≤ 64 := by rcases h.nn with e | e <;> rw [e] <;> decide
theorem Wd.tn (h : Wd n t) : t.toNat = 2 ^ n.toNat - 1 := by rw [h.tt, ones_nat h.le]
theorem Wd.and (h : Wd n t) (x : W) : (x &&& t).toNat = x.toNat % 2 ^ n.toNat := by rw [h.tt, and_ones x h.le]
theorem Wd.cases (h : Wd n t) : (n.toNat = 32 ∧ t.toNat = 4294967295 ∧ 2 ^ n.toNat = 4294967296) ∨ (n.toNat = 64 ∧ t.toNat = 18446744073709551615 ∧ 2 ^ n.toNat = 18446744073709551616) := by
  have := h.tn
  rcases h.nn with e | e
  · left; rw [e] at this ⊢; exact ⟨rfl, this, rfl⟩
  · right; rw [e] at this ⊢; exact ⟨rfl, this, rfl⟩

/-- The results are held. -/
def Holds (s : Sp) (t r : W) : Prop := memS s r ∧ s.hi.toNat ≤ t.toNat
theorem full (h : Wd n t) (x : W) : Holds ⟨0, t⟩ t (x &&& t) := by
  have h1 := h.and x
  have h2 := h.tn
  have h3 := Nat.mod_lt x.toNat (Nat.two_pow_pos n.toNat)
  refine ⟨⟨Nat.zero_le _, ?_⟩, Nat.le_refl _⟩
  show (x &&& t).toNat ≤ t.toNat
  omega

theorem carry_eq (x y : W) : carryB x y = bif decide (2 ^ 64 ≤ x.toNat + y.toNat) then 1#64 else 0#64 := by
  unfold carryB
  have hx := x.isLt
  have hy := y.isLt
  congr 1
  rw [Bool.eq_iff_iff]
  simp only [BitVec.ult, BitVec.toNat_add, decide_eq_true_eq]
  omega
theorem borrow_eq (x y : W) : borrowB x y = bif decide (x.toNat < y.toNat) then 1#64 else 0#64 := rfl
theorem bit_ne (p q : Prop) [Decidable p] [Decidable q] : ((bif decide p then 1#64 else 0#64 : W) != (bif decide q then 1#64 else 0#64)) = true ↔ ¬(p ↔ q) := by
  by_cases hp : p <;> by_cases hq : q <;> simp [hp, hq]
theorem dec_ne (p q : Prop) [Decidable p] [Decidable q] : (decide p != decide q) = true ↔ ¬(p ↔ q) := by
  by_cases hp : p <;> by_cases hq : q <;> simp [hp, hq]

theorem sum_ok (h : Wd n t) (ha : a.hi.toNat ≤ t.toNat) (hb : b.hi.toNat ≤ t.toNat) (hX : memS a X) (hY : memS b Y) : Holds (sumS a b t) t ((X + Y) &&& t) := by
  unfold sumS
  cases hc : sumBad a b t with
  | true => exact full h _
  | false =>
    have hn : ¬ sumBad a b t = true := by rw [hc]; decide
    unfold sumBad at hn
    rw [Bool.or_eq_true, carry_eq, carry_eq, bit_ne, ltU, ltU, dec_ne, BitVec.toNat_add, BitVec.toNat_add] at hn
    obtain ⟨x1, x2⟩ := hX
    obtain ⟨y1, y2⟩ := hY
    have l1 := h.and (a.lo + b.lo)
    have l2 := h.and (a.hi + b.hi)
    have l3 := h.and (X + Y)
    rw [BitVec.toNat_add] at l1 l2 l3
    have i1 := a.hi.isLt
    have i2 := b.hi.isLt
    refine ⟨⟨?_, ?_⟩, ?_⟩
    · show ((a.lo + b.lo) &&& t).toNat ≤ ((X + Y) &&& t).toNat
      rcases h.cases with ⟨_, e2, e3⟩ | ⟨_, e2, e3⟩ <;> rw [e3] at l1 l3 <;> rw [e2] at ha hb hn <;> omega
    · show ((X + Y) &&& t).toNat ≤ ((a.hi + b.hi) &&& t).toNat
      rcases h.cases with ⟨_, e2, e3⟩ | ⟨_, e2, e3⟩ <;> rw [e3] at l2 l3 <;> rw [e2] at ha hb hn <;> omega
    · show ((a.hi + b.hi) &&& t).toNat ≤ t.toNat
      rcases h.cases with ⟨_, e2, e3⟩ | ⟨_, e2, e3⟩ <;> rw [e3] at l2 <;> rw [e2] <;> omega

theorem less_ok (h : Wd n t) (ha : a.hi.toNat ≤ t.toNat) (hb : b.hi.toNat ≤ t.toNat) (hX : memS a X) (hY : memS b Y) : Holds (lessS a b t) t ((X - Y) &&& t) := by
  unfold lessS
  cases hc : lessBad a b with
  | true => exact full h _
  | false =>
    have hn : ¬ lessBad a b = true := by rw [hc]; decide
    unfold lessBad at hn
    rw [borrow_eq, borrow_eq, bit_ne] at hn
    obtain ⟨x1, x2⟩ := hX
    obtain ⟨y1, y2⟩ := hY
    have l1 := h.and (a.lo - b.hi)
    have l2 := h.and (a.hi - b.lo)
    have l3 := h.and (X - Y)
    rw [BitVec.toNat_sub] at l1 l2 l3
    have i1 := a.hi.isLt
    have i2 := b.hi.isLt
    refine ⟨⟨?_, ?_⟩, ?_⟩
    · show ((a.lo - b.hi) &&& t).toNat ≤ ((X - Y) &&& t).toNat
      rcases h.cases with ⟨_, e2, e3⟩ | ⟨_, e2, e3⟩ <;> rw [e3] at l1 l3 <;> rw [e2] at ha hb <;> omega
    · show ((X - Y) &&& t).toNat ≤ ((a.hi - b.lo) &&& t).toNat
      rcases h.cases with ⟨_, e2, e3⟩ | ⟨_, e2, e3⟩ <;> rw [e3] at l2 l3 <;> rw [e2] at ha hb <;> omega
    · show ((a.hi - b.lo) &&& t).toNat ≤ t.toNat
      rcases h.cases with ⟨_, e2, e3⟩ | ⟨_, e2, e3⟩ <;> rw [e3] at l2 <;> rw [e2] <;> omega

theorem mulS_good (h : Wd n t) (hc : (ltB .u64 0#64 (mulHi a.hi b.hi) || ltB .u64 t (a.hi * b.hi)) = false) : a.hi.toNat * b.hi.toNat ≤ t.toNat ∧ a.hi.toNat * b.hi.toNat < 18446744073709551616 := by
  rw [ltU, ltU, mulHi_nat, BitVec.toNat_mul, Bool.or_eq_false_iff, decide_eq_false_iff_not, decide_eq_false_iff_not] at hc
  have z : (0#64 : W).toNat = 0 := rfl
  rw [z] at hc
  generalize a.hi.toNat * b.hi.toNat = p at *
  omega
theorem mul_ok (h : Wd n t) (hX : memS a X) (hY : memS b Y) : Holds (mulS a b t) t ((X * Y) &&& t) := by
  unfold mulS
  cases hc : (ltB .u64 0#64 (mulHi a.hi b.hi) || ltB .u64 t (a.hi * b.hi)) with
  | true => exact full h _
  | false =>
    obtain ⟨g1, g2⟩ := mulS_good h hc
    have m1 : X.toNat * Y.toNat ≤ a.hi.toNat * b.hi.toNat := Nat.mul_le_mul hX.2 hY.2
    have m2 : a.lo.toNat * b.lo.toNat ≤ X.toNat * Y.toNat := Nat.mul_le_mul hX.1 hY.1
    have l1 := h.and (X * Y)
    have h2 := h.tn
    have h0 := Nat.two_pow_pos n.toNat
    have e1 : (X * Y).toNat = X.toNat * Y.toNat := by rw [BitVec.toNat_mul, Nat.mod_eq_of_lt (by omega)]
    have e2 : (a.lo * b.lo).toNat = a.lo.toNat * b.lo.toNat := by rw [BitVec.toNat_mul, Nat.mod_eq_of_lt (by omega)]
    have e3 : (a.hi * b.hi).toNat = a.hi.toNat * b.hi.toNat := by rw [BitVec.toNat_mul, Nat.mod_eq_of_lt (by omega)]
    rw [e1, Nat.mod_eq_of_lt (by omega)] at l1
    refine ⟨⟨?_, ?_⟩, ?_⟩
    · show (a.lo * b.lo).toNat ≤ _; omega
    · show _ ≤ (a.hi * b.hi).toNat; omega
    · show (a.hi * b.hi).toNat ≤ _; omega

theorem quoW_nat (x y : W) : (quoW x y).toNat = x.toNat / y.toNat := by
  show (x / y).toNat = _
  exact BitVec.toNat_udiv
theorem remW_nat (x y : W) : (remW x y).toNat = x.toNat % y.toNat := by
  show (x % y).toNat = _
  exact BitVec.toNat_umod
theorem eq0 (x : W) : (x == 0#64) = decide (x.toNat = 0) := by
  rw [Bool.eq_iff_iff, beq_iff_eq, decide_eq_true_eq, ← BitVec.toNat_inj]; rfl

def quo0 (x y : W) : W := bif y == 0#64 then 0#64 else quoW x y
def rem0 (x y : W) : W := bif y == 0#64 then x else remW x y
theorem quo0_nat (x y : W) : (quo0 x y).toNat = x.toNat / y.toNat := by
  unfold quo0
  rw [eq0]
  by_cases h : y.toNat = 0
  · rw [decide_eq_true h, h, Nat.div_zero]; rfl
  · rw [decide_eq_false h]; exact quoW_nat x y
theorem rem0_nat (x y : W) : (rem0 x y).toNat = x.toNat % y.toNat := by
  unfold rem0
  rw [eq0]
  by_cases h : y.toNat = 0
  · rw [decide_eq_true h, h, Nat.mod_zero]; rfl
  · rw [decide_eq_false h]; exact remW_nat x y

theorem parts_ok (ha : a.hi.toNat ≤ t.toNat) (hX : memS a X) (hY : memS b Y) : Holds (partsS a b) t (quo0 X Y) := by
  obtain ⟨x1, x2⟩ := hX
  obtain ⟨y1, y2⟩ := hY
  have hq := quo0_nat X Y
  unfold partsS
  rw [eq0, eq0]
  by_cases h1 : b.hi.toNat = 0
  · rw [decide_eq_true h1]
    have : Y.toNat = 0 := by omega
    rw [this, Nat.div_zero] at hq
    exact ⟨⟨Nat.zero_le _, by rw [hq]; exact Nat.zero_le _⟩, Nat.zero_le _⟩
  · rw [decide_eq_false h1]
    have hle : X.toNat / Y.toNat ≤ X.toNat := Nat.div_le_self _ _
    by_cases h2 : b.lo.toNat = 0
    · rw [decide_eq_true h2]
      exact ⟨⟨Nat.zero_le _, by show (quo0 X Y).toNat ≤ a.hi.toNat; omega⟩, ha⟩
    · rw [decide_eq_false h2]
      refine ⟨⟨?_, ?_⟩, ?_⟩
      · show (quoW a.lo b.hi).toNat ≤ _
        rw [quoW_nat, hq]
        exact Nat.div_le_div x1 y2 (by omega)
      · show _ ≤ (quoW a.hi b.lo).toNat
        rw [quoW_nat, hq]
        exact Nat.div_le_div x2 y1 h2
      · show (quoW a.hi b.lo).toNat ≤ _
        rw [quoW_nat]
        exact Nat.le_trans (Nat.div_le_self _ _) ha

theorem rest_ok (ha : a.hi.toNat ≤ t.toNat) (hX : memS a X) (hY : memS b Y) : Holds (restS a b) t (rem0 X Y) := by
  obtain ⟨x1, x2⟩ := hX
  obtain ⟨y1, y2⟩ := hY
  have hr := rem0_nat X Y
  unfold restS
  have hle : X.toNat % Y.toNat ≤ X.toNat := Nat.mod_le _ _
  cases h1 : restC1 a b with
  | true =>
    have : X.toNat % Y.toNat = X.toNat := by
      unfold restC1 at h1
      rw [eq0, ltU, Bool.or_eq_true, decide_eq_true_eq, decide_eq_true_eq] at h1
      rcases h1 with h1 | h1
      · rw [show Y.toNat = 0 by omega, Nat.mod_zero]
      · exact Nat.mod_eq_of_lt (by omega)
    exact ⟨⟨by show a.lo.toNat ≤ _; omega, by show _ ≤ a.hi.toNat; omega⟩, ha⟩
  | false =>
    unfold restC1 at h1
    rw [eq0, ltU, Bool.or_eq_false_iff, decide_eq_false_iff_not, decide_eq_false_iff_not] at h1
    cases h2 : restC2 a b with
    | true =>
      unfold restC2 at h2
      simp only [Bool.and_eq_true, beq_iff_eq, ← BitVec.toNat_inj, quoW_nat] at h2
      obtain ⟨e1, e2⟩ := h2
      have ey : Y.toNat = b.lo.toNat := by omega
      rw [ey] at hr
      have q1 : a.lo.toNat / b.lo.toNat ≤ X.toNat / b.lo.toNat := Nat.div_le_div_right x1
      have q2 : X.toNat / b.lo.toNat ≤ a.hi.toNat / b.lo.toNat := Nat.div_le_div_right x2
      have d1 := Nat.div_add_mod a.lo.toNat b.lo.toNat
      have d2 := Nat.div_add_mod X.toNat b.lo.toNat
      have d3 := Nat.div_add_mod a.hi.toNat b.lo.toNat
      have e3 : X.toNat / b.lo.toNat = a.hi.toNat / b.lo.toNat := by omega
      rw [e2] at d1
      rw [e3] at d2
      refine ⟨⟨?_, ?_⟩, ?_⟩
      · show (remW a.lo b.lo).toNat ≤ _
        rw [remW_nat]; omega
      · show _ ≤ (remW a.hi b.lo).toNat
        rw [remW_nat]; omega
      · show (remW a.hi b.lo).toNat ≤ _
        rw [remW_nat]
        exact Nat.le_trans (Nat.mod_le _ _) ha
    | false =>
      rw [eq0]
      by_cases h3 : b.lo.toNat = 0
      · rw [decide_eq_true h3]
        exact ⟨⟨Nat.zero_le _, by show _ ≤ a.hi.toNat; omega⟩, ha⟩
      · rw [decide_eq_false h3]
        have hm : (minU a.hi (b.hi - 1#64)).toNat = min a.hi.toNat (b.hi.toNat - 1) := by
          rw [minU_nat, BitVec.toNat_sub]
          have := b.hi.isLt
          have e1 : (1#64 : W).toNat = 1 := rfl
          congr 1
          omega
        have : X.toNat % Y.toNat < Y.toNat := Nat.mod_lt _ (by omega)
        refine ⟨⟨Nat.zero_le _, ?_⟩, ?_⟩
        · show _ ≤ (minU a.hi (b.hi - 1#64)).toNat
          omega
        · show (minU a.hi (b.hi - 1#64)).toNat ≤ _
          omega
end Go.Rf
