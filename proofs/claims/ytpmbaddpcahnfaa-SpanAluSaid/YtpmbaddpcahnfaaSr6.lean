/- Spans: a greater span on either side makes no lesser one. -/
import Derived.Test.YtpmbaddpcahnfaaSr5
set_option linter.unusedVariables false
set_option linter.unusedSimpArgs false
namespace Go.Rf
open Go.Proofs

/-- One span's ends within another's. -/
def leS (a b : Sp) : Prop := b.lo.toNat ≤ a.lo.toNat ∧ a.hi.toNat ≤ b.hi.toNat
theorem leS.mem {a b : Sp} (h : leS a b) {x : W} (hx : memS a x) : memS b x := ⟨Nat.le_trans h.1 hx.1, Nat.le_trans hx.2 h.2⟩
theorem inS_iff {a b : Sp} : inS a b = true ↔ mayS a = true ∧ leS a b := by
  unfold inS leS
  simp only [leU, Bool.and_eq_true, decide_eq_true_eq]
  constructor
  · rintro ⟨⟨h1, h2⟩, h3⟩; exact ⟨h1, h2, h3⟩
  · rintro ⟨h1, h2, h3⟩; exact ⟨⟨h1, h2⟩, h3⟩

variable {n t : W} {a b a' b' : Sp}

theorem sum_grows (h : Wd n t) (ha : a'.hi.toNat ≤ t.toNat) (hb : b'.hi.toNat ≤ t.toNat) (ma : mayS a = true) (mb : mayS b = true) (la : leS a a') (lb : leS b b') (hs : (sumS a b t).hi.toNat ≤ t.toNat) :
    leS (sumS a b t) (sumS a' b' t) := by
  cases hc : sumBad a' b' t with
  | true =>
    have : sumS a' b' t = ⟨0, t⟩ := by unfold sumS; rw [hc]; rfl
    rw [this]; exact ⟨Nat.zero_le _, hs⟩
  | false =>
    have hn : ¬ sumBad a' b' t = true := by rw [hc]; decide
    have mla := mayS_iff.1 ma
    have mlb := mayS_iff.1 mb
    obtain ⟨a1, a2⟩ := la
    obtain ⟨b1, b2⟩ := lb
    unfold sumBad at hn
    rw [Bool.or_eq_true, carry_eq, carry_eq, bit_ne, ltU, ltU, dec_ne, BitVec.toNat_add, BitVec.toNat_add] at hn
    have i1 := a'.hi.isLt
    have i2 := b'.hi.isLt
    have hc2 : sumBad a b t = false := by
      have : ¬ sumBad a b t = true := by
        unfold sumBad
        rw [Bool.or_eq_true, carry_eq, carry_eq, bit_ne, ltU, ltU, dec_ne, BitVec.toNat_add, BitVec.toNat_add]
        rcases h.cases with ⟨_, e2, e3⟩ | ⟨_, e2, e3⟩ <;> rw [e2] at ha hb hn <;> rw [e2] <;> omega
      simpa using this
    unfold sumS
    rw [hc, hc2]
    have l1 := h.and (a.lo + b.lo)
    have l2 := h.and (a.hi + b.hi)
    have l3 := h.and (a'.lo + b'.lo)
    have l4 := h.and (a'.hi + b'.hi)
    rw [BitVec.toNat_add] at l1 l2 l3 l4
    refine ⟨?_, ?_⟩
    · show ((a'.lo + b'.lo) &&& t).toNat ≤ ((a.lo + b.lo) &&& t).toNat
      rcases h.cases with ⟨_, e2, e3⟩ | ⟨_, e2, e3⟩ <;> rw [e3] at l1 l3 <;> rw [e2] at ha hb hn <;> omega
    · show ((a.hi + b.hi) &&& t).toNat ≤ ((a'.hi + b'.hi) &&& t).toNat
      rcases h.cases with ⟨_, e2, e3⟩ | ⟨_, e2, e3⟩ <;> rw [e3] at l2 l4 <;> rw [e2] at ha hb hn <;> omega

theorem less_grows (h : Wd n t) (ha : a'.hi.toNat ≤ t.toNat) (hb : b'.hi.toNat ≤ t.toNat) (ma : mayS a = true) (mb : mayS b = true) (la : leS a a') (lb : leS b b') (hs : (lessS a b t).hi.toNat ≤ t.toNat) :
    leS (lessS a b t) (lessS a' b' t) := by
  cases hc : lessBad a' b' with
  | true =>
    have : lessS a' b' t = ⟨0, t⟩ := by unfold lessS; rw [hc]; rfl
    rw [this]; exact ⟨Nat.zero_le _, hs⟩
  | false =>
    have hn : ¬ lessBad a' b' = true := by rw [hc]; decide
    have mla := mayS_iff.1 ma
    have mlb := mayS_iff.1 mb
    obtain ⟨a1, a2⟩ := la
    obtain ⟨b1, b2⟩ := lb
    unfold lessBad at hn
    rw [borrow_eq, borrow_eq, bit_ne] at hn
    have i1 := a'.hi.isLt
    have i2 := b'.hi.isLt
    have hc2 : lessBad a b = false := by
      have : ¬ lessBad a b = true := by
        unfold lessBad
        rw [borrow_eq, borrow_eq, bit_ne]
        omega
      simpa using this
    unfold lessS
    rw [hc, hc2]
    have l1 := h.and (a.lo - b.hi)
    have l2 := h.and (a.hi - b.lo)
    have l3 := h.and (a'.lo - b'.hi)
    have l4 := h.and (a'.hi - b'.lo)
    rw [BitVec.toNat_sub] at l1 l2 l3 l4
    refine ⟨?_, ?_⟩
    · show ((a'.lo - b'.hi) &&& t).toNat ≤ ((a.lo - b.hi) &&& t).toNat
      rcases h.cases with ⟨_, e2, e3⟩ | ⟨_, e2, e3⟩ <;> rw [e3] at l1 l3 <;> rw [e2] at ha hb <;> omega
    · show ((a.hi - b.lo) &&& t).toNat ≤ ((a'.hi - b'.lo) &&& t).toNat
      rcases h.cases with ⟨_, e2, e3⟩ | ⟨_, e2, e3⟩ <;> rw [e3] at l2 l4 <;> rw [e2] at ha hb <;> omega

theorem mul_grows (h : Wd n t) (ma : mayS a = true) (mb : mayS b = true) (la : leS a a') (lb : leS b b') (hs : (mulS a b t).hi.toNat ≤ t.toNat) : leS (mulS a b t) (mulS a' b' t) := by
  cases hc : (ltB .u64 0#64 (mulHi a'.hi b'.hi) || ltB .u64 t (a'.hi * b'.hi)) with
  | true =>
    have : mulS a' b' t = ⟨0, t⟩ := by unfold mulS; rw [hc]; rfl
    rw [this]; exact ⟨Nat.zero_le _, hs⟩
  | false =>
    obtain ⟨g1, g2⟩ := mulS_good h hc
    have mla := mayS_iff.1 ma
    have mlb := mayS_iff.1 mb
    have m1 : a.hi.toNat * b.hi.toNat ≤ a'.hi.toNat * b'.hi.toNat := Nat.mul_le_mul la.2 lb.2
    have m2 : a.lo.toNat * b.lo.toNat ≤ a.hi.toNat * b.hi.toNat := Nat.mul_le_mul mla mlb
    have m3 : a'.lo.toNat * b'.lo.toNat ≤ a.lo.toNat * b.lo.toNat := Nat.mul_le_mul la.1 lb.1
    have hc2 : (ltB .u64 0#64 (mulHi a.hi b.hi) || ltB .u64 t (a.hi * b.hi)) = false := by
      have z : (0#64 : W).toNat = 0 := rfl
      rw [ltU, ltU, mulHi_nat, BitVec.toNat_mul, Bool.or_eq_false_iff, decide_eq_false_iff_not, decide_eq_false_iff_not, z]
      generalize a.hi.toNat * b.hi.toNat = p at *
      omega
    have e1 : (a.lo * b.lo).toNat = a.lo.toNat * b.lo.toNat := by rw [BitVec.toNat_mul, Nat.mod_eq_of_lt (by omega)]
    have e2 : (a.hi * b.hi).toNat = a.hi.toNat * b.hi.toNat := by rw [BitVec.toNat_mul, Nat.mod_eq_of_lt (by omega)]
    have e3 : (a'.lo * b'.lo).toNat = a'.lo.toNat * b'.lo.toNat := by rw [BitVec.toNat_mul, Nat.mod_eq_of_lt (by omega)]
    have e4 : (a'.hi * b'.hi).toNat = a'.hi.toNat * b'.hi.toNat := by rw [BitVec.toNat_mul, Nat.mod_eq_of_lt (by omega)]
    unfold mulS
    rw [hc, hc2]
    exact ⟨by show (a'.lo * b'.lo).toNat ≤ (a.lo * b.lo).toNat; omega, by show (a.hi * b.hi).toNat ≤ (a'.hi * b'.hi).toNat; omega⟩

theorem parts_hi (a b : Sp) : (partsS a b).hi.toNat ≤ a.hi.toNat := by
  unfold partsS
  cases b.hi == 0#64 with
  | true => exact Nat.zero_le _
  | false =>
    cases b.lo == 0#64 with
    | true => exact Nat.le_refl _
    | false =>
      show (quoW a.hi b.lo).toNat ≤ _
      rw [quoW_nat]; exact Nat.div_le_self _ _
theorem parts_grows (ma : mayS a = true) (mb : mayS b = true) (la : leS a a') (lb : leS b b') : leS (partsS a b) (partsS a' b') := by
  have mla := mayS_iff.1 ma
  have mlb := mayS_iff.1 mb
  have hh := parts_hi a b
  obtain ⟨a1, a2⟩ := la
  obtain ⟨b1, b2⟩ := lb
  by_cases h1 : b'.hi.toNat = 0
  · have e : partsS a b = nilS := by
      unfold partsS; rw [eq0, decide_eq_true (show b.hi.toNat = 0 by omega)]; rfl
    rw [e]
    exact ⟨by
      have : partsS a' b' = nilS := by unfold partsS; rw [eq0, decide_eq_true h1]; rfl
      rw [this]; exact Nat.le_refl _, Nat.zero_le _⟩
  · by_cases h2 : b'.lo.toNat = 0
    · have : partsS a' b' = ⟨0, a'.hi⟩ := by
        unfold partsS; rw [eq0, eq0, decide_eq_false h1, decide_eq_true h2]; rfl
      rw [this]
      exact ⟨Nat.zero_le _, by show (partsS a b).hi.toNat ≤ a'.hi.toNat; omega⟩
    · have e1 : partsS a' b' = ⟨quoW a'.lo b'.hi, quoW a'.hi b'.lo⟩ := by
        unfold partsS; rw [eq0, eq0, decide_eq_false h1, decide_eq_false h2]; rfl
      have e2 : partsS a b = ⟨quoW a.lo b.hi, quoW a.hi b.lo⟩ := by
        unfold partsS; rw [eq0, eq0, decide_eq_false (show ¬ b.hi.toNat = 0 by omega), decide_eq_false (show ¬ b.lo.toNat = 0 by omega)]; rfl
      rw [e1, e2]
      refine ⟨?_, ?_⟩
      · show (quoW a'.lo b'.hi).toNat ≤ (quoW a.lo b.hi).toNat
        rw [quoW_nat, quoW_nat]; exact Nat.div_le_div a1 b2 (by omega)
      · show (quoW a.hi b.lo).toNat ≤ (quoW a'.hi b'.lo).toNat
        rw [quoW_nat, quoW_nat]; exact Nat.div_le_div a2 b1 (by omega)

theorem rest_hi (a b : Sp) : (restS a b).hi.toNat ≤ a.hi.toNat ∧ (restC1 a b = false → (b.lo.toNat = b.hi.toNat ∨ b.lo.toNat ≠ 0) → b.lo.toNat ≤ b.hi.toNat → (restS a b).hi.toNat ≤ b.hi.toNat - 1) := by
  unfold restS
  cases h1 : restC1 a b with
  | true => exact ⟨Nat.le_refl _, fun h => by cases h⟩
  | false =>
    have h1' := h1
    unfold restC1 at h1'
    rw [eq0, ltU, Bool.or_eq_false_iff, decide_eq_false_iff_not, decide_eq_false_iff_not] at h1'
    cases h2 : restC2 a b with
    | true =>
      have h2' := h2
      unfold restC2 at h2'
      simp only [Bool.and_eq_true, beq_iff_eq, ← BitVec.toNat_inj] at h2'
      refine ⟨?_, fun _ _ _ => ?_⟩
      · show (remW a.hi b.lo).toNat ≤ _
        rw [remW_nat]; exact Nat.mod_le _ _
      · show (remW a.hi b.lo).toNat ≤ _
        rw [remW_nat]
        have := Nat.mod_lt a.hi.toNat (show b.lo.toNat > 0 by omega)
        omega
    | false =>
      rw [eq0]
      by_cases h3 : b.lo.toNat = 0
      · rw [decide_eq_true h3]
        refine ⟨Nat.le_refl _, fun _ hor _ => ?_⟩
        omega
      · rw [decide_eq_false h3]
        have hm : (minU a.hi (b.hi - 1#64)).toNat = min a.hi.toNat (b.hi.toNat - 1) := by
          rw [minU_nat, BitVec.toNat_sub]
          have := b.hi.isLt
          have e1 : (1#64 : W).toNat = 1 := rfl
          congr 1
          omega
        refine ⟨?_, fun _ _ _ => ?_⟩
        · show (minU a.hi (b.hi - 1#64)).toNat ≤ _; omega
        · show (minU a.hi (b.hi - 1#64)).toNat ≤ _; omega

theorem rest_grows (ma : mayS a = true) (mb : mayS b = true) (la : leS a a') (lb : leS b b') : leS (restS a b) (restS a' b') := by
  have mla := mayS_iff.1 ma
  have mlb := mayS_iff.1 mb
  obtain ⟨hh1, hh2⟩ := rest_hi a b
  obtain ⟨a1, a2⟩ := la
  obtain ⟨b1, b2⟩ := lb
  cases h1 : restC1 a' b' with
  | true =>
    have h1' := h1
    unfold restC1 at h1'
    rw [eq0, ltU, Bool.or_eq_true, decide_eq_true_eq, decide_eq_true_eq] at h1'
    have h2 : restC1 a b = true := by
      unfold restC1
      rw [eq0, ltU, Bool.or_eq_true, decide_eq_true_eq, decide_eq_true_eq]
      omega
    unfold restS
    rw [h1, h2]
    exact ⟨a1, a2⟩
  | false =>
    have h1' := h1
    unfold restC1 at h1'
    rw [eq0, ltU, Bool.or_eq_false_iff, decide_eq_false_iff_not, decide_eq_false_iff_not] at h1'
    cases h2 : restC2 a' b' with
    | true =>
      have h2' := h2
      unfold restC2 at h2'
      simp only [Bool.and_eq_true, beq_iff_eq, ← BitVec.toNat_inj, quoW_nat] at h2'
      obtain ⟨e1, e2⟩ := h2'
      have el : b.lo.toNat = b'.lo.toNat := by omega
      have eh : b.hi.toNat = b'.lo.toNat := by omega
      have hp : 0 < b'.lo.toNat := by omega
      have q1 : a'.lo.toNat / b'.lo.toNat ≤ a.lo.toNat / b'.lo.toNat := Nat.div_le_div_right a1
      have q2 : a.lo.toNat / b'.lo.toNat ≤ a.hi.toNat / b'.lo.toNat := Nat.div_le_div_right mla
      have q3 : a.hi.toNat / b'.lo.toNat ≤ a'.hi.toNat / b'.lo.toNat := Nat.div_le_div_right a2
      have q4 : 1 ≤ a'.hi.toNat / b'.lo.toNat := (Nat.one_le_div_iff hp).2 (by omega)
      have hge : b'.lo.toNat ≤ a.hi.toNat := (Nat.one_le_div_iff hp).1 (by omega)
      have c1 : restC1 a b = false := by
        unfold restC1
        rw [eq0, ltU, Bool.or_eq_false_iff, decide_eq_false_iff_not, decide_eq_false_iff_not]
        omega
      have c2 : restC2 a b = true := by
        unfold restC2
        simp only [Bool.and_eq_true, beq_iff_eq, ← BitVec.toNat_inj, quoW_nat, el]
        omega
      have d1 := Nat.div_add_mod a'.lo.toNat b'.lo.toNat
      have d2 := Nat.div_add_mod a.lo.toNat b'.lo.toNat
      have d3 := Nat.div_add_mod a.hi.toNat b'.lo.toNat
      have d4 := Nat.div_add_mod a'.hi.toNat b'.lo.toNat
      rw [e2] at d1
      rw [show a.lo.toNat / b'.lo.toNat = a'.hi.toNat / b'.lo.toNat by omega] at d2
      rw [show a.hi.toNat / b'.lo.toNat = a'.hi.toNat / b'.lo.toNat by omega] at d3
      unfold restS
      rw [h1, h2, c1, c2]
      refine ⟨?_, ?_⟩
      · show (remW a'.lo b'.lo).toNat ≤ (remW a.lo b.lo).toNat
        rw [remW_nat, remW_nat, el]; omega
      · show (remW a.hi b.lo).toNat ≤ (remW a'.hi b'.lo).toNat
        rw [remW_nat, remW_nat, el]; omega
    | false =>
      by_cases h3 : b'.lo.toNat = 0
      · have e : restS a' b' = ⟨0#64, a'.hi⟩ := by
          unfold restS; rw [h1, h2, eq0, decide_eq_true h3]; rfl
        rw [e]
        exact ⟨Nat.zero_le _, by show (restS a b).hi.toNat ≤ a'.hi.toNat; omega⟩
      · have e : restS a' b' = ⟨0#64, minU a'.hi (b'.hi - 1#64)⟩ := by
          unfold restS; rw [h1, h2, eq0, decide_eq_false h3]; rfl
        have hm : (minU a'.hi (b'.hi - 1#64)).toNat = min a'.hi.toNat (b'.hi.toNat - 1) := by
          rw [minU_nat, BitVec.toNat_sub]
          have := b'.hi.isLt
          have e1 : (1#64 : W).toNat = 1 := rfl
          congr 1
          omega
        rw [e]
        refine ⟨Nat.zero_le _, ?_⟩
        show (restS a b).hi.toNat ≤ (minU a'.hi (b'.hi - 1#64)).toNat
        cases hc : restC1 a b with
        | true =>
          have hc' := hc
          unfold restC1 at hc'
          rw [eq0, ltU, Bool.or_eq_true, decide_eq_true_eq, decide_eq_true_eq] at hc'
          have : (restS a b).hi = a.hi := by unfold restS; rw [hc]; rfl
          rw [this]; omega
        | false =>
          have := hh2 hc (.inr (by omega)) mlb
          omega

theorem shTo_grows (h : Wd n t) (op : W) (hop : op = 6#64 ∨ op = 7#64 ∨ op = 12#64) {c d c' d' : W} (hd : d'.toNat < n.toNat) (hc : c'.toNat ≤ c.toNat) (hcd : c.toNat ≤ d.toNat) (hdd : d.toNat ≤ d'.toNat)
    (ha : a'.hi.toNat ≤ t.toNat) (ma : mayS a = true) (la : leS a a') (hs : (shTo op a c d t).hi.toNat ≤ t.toNat) : leS (shTo op a c d t) (shTo op a' c' d' t) := by
  have hn := h.n64
  have c64 : c.toNat < 64 := by omega
  have d64 : d.toNat < 64 := by omega
  have c64' : c'.toNat < 64 := by omega
  have d64' : d'.toNat < 64 := by omega
  have mla := mayS_iff.1 ma
  obtain ⟨a1, a2⟩ := la
  have p1 : 2 ^ c'.toNat ≤ 2 ^ c.toNat := Nat.pow_le_pow_right (by decide) hc
  have p2 : 2 ^ c.toNat ≤ 2 ^ d.toNat := Nat.pow_le_pow_right (by decide) hcd
  have p3 : 2 ^ d.toNat ≤ 2 ^ d'.toNat := Nat.pow_le_pow_right (by decide) hdd
  have p0 := Nat.two_pow_pos c'.toNat
  have htl := t.isLt
  rcases hop with rfl | rfl | rfl
  · have e : shTo 6#64 a' c' d' t = Sp.mux (ltB .u64 (shI t d') a'.hi) ⟨0, t⟩ ⟨a'.lo <<< amt .i64 c', a'.hi <<< amt .i64 d'⟩ := rfl
    have e2 : shTo 6#64 a c d t = Sp.mux (ltB .u64 (shI t d) a.hi) ⟨0, t⟩ ⟨a.lo <<< amt .i64 c, a.hi <<< amt .i64 d⟩ := rfl
    rw [e]
    by_cases hb : t.toNat / 2 ^ d'.toNat < a'.hi.toNat
    · rw [ltU, shI_nat t d64', decide_eq_true hb]
      exact ⟨Nat.zero_le _, hs⟩
    · rw [ltU, shI_nat t d64', decide_eq_false hb]
      have g1 : a'.hi.toNat * 2 ^ d'.toNat ≤ t.toNat := (Nat.le_div_iff_mul_le (Nat.two_pow_pos _)).1 (by omega)
      have g2 : a.hi.toNat * 2 ^ d.toNat ≤ a'.hi.toNat * 2 ^ d'.toNat := Nat.mul_le_mul a2 p3
      have g3 : a.lo.toNat * 2 ^ c.toNat ≤ a.hi.toNat * 2 ^ d.toNat := Nat.mul_le_mul mla p2
      have g4 : a'.lo.toNat * 2 ^ c'.toNat ≤ a.lo.toNat * 2 ^ c.toNat := Nat.mul_le_mul a1 p1
      have hb2 : ¬ t.toNat / 2 ^ d.toNat < a.hi.toNat := by
        have : a.hi.toNat ≤ t.toNat / 2 ^ d.toNat := (Nat.le_div_iff_mul_le (Nat.two_pow_pos _)).2 (by omega)
        omega
      rw [e2, ltU, shI_nat t d64, decide_eq_false hb2]
      refine ⟨?_, ?_⟩
      · show (a'.lo <<< amt .i64 c').toNat ≤ (a.lo <<< amt .i64 c).toNat
        rw [shl_nat _ c64', shl_nat _ c64, Nat.mod_eq_of_lt (by omega), Nat.mod_eq_of_lt (by omega)]; exact g4
      · show (a.hi <<< amt .i64 d).toNat ≤ (a'.hi <<< amt .i64 d').toNat
        rw [shl_nat _ d64', shl_nat _ d64, Nat.mod_eq_of_lt (by omega), Nat.mod_eq_of_lt (by omega)]; exact g2
  · show leS ⟨shI a.lo d, shI a.hi c⟩ ⟨shI a'.lo d', shI a'.hi c'⟩
    refine ⟨?_, ?_⟩
    · show (shI a'.lo d').toNat ≤ (shI a.lo d).toNat
      rw [shI_nat _ d64, shI_nat _ d64']; exact Nat.div_le_div a1 p3 (by omega)
    · show (shI a.hi c).toNat ≤ (shI a'.hi c').toNat
      rw [shI_nat _ c64, shI_nat _ c64']; exact Nat.div_le_div a2 p1 (by omega)
  · show leS (Sp.mux (ltB .u64 a.hi (signOf t)) ⟨shI a.lo d, shI a.hi c⟩ (Sp.mux (ltB .u64 a.lo (signOf t)) ⟨shI a.lo d, drw a.hi d t⟩ ⟨drw a.lo c t, drw a.hi d t⟩))
      (Sp.mux (ltB .u64 a'.hi (signOf t)) ⟨shI a'.lo d', shI a'.hi c'⟩ (Sp.mux (ltB .u64 a'.lo (signOf t)) ⟨shI a'.lo d', drw a'.hi d' t⟩ ⟨drw a'.lo c' t, drw a'.hi d' t⟩))
    rw [ltU, ltU, ltU, ltU, sign_nat h]
    have x1 := drw_nat h (x := a.hi) (k := d) (by omega) (by omega)
    have x2 := drw_nat h (x := a.lo) (k := c) (by omega) (by omega)
    have x3 := drw_nat h (x := a'.hi) (k := d') (by omega) (by omega)
    have x4 := drw_nat h (x := a'.lo) (k := c') (by omega) (by omega)
    have s1 := shI_nat a.lo d64
    have s2 := shI_nat a.hi c64
    have s3 := shI_nat a'.lo d64'
    have s4 := shI_nat a'.hi c64'
    have n1 : a'.lo.toNat / 2 ^ d'.toNat ≤ a.lo.toNat / 2 ^ d.toNat := Nat.div_le_div a1 p3 (by omega)
    have n2 : a.hi.toNat / 2 ^ c.toNat ≤ a'.hi.toNat / 2 ^ c'.toNat := Nat.div_le_div a2 p1 (by omega)
    have n3 : (t.toNat - a'.hi.toNat) / 2 ^ d'.toNat ≤ (t.toNat - a.hi.toNat) / 2 ^ d.toNat := Nat.div_le_div (by omega) p3 (by omega)
    have n4 : (t.toNat - a.lo.toNat) / 2 ^ c.toNat ≤ (t.toNat - a'.lo.toNat) / 2 ^ c'.toNat := Nat.div_le_div (by omega) p1 (by omega)
    have n5 : a.hi.toNat / 2 ^ c.toNat ≤ a.hi.toNat := Nat.div_le_self _ _
    have n6 : (t.toNat - a'.hi.toNat) / 2 ^ d'.toNat ≤ t.toNat - a'.hi.toNat := Nat.div_le_self _ _
    have n7 : a'.lo.toNat / 2 ^ d'.toNat ≤ a'.lo.toNat := Nat.div_le_self _ _
    have n8 : (t.toNat - a.lo.toNat) / 2 ^ c.toNat ≤ t.toNat - a.lo.toNat := Nat.div_le_self _ _
    generalize a.lo.toNat / 2 ^ d.toNat = q1 at *
    generalize a.hi.toNat / 2 ^ c.toNat = q2 at *
    generalize a'.lo.toNat / 2 ^ d'.toNat = q3 at *
    generalize a'.hi.toNat / 2 ^ c'.toNat = q4 at *
    generalize (t.toNat - a.hi.toNat) / 2 ^ d.toNat = q5 at *
    generalize (t.toNat - a.lo.toNat) / 2 ^ c.toNat = q6 at *
    generalize (t.toNat - a'.hi.toNat) / 2 ^ d'.toNat = q7 at *
    generalize (t.toNat - a'.lo.toNat) / 2 ^ c'.toNat = q8 at *
    have lo' : (Sp.mux (decide (a'.hi.toNat < t.toNat / 2 + 1)) ⟨shI a'.lo d', shI a'.hi c'⟩ (Sp.mux (decide (a'.lo.toNat < t.toNat / 2 + 1)) ⟨shI a'.lo d', drw a'.hi d' t⟩ ⟨drw a'.lo c' t, drw a'.hi d' t⟩)).lo.toNat = if a'.hi.toNat < t.toNat / 2 + 1 then q3 else if a'.lo.toNat < t.toNat / 2 + 1 then q3 else t.toNat - q8 := by
      by_cases h1 : a'.hi.toNat < t.toNat / 2 + 1 <;> by_cases h2 : a'.lo.toNat < t.toNat / 2 + 1 <;> simp [h1, h2, Sp.mux, s3, x4]
    have hi' : (Sp.mux (decide (a'.hi.toNat < t.toNat / 2 + 1)) ⟨shI a'.lo d', shI a'.hi c'⟩ (Sp.mux (decide (a'.lo.toNat < t.toNat / 2 + 1)) ⟨shI a'.lo d', drw a'.hi d' t⟩ ⟨drw a'.lo c' t, drw a'.hi d' t⟩)).hi.toNat = if a'.hi.toNat < t.toNat / 2 + 1 then q4 else t.toNat - q7 := by
      by_cases h1 : a'.hi.toNat < t.toNat / 2 + 1 <;> by_cases h2 : a'.lo.toNat < t.toNat / 2 + 1 <;> simp [h1, h2, Sp.mux, s4, x3]
    have lo : (Sp.mux (decide (a.hi.toNat < t.toNat / 2 + 1)) ⟨shI a.lo d, shI a.hi c⟩ (Sp.mux (decide (a.lo.toNat < t.toNat / 2 + 1)) ⟨shI a.lo d, drw a.hi d t⟩ ⟨drw a.lo c t, drw a.hi d t⟩)).lo.toNat = if a.hi.toNat < t.toNat / 2 + 1 then q1 else if a.lo.toNat < t.toNat / 2 + 1 then q1 else t.toNat - q6 := by
      by_cases h1 : a.hi.toNat < t.toNat / 2 + 1 <;> by_cases h2 : a.lo.toNat < t.toNat / 2 + 1 <;> simp [h1, h2, Sp.mux, s1, x2]
    have hi : (Sp.mux (decide (a.hi.toNat < t.toNat / 2 + 1)) ⟨shI a.lo d, shI a.hi c⟩ (Sp.mux (decide (a.lo.toNat < t.toNat / 2 + 1)) ⟨shI a.lo d, drw a.hi d t⟩ ⟨drw a.lo c t, drw a.hi d t⟩)).hi.toNat = if a.hi.toNat < t.toNat / 2 + 1 then q2 else t.toNat - q5 := by
      by_cases h1 : a.hi.toNat < t.toNat / 2 + 1 <;> by_cases h2 : a.lo.toNat < t.toNat / 2 + 1 <;> simp [h1, h2, Sp.mux, s2, x1]
    refine ⟨?_, ?_⟩
    · rw [lo', lo]
      split <;> split <;> (try split) <;> (try split) <;> omega
    · rw [hi', hi]
      split <;> split <;> omega

theorem shift_grows (h : Wd n t) (op : W) (hop : op = 6#64 ∨ op = 7#64 ∨ op = 12#64) (ha : a'.hi.toNat ≤ t.toNat) (ma : mayS a = true) (mb : mayS b = true) (la : leS a a') (lb : leS b b')
    (hs : (shiftS op a b n t).hi.toNat ≤ t.toNat) : leS (shiftS op a b n t) (shiftS op a' b' n t) := by
  have hn := h.n64
  have mlb := mayS_iff.1 mb
  have mb' : mayS b' = true := mayS_iff.2 (by have := lb.1; have := lb.2; omega)
  have e1 : (n - 1#64).toNat = n.toNat - 1 := by rcases h.nn with e | e <;> rw [e] <;> decide
  have z0 : (0#64 : W).toNat = 0 := rfl
  have cl := shC_nat b.lo n h.nn
  have ch := shC_nat b.hi n h.nn
  have mh := Nat.mod_lt b.hi.toNat (show n.toNat > 0 by omega)
  have ml := Nat.mod_lt b.lo.toNat (show n.toNat > 0 by omega)
  cases hw' : shWide b' n with
  | true =>
    have er : shiftS op a' b' n t = shTo op a' 0#64 (n - 1#64) t := by unfold shiftS; rw [hw']; rfl
    rw [er]
    cases hw : shWide b n with
    | true =>
      have el : shiftS op a b n t = shTo op a 0#64 (n - 1#64) t := by unfold shiftS; rw [hw]; rfl
      rw [el] at hs ⊢
      exact shTo_grows h op hop (by omega) (Nat.le_refl _) (by omega) (Nat.le_refl _) ha ma la hs
    | false =>
      have el : shiftS op a b n t = shTo op a (shC b.lo n) (shC b.hi n) t := by unfold shiftS; rw [hw]; rfl
      rw [el] at hs ⊢
      obtain ⟨u, v, w⟩ := (count_ok h mb (memS_lo mb)).2 hw
      exact shTo_grows h op hop (by omega) (by omega) (by omega) (by omega) ha ma la hs
  | false =>
    have er : shiftS op a' b' n t = shTo op a' (shC b'.lo n) (shC b'.hi n) t := by unfold shiftS; rw [hw']; rfl
    have l1 := (count_ok h mb' (lb.mem (memS_lo mb))).2 hw'
    have l2 := (count_ok h mb' (lb.mem (memS_hi mb))).2 hw'
    have cl' := shC_nat b'.lo n h.nn
    have ch' := shC_nat b'.hi n h.nn
    have hu : (toUS n).toNat = n.toNat := by
      unfold toUS
      show ((n.signExtend 64 : W)).toNat = _
      rw [BitVec.signExtend_eq]
    have hw : shWide b n = false := by
      unfold shWide at hw' ⊢
      rw [leU, hu, sub_nat mb', ltB_nat (by omega) (by omega), Bool.or_eq_false_iff, decide_eq_false_iff_not, decide_eq_false_iff_not, cl', ch'] at hw'
      rw [leU, hu, sub_nat mb, ltB_nat (by omega) (by omega), Bool.or_eq_false_iff, decide_eq_false_iff_not, decide_eq_false_iff_not, cl, ch]
      have b1 := lb.1
      have b2 := lb.2
      have key := cut_core b'.lo.toNat b'.hi.toNat n.toNat (by omega) (mayS_iff.1 mb')
      have hq : b'.lo.toNat / n.toNat = b'.hi.toNat / n.toNat := by
        by_cases e : b'.lo.toNat / n.toNat = b'.hi.toNat / n.toNat
        · exact e
        · rcases key.1 e with h1 | h1 <;> omega
      have q1 : b'.lo.toNat / n.toNat ≤ b.lo.toNat / n.toNat := Nat.div_le_div_right b1
      have q2 : b.lo.toNat / n.toNat ≤ b.hi.toNat / n.toNat := Nat.div_le_div_right mlb
      have q3 : b.hi.toNat / n.toNat ≤ b'.hi.toNat / n.toNat := Nat.div_le_div_right b2
      have key2 := cut_core b.lo.toNat b.hi.toNat n.toNat (by omega) mlb
      have hq2 : b.lo.toNat / n.toNat = b.hi.toNat / n.toNat := by omega
      have : ¬ (n.toNat - 1 < b.hi.toNat - b.lo.toNat ∨ b.hi.toNat % n.toNat < b.lo.toNat % n.toNat) := fun h => key2.2 h hq2
      omega
    have el : shiftS op a b n t = shTo op a (shC b.lo n) (shC b.hi n) t := by unfold shiftS; rw [hw]; rfl
    obtain ⟨u, v, w⟩ := (count_ok h mb (memS_lo mb)).2 hw
    rw [er]
    rw [el] at hs ⊢
    exact shTo_grows h op hop l1.2.2 (by omega) (by omega) (by omega) ha ma la hs

theorem bit_grows {f : W → W → W} {l m l' m' : W} (hl : Least a b f l) (hm : Most a b f m) (hl' : Least a' b' f l') (hm' : Most a' b' f m') (la : leS a a') (lb : leS b b') : leS ⟨l, m⟩ ⟨l', m'⟩ := by
  obtain ⟨x, y, hx, hy, e⟩ := hl.2
  obtain ⟨x', y', hx', hy', e'⟩ := hm.2
  exact ⟨by show l'.toNat ≤ l.toNat; rw [e]; exact hl'.1 x y (la.mem hx) (lb.mem hy), by show m.toNat ≤ m'.toNat; rw [e']; exact hm'.1 x' y' (la.mem hx') (lb.mem hy')⟩

theorem core_grows (h : Wd n t) {op : W} (hop : isOp op) (ma : mayS a = true) (mb : mayS b = true) (la : leS a a') (lb : leS b b') (ha : a'.hi.toNat ≤ t.toNat) (hb : b'.hi.toNat ≤ t.toNat) :
    leS (core op a b n t) (core op a' b' n t) := by
  have ma' : mayS a' = true := mayS_iff.2 (by have := la.1; have := la.2; have := mayS_iff.1 ma; omega)
  have mb' : mayS b' = true := mayS_iff.2 (by have := lb.1; have := lb.2; have := mayS_iff.1 mb; omega)
  have hs := (core_ok h hop ma mb (Nat.le_trans la.2 ha) (Nat.le_trans lb.2 hb) (memS_lo ma) (memS_lo mb)).2
  rcases hop with rfl | rfl | rfl | rfl | rfl | rfl | rfl | rfl | rfl | rfl | rfl | rfl | rfl
  · exact sum_grows h ha hb ma mb la lb hs
  · exact less_grows h ha hb ma mb la lb hs
  · exact mul_grows h ma mb la lb hs
  · exact parts_grows ma mb la lb
  · exact bit_grows (leastOr_least ma mb) (mostOr_most ma mb) (leastOr_least ma' mb') (mostOr_most ma' mb') la lb
  · exact bit_grows (leastAnd_least ma mb) (mostAnd_most ma mb) (leastAnd_least ma' mb') (mostAnd_most ma' mb') la lb
  · exact shift_grows h 6#64 (.inl rfl) ha ma mb la lb hs
  · exact shift_grows h 7#64 (.inr (.inl rfl)) ha ma mb la lb hs
  · exact less_grows (a := ofS 0#64) (a' := ofS 0#64) (b := a) (b' := a') h (Nat.zero_le _) ha (mayS_iff.2 (Nat.le_refl _)) ma ⟨Nat.le_refl _, Nat.le_refl _⟩ la hs
  · exact rest_grows ma mb la lb
  · exact bit_grows (leastXor_least ma mb) (mostXor_most ma mb) (leastXor_least ma' mb') (mostXor_most ma' mb') la lb
  · exact lb
  · exact shift_grows h 12#64 (.inr (.inr rfl)) ha ma mb la lb hs
end Go.Rf
