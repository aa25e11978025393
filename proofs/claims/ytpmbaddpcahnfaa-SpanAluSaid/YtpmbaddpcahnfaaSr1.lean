/- Spans: what the walks down the bits come to is the least and the greatest. -/
import Derived.Test.YtpmbaddpcahnfaaSq3
set_option linter.unusedVariables false
set_option linter.unusedSimpArgs false
namespace Go.Rf

section
variable {σ : Type} {go : σ → Bool} {next : σ → σ}
/-- As runN_find; and none ahead of it is bad. -/
theorem runN_first (st : Nat → σ) (bad : Nat → Bool) (n : Nat) (hgo : ∀ i, i ≤ n → go (st i) = (decide (i < n) && !bad i))
    (hnext : ∀ i, i < n → bad i = false → next (st i) = st (i + 1)) :
    ∀ k i, i + k = n → (∃ j, i ≤ j ∧ j < n ∧ bad j = true ∧ (∀ m, i ≤ m → m < j → bad m = false) ∧ runN go next k (st i) = st j) ∨ ((∀ j, i ≤ j → j < n → bad j = false) ∧ runN go next k (st i) = st n) := by
  intro k
  induction k with
  | zero =>
    intro i hi
    right
    refine ⟨fun j h1 h2 => by omega, ?_⟩
    have : i = n := by omega
    subst this; rfl
  | succ k ih =>
    intro i hi
    cases hb : bad i with
    | true =>
      left
      refine ⟨i, Nat.le_refl _, by omega, hb, fun m h1 h2 => by omega, ?_⟩
      rw [runN_stop (by rw [hgo i (by omega), hb]; simp)]
    | false =>
      have hg : go (st i) = true := by rw [hgo i (by omega), hb]; simp; omega
      rw [runN_go hg, hnext i (by omega) hb]
      rcases ih (i + 1) (by omega) with ⟨j, h1, h2, h3, h4, h5⟩ | ⟨h1, h2⟩
      · left
        refine ⟨j, by omega, h2, h3, fun m a b => ?_, h5⟩
        by_cases e : m = i
        · rw [e]; exact hb
        · exact h4 m (by omega) b
      · right
        refine ⟨fun j a b => ?_, h2⟩
        by_cases e : j = i
        · rw [e]; exact hb
        · exact h1 j (by omega) b
end

def memS (s : Sp) (n : W) : Prop := s.lo.toNat ≤ n.toNat ∧ n.toNat ≤ s.hi.toNat

/-- r is the least (d: false) or the greatest of f. -/
def Least (a b : Sp) (f : W → W → W) (r : W) : Prop := (∀ X Y, memS a X → memS b Y → r.toNat ≤ (f X Y).toNat) ∧ ∃ X Y, memS a X ∧ memS b Y ∧ r = f X Y
def Most (a b : Sp) (f : W → W → W) (r : W) : Prop := (∀ X Y, memS a X → memS b Y → (f X Y).toNat ≤ r.toNat) ∧ ∃ X Y, memS a X ∧ memS b Y ∧ r = f X Y

def mAt (i : Nat) : W := if i < 64 then mB (63 - i) else 0#64
theorem mB_nat {j : Nat} (hj : j < 64) : (mB j).toNat = 2 ^ j := by
  unfold mB
  have : 2 ^ j < 2 ^ 64 := Nat.pow_lt_pow_right (by decide) hj
  rw [BitVec.toNat_shiftLeft]
  have e1 : (1#64 : W).toNat = 1 := rfl
  rw [e1, Nat.shiftLeft_eq, Nat.one_mul, Nat.mod_eq_of_lt this]
theorem mAt_next (i : Nat) (hi : i < 64) : mAt i >>> 1 = mAt (i + 1) := by
  unfold mAt
  rw [if_pos hi]
  apply BitVec.eq_of_toNat_eq
  rw [BitVec.toNat_ushiftRight, mB_nat (by omega), Nat.shiftRight_eq_div_pow]
  by_cases h : i + 1 < 64
  · rw [if_pos h, mB_nat (by omega)]
    have : 63 - i = (63 - (i + 1)) + 1 := by omega
    rw [this, Nat.pow_succ, Nat.pow_one, Nat.mul_div_cancel _ (by decide)]
  · rw [if_neg h]
    have : i = 63 := by omega
    subst this
    decide
theorem mAt_more (a b : Sp) (x y : W) (i : Nat) (hi : i ≤ 64) : (⟨a, b, x, y, mAt i⟩ : DoS).more = decide (i < 64) := by
  rw [Bool.eq_iff_iff, more_iff, decide_eq_true_eq]
  show (mAt i).toNat ≠ 0 ↔ _
  unfold mAt
  by_cases h : i < 64
  · rw [if_pos h, mB_nat (by omega)]
    have := Nat.two_pow_pos (63 - i)
    omega
  · rw [if_neg h]
    have : (0#64 : W).toNat = 0 := rfl
    omega

theorem top_mAt : top1 = mAt 0 := by decide

/-- A walk that ends at the first bit that changes anything. -/
def Fam.quiet (F : Fam) : Prop := ∀ s, F.stop s = false → F.x s = s.x ∧ F.y s = s.y
theorem fam_cases {F : Fam} (hF : F.quiet) (a b : Sp) (x y : W) :
    (∃ p, p < 64 ∧ F.stop ⟨a, b, x, y, mB p⟩ = true ∧ (∀ q, p < q → q < 64 → F.stop ⟨a, b, x, y, mB q⟩ = false) ∧ F.fx ⟨a, b, x, y, top1⟩ = F.x ⟨a, b, x, y, mB p⟩ ∧ F.fy ⟨a, b, x, y, top1⟩ = F.y ⟨a, b, x, y, mB p⟩) ∨
    ((∀ q, q < 64 → F.stop ⟨a, b, x, y, mB q⟩ = false) ∧ F.fx ⟨a, b, x, y, top1⟩ = x ∧ F.fy ⟨a, b, x, y, top1⟩ = y) := by
  have hm : ∀ i, i < 64 → mAt i = mB (63 - i) := fun i hi => by unfold mAt; rw [if_pos hi]
  rw [top_mAt]
  rcases runN_first (go := F.go) (next := F.nxt) (fun i => (⟨a, b, x, y, mAt i⟩ : DoS)) (fun i => F.stop ⟨a, b, x, y, mAt i⟩) 64 (fun i hi => by
      unfold Fam.go; rw [mAt_more a b x y i hi]) (fun i hi hb => by
      obtain ⟨h1, h2⟩ := hF _ hb
      unfold Fam.nxt
      rw [h1, h2]
      show (⟨a, b, x, y, mAt i >>> 1⟩ : DoS) = _
      rw [mAt_next i hi]) 64 0 (by omega) with ⟨j, _, hj, hbad, hfst, e⟩ | ⟨hall, e⟩
  · left
    have e' : F.run ⟨a, b, x, y, mAt 0⟩ = ⟨a, b, x, y, mAt j⟩ := e
    have hm1 : (⟨a, b, x, y, mAt j⟩ : DoS).more = true := by rw [mAt_more a b x y j (by omega)]; exact decide_eq_true hj
    refine ⟨63 - j, by omega, by rw [← hm j hj]; exact hbad, fun q h1 h2 => ?_, ?_, ?_⟩
    · have := hfst (63 - q) (by omega) (by omega)
      rwa [hm (63 - q) (by omega), show 63 - (63 - q) = q by omega] at this
    · unfold Fam.fx; rw [e', hm1, ← hm j hj]; rfl
    · unfold Fam.fy; rw [e', hm1, ← hm j hj]; rfl
  · right
    have e' : F.run ⟨a, b, x, y, mAt 0⟩ = ⟨a, b, x, y, mAt 64⟩ := e
    have hm1 : (⟨a, b, x, y, mAt 64⟩ : DoS).more = false := by rw [mAt_more a b x y 64 (by omega)]; rfl
    refine ⟨fun q hq => ?_, ?_, ?_⟩
    · have := hall (63 - q) (by omega) (by omega)
      rwa [hm (63 - q) (by omega), show 63 - (63 - q) = q by omega] at this
    · unfold Fam.fx; rw [e', hm1]; rfl
    · unfold Fam.fy; rw [e', hm1]; rfl

/-! The tests, bit by bit. -/
theorem and_mB (x : W) {p : Nat} (hp : p < 64) : isN (x &&& mB p) = !x.getLsbD p := by
  unfold isN
  rw [Bool.eq_iff_iff, beq_iff_eq, Bool.not_eq_true']
  constructor
  · intro h
    have := congrArg (fun z : W => z.getLsbD p) h
    simp only [BitVec.getLsbD_and, mB_bit p p hp, BitVec.getLsbD_zero, decide_true, Bool.and_true] at this
    exact this
  · intro h
    apply BitVec.eq_of_getLsbD_eq
    intro i hi
    rw [BitVec.getLsbD_and, mB_bit p i hi, BitVec.getLsbD_zero]
    by_cases e : i = p
    · subst e; rw [h]; rfl
    · simp [e]
theorem ands_mB (x : W) {p : Nat} (hp : p < 64) : isS (x &&& mB p) = x.getLsbD p := by
  have : isS (x &&& mB p) = !isN (x &&& mB p) := rfl
  rw [this, and_mB x hp, Bool.not_not]

section
variable (a b : Sp) (x y : W) {p : Nat} (hp : p < 64)
include hp
theorem t_xOff : xOff ⟨a, b, x, y, mB p⟩ = !x.getLsbD p := and_mB x hp
theorem t_yOff : yOff ⟨a, b, x, y, mB p⟩ = !y.getLsbD p := and_mB y hp
theorem t_xOn : xOn ⟨a, b, x, y, mB p⟩ = x.getLsbD p := ands_mB x hp
theorem t_yOn : yOn ⟨a, b, x, y, mB p⟩ = y.getLsbD p := ands_mB y hp
theorem t_notBoth : notBoth ⟨a, b, x, y, mB p⟩ = !(x.getLsbD p && y.getLsbD p) := by
  have := and_mB (x &&& y) hp
  rw [BitVec.getLsbD_and] at this; exact this
theorem t_someOn : someOn ⟨a, b, x, y, mB p⟩ = (x.getLsbD p || y.getLsbD p) := by
  have := ands_mB (x ||| y) hp
  rw [BitVec.getLsbD_or] at this; exact this
end
theorem t_xUp (a b : Sp) (x y : W) (p : Nat) : xUp ⟨a, b, x, y, mB p⟩ = true ↔ Up x a.hi p := by
  unfold xUp Up; rw [leU, decide_eq_true_eq]; exact Iff.rfl
theorem t_yUp (a b : Sp) (x y : W) (p : Nat) : yUp ⟨a, b, x, y, mB p⟩ = true ↔ Up y b.hi p := by
  unfold yUp Up; rw [leU, decide_eq_true_eq]; exact Iff.rfl
theorem t_xIn (a b : Sp) (x y : W) (p : Nat) : xIn ⟨a, b, x, y, mB p⟩ = true ↔ In' x a.lo p := by
  unfold xIn In'; rw [leU, decide_eq_true_eq]; exact Iff.rfl
theorem t_yIn (a b : Sp) (x y : W) (p : Nat) : yIn ⟨a, b, x, y, mB p⟩ = true ↔ In' y b.lo p := by
  unfold yIn In'; rw [leU, decide_eq_true_eq]; exact Iff.rfl

theorem famOf_quiet (c1 c2 : DoS → Bool) (u v : DoS → W) : (famOf c1 c2 u v).quiet := by
  intro s h
  have h' : (bif c1 s then true else bif c2 s then true else false) = false := h
  show (bif c1 s then u s else s.x) = s.x ∧ (bif c1 s then s.y else bif c2 s then v s else s.y) = s.y
  revert h'
  cases c1 s <;> cases c2 s <;> simp
theorem famBy_quiet (c0 c1 c2 : DoS → Bool) (u v : DoS → W) : (famBy c0 c1 c2 u v).quiet := by
  intro s h
  have h' : (bif c0 s then false else bif c1 s then true else bif c2 s then true else false) = false := h
  show (bif c0 s then s.x else bif c1 s then u s else s.x) = s.x ∧ (bif c0 s then s.y else bif c1 s then s.y else bif c2 s then v s else s.y) = s.y
  revert h'
  cases c0 s <;> cases c1 s <;> cases c2 s <;> simp

theorem famOf_cases {c1 c2 : DoS → Bool} {u v : DoS → W} (s : DoS) : ((famOf c1 c2 u v).stop s = true ↔ c1 s = true ∨ c2 s = true) ∧ ((famOf c1 c2 u v).stop s = false ↔ c1 s = false ∧ c2 s = false) ∧
    (c1 s = true → (famOf c1 c2 u v).x s = u s ∧ (famOf c1 c2 u v).y s = s.y) ∧ (c1 s = false → c2 s = true → (famOf c1 c2 u v).x s = s.x ∧ (famOf c1 c2 u v).y s = v s) := by
  unfold famOf
  cases h1 : c1 s <;> cases h2 : c2 s <;> simp [h1, h2]
theorem famBy_cases {c0 c1 c2 : DoS → Bool} {u v : DoS → W} (s : DoS) : ((famBy c0 c1 c2 u v).stop s = true ↔ c0 s = false ∧ (c1 s = true ∨ c2 s = true)) ∧ ((famBy c0 c1 c2 u v).stop s = false ↔ c0 s = true ∨ (c1 s = false ∧ c2 s = false)) ∧
    (c0 s = false → c1 s = true → (famBy c0 c1 c2 u v).x s = u s ∧ (famBy c0 c1 c2 u v).y s = s.y) ∧ (c0 s = false → c1 s = false → c2 s = true → (famBy c0 c1 c2 u v).x s = s.x ∧ (famBy c0 c1 c2 u v).y s = v s) := by
  unfold famBy
  cases h0 : c0 s <;> cases h1 : c1 s <;> cases h2 : c2 s <;> simp [h0, h1, h2]

theorem memS_lo {s : Sp} (h : mayS s = true) : memS s s.lo := ⟨Nat.le_refl _, mayS_iff.1 h⟩
theorem memS_hi {s : Sp} (h : mayS s = true) : memS s s.hi := ⟨mayS_iff.1 h, Nat.le_refl _⟩

theorem leastOr_least {a b : Sp} (ha : mayS a = true) (hb : mayS b = true) : Least a b (· ||| ·) (leastOr a b) := by
  have tests : ∀ q, q < 64 → fLO.stop ⟨a, b, a.lo, b.lo, mB q⟩ = false →
      ¬(a.lo.getLsbD q = false ∧ b.lo.getLsbD q = true ∧ Up a.lo a.hi q) ∧ ¬(a.lo.getLsbD q = true ∧ b.lo.getLsbD q = false ∧ Up b.lo b.hi q) := by
    intro q hq h
    obtain ⟨h1, h2⟩ := (famOf_cases _).2.1.1 h
    constructor
    · rintro ⟨u, v, w⟩
      have h1' : (xOff ⟨a, b, a.lo, b.lo, mB q⟩ && yOn ⟨a, b, a.lo, b.lo, mB q⟩ && xUp ⟨a, b, a.lo, b.lo, mB q⟩) = false := h1
      rw [t_xOff a b _ _ hq, t_yOn a b _ _ hq, u, v, (t_xUp a b _ _ q).2 w] at h1'
      cases h1'
    · rintro ⟨u, v, w⟩
      have h2' : (xOn ⟨a, b, a.lo, b.lo, mB q⟩ && yOff ⟨a, b, a.lo, b.lo, mB q⟩ && yUp ⟨a, b, a.lo, b.lo, mB q⟩) = false := h2
      rw [t_xOn a b _ _ hq, t_yOff a b _ _ hq, u, v, (t_yUp a b _ _ q).2 w] at h2'
      cases h2'
  unfold leastOr sLo
  rcases fam_cases (F := fLO) (famOf_quiet _ _ _ _) a b a.lo b.lo with ⟨p, hp, hs, hf, ex, ey⟩ | ⟨hall, ex, ey⟩
  · have hN : NoUp a.lo b.lo a.hi b.hi p := fun q h1 h2 => tests q h2 (hf q h1 h2)
    rw [ex, ey]
    cases hc : (xOff ⟨a, b, a.lo, b.lo, mB p⟩ && yOn ⟨a, b, a.lo, b.lo, mB p⟩ && xUp ⟨a, b, a.lo, b.lo, mB p⟩) with
    | true =>
      obtain ⟨e1, e2⟩ := (famOf_cases (c1 := fun s => xOff s && yOn s && xUp s) (c2 := fun s => xOn s && yOff s && yUp s) (u := DoS.ux) (v := DoS.uy) ⟨a, b, a.lo, b.lo, mB p⟩).2.2.1 hc
      rw [t_xOff a b _ _ hp, t_yOn a b _ _ hp] at hc
      simp only [Bool.and_eq_true, Bool.not_eq_true', t_xUp] at hc
      obtain ⟨⟨u, v⟩, w⟩ := hc
      rw [show fLO.x ⟨a, b, a.lo, b.lo, mB p⟩ = upW a.lo (mB p) from e1, show fLO.y ⟨a, b, a.lo, b.lo, mB p⟩ = b.lo from e2]
      exact ⟨fun X Y hX hY => or_up hX hY hp v hN, _, _, ⟨le_up hp u, w⟩, memS_lo hb, rfl⟩
    | false =>
      have hc2 : (xOn ⟨a, b, a.lo, b.lo, mB p⟩ && yOff ⟨a, b, a.lo, b.lo, mB p⟩ && yUp ⟨a, b, a.lo, b.lo, mB p⟩) = true := by
        rcases (famOf_cases _).1.1 hs with h | h
        · rw [show (xOff ⟨a, b, a.lo, b.lo, mB p⟩ && yOn ⟨a, b, a.lo, b.lo, mB p⟩ && xUp ⟨a, b, a.lo, b.lo, mB p⟩) = true from h] at hc; cases hc
        · exact h
      obtain ⟨e1, e2⟩ := (famOf_cases (c1 := fun s => xOff s && yOn s && xUp s) (c2 := fun s => xOn s && yOff s && yUp s) (u := DoS.ux) (v := DoS.uy) ⟨a, b, a.lo, b.lo, mB p⟩).2.2.2 hc hc2
      rw [t_xOn a b _ _ hp, t_yOff a b _ _ hp] at hc2
      simp only [Bool.and_eq_true, Bool.not_eq_true', t_yUp] at hc2
      obtain ⟨⟨u, v⟩, w⟩ := hc2
      rw [show fLO.x ⟨a, b, a.lo, b.lo, mB p⟩ = a.lo from e1, show fLO.y ⟨a, b, a.lo, b.lo, mB p⟩ = upW b.lo (mB p) from e2]
      refine ⟨fun X Y hX hY => ?_, _, _, memS_lo ha, ⟨le_up hp v, w⟩, rfl⟩
      have := or_up (x := b.lo) (y := a.lo) (X := Y) (Y := X) hY hX hp u (noUp_swap hN)
      show (a.lo ||| _).toNat ≤ (X ||| Y).toNat
      rw [BitVec.or_comm a.lo, BitVec.or_comm X]; exact this
  · rw [ex, ey]
    exact ⟨fun X Y hX hY => or_none hX hY (fun q hq => tests q hq (hall q hq)), _, _, memS_lo ha, memS_lo hb, rfl⟩

theorem mostAnd_most {a b : Sp} (ha : mayS a = true) (hb : mayS b = true) : Most a b (· &&& ·) (mostAnd a b) := by
  have tests : ∀ q, q < 64 → fMA.stop ⟨a, b, a.hi, b.hi, mB q⟩ = false →
      ¬(a.hi.getLsbD q = true ∧ b.hi.getLsbD q = false ∧ In' a.hi a.lo q) ∧ ¬(a.hi.getLsbD q = false ∧ b.hi.getLsbD q = true ∧ In' b.hi b.lo q) := by
    intro q hq h
    obtain ⟨h1, h2⟩ := (famOf_cases _).2.1.1 h
    constructor
    · rintro ⟨u, v, w⟩
      have h1' : (xOn ⟨a, b, a.hi, b.hi, mB q⟩ && yOff ⟨a, b, a.hi, b.hi, mB q⟩ && xIn ⟨a, b, a.hi, b.hi, mB q⟩) = false := h1
      rw [t_xOn a b _ _ hq, t_yOff a b _ _ hq, u, v, (t_xIn a b _ _ q).2 w] at h1'
      cases h1'
    · rintro ⟨u, v, w⟩
      have h2' : (xOff ⟨a, b, a.hi, b.hi, mB q⟩ && yOn ⟨a, b, a.hi, b.hi, mB q⟩ && yIn ⟨a, b, a.hi, b.hi, mB q⟩) = false := h2
      rw [t_xOff a b _ _ hq, t_yOn a b _ _ hq, u, v, (t_yIn a b _ _ q).2 w] at h2'
      cases h2'
  unfold mostAnd sHi
  rcases fam_cases (F := fMA) (famOf_quiet _ _ _ _) a b a.hi b.hi with ⟨p, hp, hs, hf, ex, ey⟩ | ⟨hall, ex, ey⟩
  · rw [ex, ey]
    cases hc : (xOn ⟨a, b, a.hi, b.hi, mB p⟩ && yOff ⟨a, b, a.hi, b.hi, mB p⟩ && xIn ⟨a, b, a.hi, b.hi, mB p⟩) with
    | true =>
      obtain ⟨e1, e2⟩ := (famOf_cases (c1 := fun s => xOn s && yOff s && xIn s) (c2 := fun s => xOff s && yOn s && yIn s) (u := DoS.wx) (v := DoS.wy) ⟨a, b, a.hi, b.hi, mB p⟩).2.2.1 hc
      rw [t_xOn a b _ _ hp, t_yOff a b _ _ hp] at hc
      simp only [Bool.and_eq_true, Bool.not_eq_true', t_xIn] at hc
      obtain ⟨⟨u, v⟩, w⟩ := hc
      rw [show fMA.x ⟨a, b, a.hi, b.hi, mB p⟩ = wiW a.hi (mB p) from e1, show fMA.y ⟨a, b, a.hi, b.hi, mB p⟩ = b.hi from e2]
      exact ⟨fun X Y hX hY => and_most_in hX hY hp v (fun q h1 h2 => tests q h2 (hf q h1 h2)), _, _, ⟨w, wi_le hp u⟩, memS_hi hb, rfl⟩
    | false =>
      have hc2 : (xOff ⟨a, b, a.hi, b.hi, mB p⟩ && yOn ⟨a, b, a.hi, b.hi, mB p⟩ && yIn ⟨a, b, a.hi, b.hi, mB p⟩) = true := by
        rcases (famOf_cases _).1.1 hs with h | h
        · rw [show (xOn ⟨a, b, a.hi, b.hi, mB p⟩ && yOff ⟨a, b, a.hi, b.hi, mB p⟩ && xIn ⟨a, b, a.hi, b.hi, mB p⟩) = true from h] at hc; cases hc
        · exact h
      obtain ⟨e1, e2⟩ := (famOf_cases (c1 := fun s => xOn s && yOff s && xIn s) (c2 := fun s => xOff s && yOn s && yIn s) (u := DoS.wx) (v := DoS.wy) ⟨a, b, a.hi, b.hi, mB p⟩).2.2.2 hc hc2
      rw [t_xOff a b _ _ hp, t_yOn a b _ _ hp] at hc2
      simp only [Bool.and_eq_true, Bool.not_eq_true', t_yIn] at hc2
      obtain ⟨⟨u, v⟩, w⟩ := hc2
      rw [show fMA.x ⟨a, b, a.hi, b.hi, mB p⟩ = a.hi from e1, show fMA.y ⟨a, b, a.hi, b.hi, mB p⟩ = wiW b.hi (mB p) from e2]
      refine ⟨fun X Y hX hY => ?_, _, _, memS_hi ha, ⟨w, wi_le hp v⟩, rfl⟩
      have := and_most_in (x := b.hi) (y := a.hi) (X := Y) (Y := X) hY hX hp u (fun q h1 h2 => by
        have := tests q h2 (hf q h1 h2)
        exact ⟨fun h => this.2 ⟨h.2.1, h.1, h.2.2⟩, fun h => this.1 ⟨h.2.1, h.1, h.2.2⟩⟩)
      show (X &&& Y).toNat ≤ (a.hi &&& _).toNat
      rw [BitVec.and_comm a.hi, BitVec.and_comm X]; exact this
  · rw [ex, ey]
    exact ⟨fun X Y hX hY => and_most_none hX hY (fun q hq => tests q hq (hall q hq)), _, _, memS_hi ha, memS_hi hb, rfl⟩

theorem mostOr_most {a b : Sp} (ha : mayS a = true) (hb : mayS b = true) : Most a b (· ||| ·) (mostOr a b) := by
  have tests : ∀ q, q < 64 → fMO.stop ⟨a, b, a.hi, b.hi, mB q⟩ = false →
      a.hi.getLsbD q = true → b.hi.getLsbD q = true → ¬ In' a.hi a.lo q ∧ ¬ In' b.hi b.lo q := by
    intro q hq h u v
    rcases (famBy_cases _).2.1.1 h with h1 | ⟨h1, h2⟩
    · rw [t_notBoth a b _ _ hq, u, v] at h1; cases h1
    · exact ⟨fun w => (by rw [(t_xIn a b _ _ q).2 w] at h1; cases h1), fun w => (by rw [(t_yIn a b _ _ q).2 w] at h2; cases h2)⟩
  unfold mostOr sHi
  rcases fam_cases (F := fMO) (famBy_quiet _ _ _ _ _) a b a.hi b.hi with ⟨p, hp, hs, hf, ex, ey⟩ | ⟨hall, ex, ey⟩
  · have hN : NoIn a.hi b.hi a.lo b.lo p := fun q h1 h2 => tests q h2 (hf q h1 h2)
    rw [ex, ey]
    obtain ⟨h0, h12⟩ := (famBy_cases _).1.1 hs
    have hb' := h0
    rw [t_notBoth a b _ _ hp] at hb'
    simp only [Bool.not_eq_false', Bool.and_eq_true] at hb'
    obtain ⟨u, v⟩ := hb'
    cases hc : xIn ⟨a, b, a.hi, b.hi, mB p⟩ with
    | true =>
      obtain ⟨e1, e2⟩ := (famBy_cases (c0 := notBoth) (c1 := xIn) (c2 := yIn) (u := DoS.wx) (v := DoS.wy) ⟨a, b, a.hi, b.hi, mB p⟩).2.2.1 h0 hc
      rw [show fMO.x ⟨a, b, a.hi, b.hi, mB p⟩ = wiW a.hi (mB p) from e1, show fMO.y ⟨a, b, a.hi, b.hi, mB p⟩ = b.hi from e2]
      exact ⟨fun X Y hX hY => or_most_in hX hY hp v hN, _, _, ⟨(t_xIn a b _ _ p).1 hc, wi_le hp u⟩, memS_hi hb, rfl⟩
    | false =>
      have hc2 : yIn ⟨a, b, a.hi, b.hi, mB p⟩ = true := by
        rcases h12 with h | h
        · rw [hc] at h; cases h
        · exact h
      obtain ⟨e1, e2⟩ := (famBy_cases (c0 := notBoth) (c1 := xIn) (c2 := yIn) (u := DoS.wx) (v := DoS.wy) ⟨a, b, a.hi, b.hi, mB p⟩).2.2.2 h0 hc hc2
      rw [show fMO.x ⟨a, b, a.hi, b.hi, mB p⟩ = a.hi from e1, show fMO.y ⟨a, b, a.hi, b.hi, mB p⟩ = wiW b.hi (mB p) from e2]
      refine ⟨fun X Y hX hY => ?_, _, _, memS_hi ha, ⟨(t_yIn a b _ _ p).1 hc2, wi_le hp v⟩, rfl⟩
      have := or_most_in (x := b.hi) (y := a.hi) (X := Y) (Y := X) hY hX hp u (noIn_swap hN)
      show (X ||| Y).toNat ≤ (a.hi ||| _).toNat
      rw [BitVec.or_comm a.hi, BitVec.or_comm X]; exact this
  · rw [ex, ey]
    exact ⟨fun X Y hX hY => or_most_none hX hY (fun q hq => tests q hq (hall q hq)), _, _, memS_hi ha, memS_hi hb, rfl⟩

theorem leastAnd_least {a b : Sp} (ha : mayS a = true) (hb : mayS b = true) : Least a b (· &&& ·) (leastAnd a b) := by
  have tests : ∀ q, q < 64 → fLA.stop ⟨a, b, a.lo, b.lo, mB q⟩ = false →
      a.lo.getLsbD q = false → b.lo.getLsbD q = false → ¬ Up a.lo a.hi q ∧ ¬ Up b.lo b.hi q := by
    intro q hq h u v
    rcases (famBy_cases _).2.1.1 h with h1 | ⟨h1, h2⟩
    · rw [t_someOn a b _ _ hq, u, v] at h1; cases h1
    · exact ⟨fun w => (by rw [(t_xUp a b _ _ q).2 w] at h1; cases h1), fun w => (by rw [(t_yUp a b _ _ q).2 w] at h2; cases h2)⟩
  unfold leastAnd sLo
  rcases fam_cases (F := fLA) (famBy_quiet _ _ _ _ _) a b a.lo b.lo with ⟨p, hp, hs, hf, ex, ey⟩ | ⟨hall, ex, ey⟩
  · rw [ex, ey]
    obtain ⟨h0, h12⟩ := (famBy_cases _).1.1 hs
    have hb' := h0
    rw [t_someOn a b _ _ hp] at hb'
    simp only [Bool.or_eq_false_iff] at hb'
    obtain ⟨u, v⟩ := hb'
    cases hc : xUp ⟨a, b, a.lo, b.lo, mB p⟩ with
    | true =>
      obtain ⟨e1, e2⟩ := (famBy_cases (c0 := someOn) (c1 := xUp) (c2 := yUp) (u := DoS.ux) (v := DoS.uy) ⟨a, b, a.lo, b.lo, mB p⟩).2.2.1 h0 hc
      rw [show fLA.x ⟨a, b, a.lo, b.lo, mB p⟩ = upW a.lo (mB p) from e1, show fLA.y ⟨a, b, a.lo, b.lo, mB p⟩ = b.lo from e2]
      exact ⟨fun X Y hX hY => and_up hX hY hp v (fun q h1 h2 => tests q h2 (hf q h1 h2)), _, _, ⟨le_up hp u, (t_xUp a b _ _ p).1 hc⟩, memS_lo hb, rfl⟩
    | false =>
      have hc2 : yUp ⟨a, b, a.lo, b.lo, mB p⟩ = true := by
        rcases h12 with h | h
        · rw [hc] at h; cases h
        · exact h
      obtain ⟨e1, e2⟩ := (famBy_cases (c0 := someOn) (c1 := xUp) (c2 := yUp) (u := DoS.ux) (v := DoS.uy) ⟨a, b, a.lo, b.lo, mB p⟩).2.2.2 h0 hc hc2
      rw [show fLA.x ⟨a, b, a.lo, b.lo, mB p⟩ = a.lo from e1, show fLA.y ⟨a, b, a.lo, b.lo, mB p⟩ = upW b.lo (mB p) from e2]
      refine ⟨fun X Y hX hY => ?_, _, _, memS_lo ha, ⟨le_up hp v, (t_yUp a b _ _ p).1 hc2⟩, rfl⟩
      have := and_up (x := b.lo) (y := a.lo) (X := Y) (Y := X) hY hX hp u (fun q h1 h2 c d => by
        have := tests q h2 (hf q h1 h2) d c
        exact ⟨this.2, this.1⟩)
      show (a.lo &&& _).toNat ≤ (X &&& Y).toNat
      rw [BitVec.and_comm a.lo, BitVec.and_comm X]; exact this
  · rw [ex, ey]
    exact ⟨fun X Y hX hY => and_none hX hY (fun q hq => tests q hq (hall q hq)), _, _, memS_lo ha, memS_lo hb, rfl⟩

/-! Xor. -/
theorem runN_last {σ : Type} {go : σ → Bool} {next : σ → σ} : ∀ {k : Nat} {s : σ}, go (runN go next k s) = true → runN go next (k + 1) s = next (runN go next k s) := by
  intro k
  induction k with
  | zero => intro s h; rw [runN_go (show go s = true from h)]; rfl
  | succ k ih =>
    intro s h
    cases hg : go s with
    | true =>
      rw [runN_go hg] at h ⊢
      rw [ih h, runN_go hg]
    | false =>
      rw [runN_stop hg] at h
      rw [hg] at h; cases h
/-- The state behind the bits from p on. -/
def xst (F : Fam) (s : DoS) (p : Nat) : DoS := runN F.go F.nxt (64 - p) s
theorem xst_next {F : Fam} (hF : ∀ s, F.stop s = false) (a b : Sp) (x y : W) : ∀ (k p : Nat), p + k = 64 → ∃ u v, xst F ⟨a, b, x, y, top1⟩ p = ⟨a, b, u, v, mAt (64 - p)⟩ := by
  intro k
  induction k with
  | zero => intro p hp; refine ⟨x, y, ?_⟩; rw [show p = 64 by omega, top_mAt]; rfl
  | succ k ih =>
    intro p hp
    obtain ⟨u, v, e⟩ := ih (p + 1) (by omega)
    have hgo : F.go ⟨a, b, u, v, mAt (64 - (p + 1))⟩ = true := by
      unfold Fam.go
      rw [mAt_more _ _ _ _ _ (by omega), hF]
      simp; omega
    have step : xst F ⟨a, b, x, y, top1⟩ p = F.nxt (xst F ⟨a, b, x, y, top1⟩ (p + 1)) := by
      unfold xst
      rw [show 64 - p = (64 - (p + 1)) + 1 by omega]
      have : F.go (runN F.go F.nxt (64 - (p + 1)) ⟨a, b, x, y, top1⟩) = true := by
        have e' : runN F.go F.nxt (64 - (p + 1)) ⟨a, b, x, y, top1⟩ = _ := e
        rw [e']; exact hgo
      exact runN_last this
    rw [step, e]
    refine ⟨F.x ⟨a, b, u, v, mAt (64 - (p + 1))⟩, F.y ⟨a, b, u, v, mAt (64 - (p + 1))⟩, ?_⟩
    unfold Fam.nxt
    rw [mAt_next _ (by omega), show 64 - (p + 1) + 1 = 64 - p by omega]

theorem leastXor_least {a b : Sp} (ha : mayS a = true) (hb : mayS b = true) : Least a b (· ^^^ ·) (leastXor a b) := by
  have hF : ∀ s, fLX.stop s = false := fun _ => rfl
  have ex := fun p hp => xst_next hF a b a.lo b.lo (64 - p) p (by omega : p + (64 - p) = 64)
  have key : StpL (fun p => (xst fLX (sLo a b) p).x) (fun p => (xst fLX (sLo a b) p).y) a.hi b.hi := by
    intro p hp
    obtain ⟨u, v, e⟩ := xst_next hF a b a.lo b.lo (64 - (p + 1)) (p + 1) (by omega)
    have hm : mAt (64 - (p + 1)) = mB p := by
      unfold mAt; rw [if_pos (by omega), show 63 - (64 - (p + 1)) = p by omega]
    rw [hm] at e
    have step : xst fLX (sLo a b) p = fLX.nxt ⟨a, b, u, v, mB p⟩ := by
      have hgo : fLX.go ⟨a, b, u, v, mB p⟩ = true := by
        unfold Fam.go
        rw [← hm, mAt_more _ _ _ _ _ (by omega), hF]
        simp; omega
      have e' : runN fLX.go fLX.nxt (64 - (p + 1)) (sLo a b) = ⟨a, b, u, v, mB p⟩ := e
      unfold xst
      rw [show 64 - p = (64 - (p + 1)) + 1 by omega, runN_last (by rw [e']; exact hgo), e']
    have e1 : xst fLX (sLo a b) (p + 1) = ⟨a, b, u, v, mB p⟩ := e
    simp only [step, e1]
    show _ ∨ _ ∨ _
    have hx : (fLX.nxt ⟨a, b, u, v, mB p⟩).x = bif (!u.getLsbD p && v.getLsbD p && xUp ⟨a, b, u, v, mB p⟩) then upW u (mB p) else u := by
      rw [← t_xOff a b u v hp, ← t_yOn a b u v hp]; rfl
    have hy : (fLX.nxt ⟨a, b, u, v, mB p⟩).y = bif (!u.getLsbD p && v.getLsbD p && xUp ⟨a, b, u, v, mB p⟩) then v else bif (u.getLsbD p && !v.getLsbD p && yUp ⟨a, b, u, v, mB p⟩) then upW v (mB p) else v := by
      rw [← t_xOff a b u v hp, ← t_yOff a b u v hp, ← t_yOn a b u v hp, ← t_xOn a b u v hp]; rfl
    rw [hx, hy, ← t_xUp a b u v p, ← t_yUp a b u v p]
    cases u.getLsbD p <;> cases v.getLsbD p <;> cases xUp ⟨a, b, u, v, mB p⟩ <;> cases yUp ⟨a, b, u, v, mB p⟩ <;> simp
  have h64 : xst fLX (sLo a b) 64 = sLo a b := rfl
  have e0 : leastXor a b = (xst fLX (sLo a b) 0).x ^^^ (xst fLX (sLo a b) 0).y := rfl
  have wx := key.within (by show a.lo.toNat ≤ _; exact mayS_iff.1 ha) 64 0 (by omega)
  have wy := key.swap.within (by show b.lo.toNat ≤ _; exact mayS_iff.1 hb) 64 0 (by omega)
  rw [e0]
  exact ⟨fun X Y hX hY => xor_least key hX hY, _, _, wx, wy, rfl⟩

theorem mostXor_most {a b : Sp} (ha : mayS a = true) (hb : mayS b = true) : Most a b (· ^^^ ·) (mostXor a b) := by
  have hF : ∀ s, fMX.stop s = false := fun _ => rfl
  have key : StpM (fun p => (xst fMX (sHi a b) p).x) (fun p => (xst fMX (sHi a b) p).y) a.lo b.lo := by
    intro p hp
    obtain ⟨u, v, e⟩ := xst_next hF a b a.hi b.hi (64 - (p + 1)) (p + 1) (by omega)
    have hm : mAt (64 - (p + 1)) = mB p := by
      unfold mAt; rw [if_pos (by omega), show 63 - (64 - (p + 1)) = p by omega]
    rw [hm] at e
    have step : xst fMX (sHi a b) p = fMX.nxt ⟨a, b, u, v, mB p⟩ := by
      have hgo : fMX.go ⟨a, b, u, v, mB p⟩ = true := by
        unfold Fam.go
        rw [← hm, mAt_more _ _ _ _ _ (by omega), hF]
        simp; omega
      have e' : runN fMX.go fMX.nxt (64 - (p + 1)) (sHi a b) = ⟨a, b, u, v, mB p⟩ := e
      unfold xst
      rw [show 64 - p = (64 - (p + 1)) + 1 by omega, runN_last (by rw [e']; exact hgo), e']
    have e1 : xst fMX (sHi a b) (p + 1) = ⟨a, b, u, v, mB p⟩ := e
    simp only [step, e1]
    show _ ∨ _ ∨ _
    have hx : (fMX.nxt ⟨a, b, u, v, mB p⟩).x = bif !(u.getLsbD p && v.getLsbD p) then u else bif xIn ⟨a, b, u, v, mB p⟩ then wiW u (mB p) else u := by
      rw [← t_notBoth a b u v hp]; rfl
    have hy : (fMX.nxt ⟨a, b, u, v, mB p⟩).y = bif !(u.getLsbD p && v.getLsbD p) then v else bif xIn ⟨a, b, u, v, mB p⟩ then v else bif yIn ⟨a, b, u, v, mB p⟩ then wiW v (mB p) else v := by
      rw [← t_notBoth a b u v hp]; rfl
    rw [hx, hy, ← t_xIn a b u v p, ← t_yIn a b u v p]
    cases u.getLsbD p <;> cases v.getLsbD p <;> cases xIn ⟨a, b, u, v, mB p⟩ <;> cases yIn ⟨a, b, u, v, mB p⟩ <;> simp
  have e0 : mostXor a b = (xst fMX (sHi a b) 0).x ^^^ (xst fMX (sHi a b) 0).y := rfl
  have wx := key.u.within (by show a.lo.toNat ≤ a.hi.toNat; exact mayS_iff.1 ha) 64 0 (by omega)
  have wy := key.v.within (by show b.lo.toNat ≤ b.hi.toNat; exact mayS_iff.1 hb) 64 0 (by omega)
  rw [e0]
  exact ⟨fun X Y hX hY => xor_most key hX hY, _, _, wx, wy, rfl⟩
end Go.Rf
