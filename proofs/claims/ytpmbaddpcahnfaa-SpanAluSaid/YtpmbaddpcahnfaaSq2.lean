/- Plain laws of bits: And by Or of what is turned round; the least and the greatest Xor. -/
import Derived.Test.YtpmbaddpcahnfaaSq1
set_option linter.unusedVariables false
set_option linter.unusedSimpArgs false
namespace Go.Rf

theorem wi_not (x : W) {j : Nat} (hj : j < 64) : wiW (~~~x) (mB j) = ~~~(upW x (mB j)) := by
  apply BitVec.eq_of_getLsbD_eq
  intro i hi
  rw [wi_bit _ j i hj hi, BitVec.getLsbD_not, BitVec.getLsbD_not, up_bit x j i hi]
  by_cases h1 : i = j
  · subst h1; simp
  · by_cases h2 : i < j
    · have h3 : ¬ j < i := by omega
      simp [h1, h2, h3, hi]
    · have h3 : j < i := by omega
      simp [h1, h2, h3, hi]
theorem not_nat (x : W) : (~~~x).toNat = 18446744073709551615 - x.toNat := by
  rw [BitVec.toNat_not]
theorem up_not (x : W) {j : Nat} (hj : j < 64) : upW (~~~x) (mB j) = ~~~(wiW x (mB j)) := by
  have := wi_not (~~~x) hj
  rw [BitVec.not_not] at this
  rw [this, BitVec.not_not]
theorem and_not (x y : W) : x &&& y = ~~~(~~~x ||| ~~~y) := by
  apply BitVec.eq_of_getLsbD_eq
  intro i hi
  simp [hi]
theorem not_le {x y : W} : (~~~x).toNat ≤ (~~~y).toNat ↔ y.toNat ≤ x.toNat := by
  rw [not_nat, not_nat]
  have := x.isLt
  have := y.isLt
  omega

section
variable {x y hx hy lx ly X Y : W}
theorem in_not {q : Nat} (hq : q < 64) : In' (~~~x) (~~~hx) q ↔ Up x hx q := by
  unfold In' Up
  rw [wi_not x hq, not_le]
theorem upn_not {q : Nat} (hq : q < 64) : Up (~~~x) (~~~lx) q ↔ In' x lx q := by
  unfold In' Up
  rw [up_not x hq, not_le]
theorem nbit (x : W) {q : Nat} (hq : q < 64) : (~~~x).getLsbD q = !x.getLsbD q := by simp [hq]

theorem and_none (hX : x.toNat ≤ X.toNat ∧ X.toNat ≤ hx.toNat) (hY : y.toNat ≤ Y.toNat ∧ Y.toNat ≤ hy.toNat)
    (hf : ∀ q, q < 64 → x.getLsbD q = false → y.getLsbD q = false → ¬ Up x hx q ∧ ¬ Up y hy q) : (x &&& y).toNat ≤ (X &&& Y).toNat := by
  rw [and_not x y, and_not X Y, not_le]
  refine or_most_none (lx := ~~~hx) (ly := ~~~hy) ⟨not_le.2 hX.2, not_le.2 hX.1⟩ ⟨not_le.2 hY.2, not_le.2 hY.1⟩ (fun q hq h1 h2 => ?_)
  rw [nbit _ hq] at h1 h2
  rw [in_not hq, in_not hq]
  exact hf q hq (by simpa using h1) (by simpa using h2)
theorem and_up (hX : x.toNat ≤ X.toNat ∧ X.toNat ≤ hx.toNat) (hY : y.toNat ≤ Y.toNat ∧ Y.toNat ≤ hy.toNat) {m : Nat} (hm : m < 64) (hym : y.getLsbD m = false)
    (hf : ∀ q, m < q → q < 64 → x.getLsbD q = false → y.getLsbD q = false → ¬ Up x hx q ∧ ¬ Up y hy q) : (upW x (mB m) &&& y).toNat ≤ (X &&& Y).toNat := by
  rw [and_not (upW x (mB m)) y, and_not X Y, not_le, ← wi_not x hm]
  refine or_most_in (lx := ~~~hx) (ly := ~~~hy) ⟨not_le.2 hX.2, not_le.2 hX.1⟩ ⟨not_le.2 hY.2, not_le.2 hY.1⟩ hm (by rw [nbit _ hm, hym]; rfl) (fun q h0 hq h1 h2 => ?_)
  rw [nbit _ hq] at h1 h2
  rw [in_not hq, in_not hq]
  exact hf q h0 hq (by simpa using h1) (by simpa using h2)
theorem and_most_none (hX : lx.toNat ≤ X.toNat ∧ X.toNat ≤ x.toNat) (hY : ly.toNat ≤ Y.toNat ∧ Y.toNat ≤ y.toNat)
    (hf : ∀ q, q < 64 → ¬(x.getLsbD q = true ∧ y.getLsbD q = false ∧ In' x lx q) ∧ ¬(x.getLsbD q = false ∧ y.getLsbD q = true ∧ In' y ly q)) : (X &&& Y).toNat ≤ (x &&& y).toNat := by
  rw [and_not x y, and_not X Y, not_le]
  refine or_none (hx := ~~~lx) (hy := ~~~ly) ⟨not_le.2 hX.2, not_le.2 hX.1⟩ ⟨not_le.2 hY.2, not_le.2 hY.1⟩ (fun q hq => ?_)
  rw [nbit _ hq, nbit _ hq, upn_not hq, upn_not hq]
  have := hf q hq
  simpa using this
theorem and_most_in (hX : lx.toNat ≤ X.toNat ∧ X.toNat ≤ x.toNat) (hY : ly.toNat ≤ Y.toNat ∧ Y.toNat ≤ y.toNat) {m : Nat} (hm : m < 64) (hym : y.getLsbD m = false)
    (hf : ∀ q, m < q → q < 64 → ¬(x.getLsbD q = true ∧ y.getLsbD q = false ∧ In' x lx q) ∧ ¬(x.getLsbD q = false ∧ y.getLsbD q = true ∧ In' y ly q)) : (X &&& Y).toNat ≤ (wiW x (mB m) &&& y).toNat := by
  rw [and_not (wiW x (mB m)) y, and_not X Y, not_le, ← up_not x hm]
  refine or_up (hx := ~~~lx) (hy := ~~~ly) ⟨not_le.2 hX.2, not_le.2 hX.1⟩ ⟨not_le.2 hY.2, not_le.2 hY.1⟩ hm (by rw [nbit _ hm, hym]; rfl) (fun q h0 hq => ?_)
  rw [nbit _ hq, nbit _ hq, upn_not hq, upn_not hq]
  have := hf q h0 hq
  simpa using this
end

/-! ### Xor, least -/

/-- What the rounds make: U p and V p: behind the bits from p on. -/
def StpL (U V : Nat → W) (hx hy : W) : Prop := ∀ p, p < 64 →
  ((U (p + 1)).getLsbD p = false ∧ (V (p + 1)).getLsbD p = true ∧ Up (U (p + 1)) hx p ∧ U p = upW (U (p + 1)) (mB p) ∧ V p = V (p + 1)) ∨
  ((U (p + 1)).getLsbD p = true ∧ (V (p + 1)).getLsbD p = false ∧ Up (V (p + 1)) hy p ∧ V p = upW (V (p + 1)) (mB p) ∧ U p = U (p + 1)) ∨
  (¬((U (p + 1)).getLsbD p = false ∧ (V (p + 1)).getLsbD p = true ∧ Up (U (p + 1)) hx p) ∧ ¬((U (p + 1)).getLsbD p = true ∧ (V (p + 1)).getLsbD p = false ∧ Up (V (p + 1)) hy p) ∧ U p = U (p + 1) ∧ V p = V (p + 1))

theorem StpL.swap {U V : Nat → W} {hx hy : W} (h : StpL U V hx hy) : StpL V U hy hx := by
  intro p hp
  rcases h p hp with ⟨a, b, c, d, e⟩ | ⟨a, b, c, d, e⟩ | ⟨a, b, c, d⟩
  · exact .inr (.inl ⟨b, a, c, d, e⟩)
  · exact .inl ⟨b, a, c, d, e⟩
  · exact .inr (.inr ⟨fun h => b ⟨h.2.1, h.1, h.2.2⟩, fun h => a ⟨h.2.1, h.1, h.2.2⟩, d, c⟩)

section
variable {U V : Nat → W} {hx hy : W}
theorem StpL.one (h : StpL U V hx hy) {p : Nat} (hp : p < 64) : U p = U (p + 1) ∨ U p = upW (U (p + 1)) (mB p) := by
  rcases h p hp with ⟨_, _, _, d, _⟩ | ⟨_, _, _, _, e⟩ | ⟨_, _, c, _⟩
  · exact .inr d
  · exact .inl e
  · exact .inl c

/-- What lies above stays. -/
theorem StpL.above (h : StpL U V hx hy) : ∀ (k p i : Nat), p + k ≤ i → i < 64 → (U p).getLsbD i = (U (p + k)).getLsbD i := by
  intro k
  induction k with
  | zero => intro p i _ _; rfl
  | succ k ih =>
    intro p i h1 h2
    have e := ih (p + 1) i (by omega) h2
    rw [show p + 1 + k = p + (k + 1) by omega] at e
    rw [← e]
    rcases h.one (p := p) (by omega) with h3 | h3
    · rw [h3]
    · rw [h3, up_bit _ p i h2]
      have n1 : i ≠ p := by omega
      have n2 : p < i := by omega
      simp [n1, n2]

/-- Where a bit below stands, nothing has been turned up yet. -/
theorem StpL.first (h : StpL U V hx hy) : ∀ (k p : Nat), p + k = 64 → U p = U 64 ∨ ∀ i, i < p → (U p).getLsbD i = false := by
  intro k
  induction k with
  | zero => intro p hp; left; rw [show p = 64 by omega]
  | succ k ih =>
    intro p hp
    rcases h.one (p := p) (by omega) with h3 | h3
    · rw [h3]
      rcases ih (p + 1) (by omega) with h4 | h4
      · exact .inl h4
      · exact .inr fun i hi => h4 i (by omega)
    · right
      intro i hi
      rw [h3, up_bit _ p i (by omega)]
      have n1 : i ≠ p := by omega
      have n2 : ¬ p < i := by omega
      simp [n1, n2]

theorem StpL.fst (h : StpL U V hx hy) {p : Nat} (hp : p < 64) (hb : (U (p + 1)).getLsbD p = true) : U (p + 1) = U 64 := by
  rcases h.first (63 - p) (p + 1) (by omega) with h1 | h1
  · exact h1
  · rw [h1 p (by omega)] at hb; cases hb

/-- The state of the bit p, when the last answer has 0 there in the one and 1 in the other. -/
theorem StpL.at01 (h : StpL U V hx hy) {p : Nat} (hp : p < 64) (h0 : (U 0).getLsbD p = false) (h1 : (V 0).getLsbD p = true) :
    (V (p + 1)).getLsbD p = true ∧ ¬ Up (U (p + 1)) hx p := by
  have a0 := h.above p 0 p (by omega) hp
  have a1 := h.swap.above p 0 p (by omega) hp
  rw [Nat.zero_add] at a0 a1
  rw [a0] at h0
  rw [a1] at h1
  rcases h p hp with ⟨a, b, c, d, e⟩ | ⟨a, b, c, d, e⟩ | ⟨a, b, c, d⟩
  · rw [d, up_bit _ p p hp] at h0; simp at h0
  · rw [e, a] at h0; cases h0
  · rw [c] at h0
    rw [d] at h1
    exact ⟨h1, fun hu => a ⟨h0, h1, hu⟩⟩

theorem xor_core (h : StpL U V hx hy) {X Y : W} (hX : (U 64).toNat ≤ X.toNat ∧ X.toNat ≤ hx.toNat) (hY : (V 64).toNat ≤ Y.toNat ∧ Y.toNat ≤ hy.toNat)
    {p : Nat} (hp : p < 64) (hr : ∀ i, p < i → i < 64 → ((X.getLsbD i) ^^ (Y.getLsbD i)) = ((U 0).getLsbD i ^^ (V 0).getLsbD i))
    (h0 : (U 0).getLsbD p = false) (h1 : (V 0).getLsbD p = true) (hR : ((X.getLsbD p) ^^ (Y.getLsbD p)) = false) : False := by
  obtain ⟨vp, nup⟩ := h.at01 hp h0 h1
  have ab : ∀ q i, q < i → i < 64 → (U (q + 1)).getLsbD i = (U 0).getLsbD i := fun q i a b => by
    have := h.above (q + 1) 0 i (by omega) b
    rw [Nat.zero_add] at this; exact this.symm
  have abv : ∀ q i, q < i → i < 64 → (V (q + 1)).getLsbD i = (V 0).getLsbD i := fun q i a b => by
    have := h.swap.above (q + 1) 0 i (by omega) b
    rw [Nat.zero_add] at this; exact this.symm
  have agree : ∀ n, n ≤ 64 → ∀ q, 64 - n ≤ q → p < q → q < 64 → X.getLsbD q = (U 0).getLsbD q ∧ Y.getLsbD q = (V 0).getLsbD q := by
    intro n
    induction n with
    | zero => intro _ q a b c; omega
    | succ n ih =>
      intro hn q a b c
      by_cases hq : 64 - n ≤ q
      · exact ih (by omega) q hq b c
      · have up : ∀ i, q < i → i < 64 → X.getLsbD i = (U 0).getLsbD i ∧ Y.getLsbD i = (V 0).getLsbD i := fun i u v => ih (by omega) i (by omega) (by omega) v
        have xq := hr q b c
        cases hu : (U 0).getLsbD q <;> cases hv : (V 0).getLsbD q <;> rw [hu, hv] at xq
        · -- 0 0
          cases hXq : X.getLsbD q <;> cases hYq : Y.getLsbD q <;> rw [hXq, hYq] at xq <;> first | exact ⟨rfl, rfl⟩ | (exfalso; revert xq; decide) | skip
          exfalso
          apply nup
          have : (upW (U (p + 1)) (mB p)).toNat < X.toNat := by
            refine bit_lt (q := q) ?_ hXq (fun i u v => ?_)
            · rw [up_bit _ p q c, ab p q b c, hu]
              have n1 : q ≠ p := by omega
              simp [n1]
            · rw [up_bit _ p i v, ab p i (by omega) v, (up i u v).1]
              have n1 : i ≠ p := by omega
              have n2 : p < i := by omega
              simp [n1, n2]
          unfold Up; omega
        · -- 0 1
          cases hXq : X.getLsbD q <;> cases hYq : Y.getLsbD q <;> rw [hXq, hYq] at xq <;> first | exact ⟨rfl, rfl⟩ | (exfalso; revert xq; decide) | skip
          exfalso
          refine (h.at01 c hu hv).2 ?_
          have := up_le (x := U (q + 1)) (X := X) (q := q) (fun i u v => by rw [ab q i u v, (up i u v).1]) hXq
          unfold Up; omega
        · -- 1 0
          cases hXq : X.getLsbD q <;> cases hYq : Y.getLsbD q <;> rw [hXq, hYq] at xq <;> first | exact ⟨rfl, rfl⟩ | (exfalso; revert xq; decide) | skip
          exfalso
          refine (h.swap.at01 c hv hu).2 ?_
          have := up_le (x := V (q + 1)) (X := Y) (q := q) (fun i u v => by rw [abv q i u v, (up i u v).2]) hYq
          unfold Up; omega
        · -- 1 1
          cases hXq : X.getLsbD q <;> cases hYq : Y.getLsbD q <;> rw [hXq, hYq] at xq <;> first | exact ⟨rfl, rfl⟩ | (exfalso; revert xq; decide) | skip
          exfalso
          have u0 : (U (q + 1)).getLsbD q = false := by
            cases e : (U (q + 1)).getLsbD q with
            | false => rfl
            | true =>
              exfalso
              have e2 := h.fst c e
              have : X.toNat < (U 64).toNat := by
                rw [← e2]
                exact bit_lt hXq e (fun i u v => by rw [ab q i u v, (up i u v).1])
              omega
          have v0 : (V (q + 1)).getLsbD q = false := by
            cases e : (V (q + 1)).getLsbD q with
            | false => rfl
            | true =>
              exfalso
              have e2 := h.swap.fst c e
              have : Y.toNat < (V 64).toNat := by
                rw [← e2]
                exact bit_lt hYq e (fun i u v => by rw [abv q i u v, (up i u v).2])
              omega
          have a0 := h.above q 0 q (by omega) c
          rw [Nat.zero_add, hu] at a0
          rcases h q c with ⟨_, b1, _⟩ | ⟨b1, _⟩ | ⟨_, _, b1, _⟩
          · rw [v0] at b1; cases b1
          · rw [u0] at b1; cases b1
          · rw [b1, u0] at a0; cases a0
  have up : ∀ i, p < i → i < 64 → X.getLsbD i = (U 0).getLsbD i ∧ Y.getLsbD i = (V 0).getLsbD i := fun i u v => agree 64 (Nat.le_refl _) i (by omega) u v
  cases hXp : X.getLsbD p with
  | true =>
    apply nup
    have := up_le (x := U (p + 1)) (X := X) (q := p) (fun i u v => by rw [ab p i u v, (up i u v).1]) hXp
    unfold Up; omega
  | false =>
    rw [hXp] at hR
    have hYp : Y.getLsbD p = false := by simpa using hR
    have e2 := h.swap.fst hp vp
    have : Y.toNat < (V 64).toNat := by
      rw [← e2]
      exact bit_lt hYp vp (fun i u v => by rw [abv p i u v, (up i u v).2])
    omega

theorem xor_least (h : StpL U V hx hy) {X Y : W} (hX : (U 64).toNat ≤ X.toNat ∧ X.toNat ≤ hx.toNat) (hY : (V 64).toNat ≤ Y.toNat ∧ Y.toNat ≤ hy.toNat) :
    (U 0 ^^^ V 0).toNat ≤ (X ^^^ Y).toNat := by
  by_cases hlt : (X ^^^ Y).toNat < (U 0 ^^^ V 0).toNat
  · exfalso
    obtain ⟨p, hp, h1, h2, h3⟩ := hi_diff hlt
    rw [BitVec.getLsbD_xor] at h1 h2
    have hr : ∀ i, p < i → i < 64 → ((X.getLsbD i) ^^ (Y.getLsbD i)) = ((U 0).getLsbD i ^^ (V 0).getLsbD i) := fun i a b => by
      have := h3 i a b
      rwa [BitVec.getLsbD_xor, BitVec.getLsbD_xor] at this
    cases hu : (U 0).getLsbD p <;> cases hv : (V 0).getLsbD p <;> rw [hu, hv] at h2
    · cases h2
    · exact xor_core h hX hY hp hr hu hv h1
    · exact xor_core h.swap hY hX hp (fun i a b => by rw [Bool.xor_comm, hr i a b, Bool.xor_comm]) hv hu (by rw [Bool.xor_comm]; exact h1)
    · cases h2
  · omega

theorem StpL.within (h : StpL U V hx hy) (h64 : (U 64).toNat ≤ hx.toNat) : ∀ (k p : Nat), p + k = 64 → (U 64).toNat ≤ (U p).toNat ∧ (U p).toNat ≤ hx.toNat := by
  intro k
  induction k with
  | zero => intro p hp; rw [show p = 64 by omega]; exact ⟨Nat.le_refl _, h64⟩
  | succ k ih =>
    intro p hp
    have i := ih (p + 1) (by omega)
    rcases h p (by omega) with ⟨a, _, c, d, _⟩ | ⟨_, _, _, _, e⟩ | ⟨_, _, c, _⟩
    · rw [d]
      have := le_up (x := U (p + 1)) (q := p) (by omega) a
      exact ⟨by omega, c⟩
    · rw [e]; exact i
    · rw [c]; exact i
end
end Go.Rf
