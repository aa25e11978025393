/- Plain laws of bits: the greatest Xor. -/
import Derived.Test.YtpmbaddpcahnfaaSq2
set_option linter.unusedVariables false
set_option linter.unusedSimpArgs false
namespace Go.Rf

def StpM (U V : Nat → W) (lx ly : W) : Prop := ∀ p, p < 64 →
  ((U (p + 1)).getLsbD p = true ∧ (V (p + 1)).getLsbD p = true ∧ In' (U (p + 1)) lx p ∧ U p = wiW (U (p + 1)) (mB p) ∧ V p = V (p + 1)) ∨
  ((U (p + 1)).getLsbD p = true ∧ (V (p + 1)).getLsbD p = true ∧ ¬ In' (U (p + 1)) lx p ∧ In' (V (p + 1)) ly p ∧ V p = wiW (V (p + 1)) (mB p) ∧ U p = U (p + 1)) ∨
  (((U (p + 1)).getLsbD p = true → (V (p + 1)).getLsbD p = true → ¬ In' (U (p + 1)) lx p ∧ ¬ In' (V (p + 1)) ly p) ∧ U p = U (p + 1) ∧ V p = V (p + 1))

/-- One of the two rows. -/
def Row (U : Nat → W) (lx : W) : Prop := ∀ p, p < 64 → U p = U (p + 1) ∨ ((U (p + 1)).getLsbD p = true ∧ In' (U (p + 1)) lx p ∧ U p = wiW (U (p + 1)) (mB p))

theorem StpM.u {U V : Nat → W} {lx ly : W} (h : StpM U V lx ly) : Row U lx := by
  intro p hp
  rcases h p hp with ⟨a, _, c, d, _⟩ | ⟨_, _, _, _, _, e⟩ | ⟨_, c, _⟩
  · exact .inr ⟨a, c, d⟩
  · exact .inl e
  · exact .inl c
theorem StpM.v {U V : Nat → W} {lx ly : W} (h : StpM U V lx ly) : Row V ly := by
  intro p hp
  rcases h p hp with ⟨_, _, _, _, e⟩ | ⟨_, b, _, c, d, _⟩ | ⟨_, _, c⟩
  · exact .inl e
  · exact .inr ⟨b, c, d⟩
  · exact .inl c

section
variable {U V : Nat → W} {lx ly : W}
theorem Row.above (h : Row U lx) : ∀ (k p i : Nat), p + k ≤ i → i < 64 → (U p).getLsbD i = (U (p + k)).getLsbD i := by
  intro k
  induction k with
  | zero => intro p i _ _; rfl
  | succ k ih =>
    intro p i h1 h2
    have e := ih (p + 1) i (by omega) h2
    rw [show p + 1 + k = p + (k + 1) by omega] at e
    rw [← e]
    rcases h p (by omega) with h3 | ⟨_, _, h3⟩
    · rw [h3]
    · rw [h3, wi_bit _ p i (by omega) h2]
      have n1 : ¬ i < p := by omega
      have n2 : p < i := by omega
      simp [n1, n2]
theorem Row.ab (h : Row U lx) {q i : Nat} (a : q < i) (b : i < 64) : (U (q + 1)).getLsbD i = (U 0).getLsbD i := by
  have := h.above (q + 1) 0 i (by omega) b
  rw [Nat.zero_add] at this; exact this.symm
theorem Row.at' (h : Row U lx) {q : Nat} (b : q < 64) : (U 0).getLsbD q = (U q).getLsbD q := by
  have := h.above q 0 q (by omega) b
  rwa [Nat.zero_add] at this

theorem Row.first (h : Row U lx) : ∀ (k p : Nat), p + k = 64 → U p = U 64 ∨ ∀ i, i < p → (U p).getLsbD i = true := by
  intro k
  induction k with
  | zero => intro p hp; left; rw [show p = 64 by omega]
  | succ k ih =>
    intro p hp
    rcases h p (by omega) with h3 | ⟨_, _, h3⟩
    · rw [h3]
      rcases ih (p + 1) (by omega) with h4 | h4
      · exact .inl h4
      · exact .inr fun i hi => h4 i (by omega)
    · right
      intro i hi
      rw [h3, wi_bit _ p i (by omega) (by omega)]
      simp [hi]
theorem Row.fst (h : Row U lx) {p q : Nat} (hp : q < p) (hp6 : p ≤ 64) (hb : (U p).getLsbD q = false) : U p = U 64 := by
  rcases h.first (64 - p) p (by omega) with h1 | h1
  · exact h1
  · rw [h1 q hp] at hb; cases hb

/-- What agrees above and has the bit that the row's state lacks is beyond it. -/
theorem Row.no (h : Row U lx) {X : W} (hX : lx.toNat ≤ X.toNat ∧ X.toNat ≤ (U 64).toNat) {q : Nat} (hq : q < 64) (hb : (U (q + 1)).getLsbD q = false) (hXq : X.getLsbD q = true)
    (up : ∀ i, q < i → i < 64 → X.getLsbD i = (U 0).getLsbD i) : False := by
  have e := h.fst (p := q + 1) (q := q) (by omega) (by omega) hb
  have : (U 64).toNat < X.toNat := by
    rw [← e]
    exact bit_lt hb hXq (fun i a b => by rw [h.ab a b, up i a b])
  omega
theorem Row.yes (h : Row U lx) {X : W} (hX : lx.toNat ≤ X.toNat ∧ X.toNat ≤ (U 64).toNat) {q : Nat} (hq : q < 64) (hXq : X.getLsbD q = false)
    (up : ∀ i, q < i → i < 64 → X.getLsbD i = (U 0).getLsbD i) : In' (U (q + 1)) lx q := by
  have := le_wi (x := U (q + 1)) (X := X) hq (fun i a b => by rw [h.ab a b, up i a b]) hXq
  unfold In'; omega

theorem xorM_agree (h : StpM U V lx ly) {X Y : W} (hX : lx.toNat ≤ X.toNat ∧ X.toNat ≤ (U 64).toNat) (hY : ly.toNat ≤ Y.toNat ∧ Y.toNat ≤ (V 64).toNat)
    {p : Nat} (hp : p < 64) (hr : ∀ i, p < i → i < 64 → ((X.getLsbD i) ^^ (Y.getLsbD i)) = ((U 0).getLsbD i ^^ (V 0).getLsbD i))
    (h0 : (U 0).getLsbD p = (V 0).getLsbD p) : ∀ n, n ≤ 64 → ∀ q, 64 - n ≤ q → p < q → q < 64 → X.getLsbD q = (U 0).getLsbD q ∧ Y.getLsbD q = (V 0).getLsbD q := by
  intro n
  induction n with
  | zero => intro _ q a b c; omega
  | succ n ih =>
    intro hn q a b c
    by_cases hq : 64 - n ≤ q
    · exact ih (by omega) q hq b c
    · have up : ∀ i, q < i → i < 64 → X.getLsbD i = (U 0).getLsbD i ∧ Y.getLsbD i = (V 0).getLsbD i := fun i u v => ih (by omega) i (by omega) (by omega) v
      have upx : ∀ i, q < i → i < 64 → X.getLsbD i = (U 0).getLsbD i := fun i u v => (up i u v).1
      have upy : ∀ i, q < i → i < 64 → Y.getLsbD i = (V 0).getLsbD i := fun i u v => (up i u v).2
      have xq := hr q b c
      have eu := h.u.at' c
      have ev := h.v.at' c
      cases hu : (U 0).getLsbD q <;> cases hv : (V 0).getLsbD q <;> rw [hu, hv] at xq <;> rw [hu] at eu <;> rw [hv] at ev
      · -- 0 0
        cases hXq : X.getLsbD q <;> cases hYq : Y.getLsbD q <;> rw [hXq, hYq] at xq <;> first | exact ⟨rfl, rfl⟩ | (exfalso; revert xq; decide) | skip
        exfalso
        cases e : (U (q + 1)).getLsbD q with
        | false => exact h.u.no hX c e hXq upx
        | true =>
          rcases h q c with ⟨_, b1, _, _, b2⟩ | ⟨_, _, _, _, _, b2⟩ | ⟨_, b2, _⟩
          · rw [b2, b1] at ev; cases ev
          · rw [b2, e] at eu; cases eu
          · rw [b2, e] at eu; cases eu
      · -- 0 1
        cases hXq : X.getLsbD q <;> cases hYq : Y.getLsbD q <;> rw [hXq, hYq] at xq <;> first | exact ⟨rfl, rfl⟩ | (exfalso; revert xq; decide) | skip
        exfalso
        cases e : (U (q + 1)).getLsbD q with
        | false => exact h.u.no hX c e hXq upx
        | true =>
          have iv : In' (V (p + 1)) ly p := by
            have : Y.toNat < (wiW (V (p + 1)) (mB p)).toNat := by
              refine bit_lt (q := q) hYq ?_ (fun i u v => ?_)
              · rw [wi_bit _ p q hp c, h.v.ab b c, hv]
                simp [b]
              · rw [wi_bit _ p i hp v, h.v.ab (by omega) v, upy i u v]
                have n1 : ¬ i < p := by omega
                have n2 : p < i := by omega
                simp [n1, n2]
            unfold In'; omega
          have up1 : (U (p + 1)).getLsbD p = true := by
            cases e3 : (U (p + 1)).getLsbD p with
            | true => rfl
            | false =>
              exfalso
              have e4 := h.u.fst (p := p + 1) (q := p) (by omega) (by omega) e3
              have : (U 64).toNat < X.toNat := by
                rw [← e4]
                refine bit_lt (q := q) ?_ hXq (fun i u v => by rw [h.u.ab (by omega) v, upx i u v])
                rw [h.u.ab b c, hu]
              omega
          have eup := h.u.at' hp
          have evp := h.v.at' hp
          rcases h p hp with ⟨_, b1, _, b3, b4⟩ | ⟨b1, _, _, _, b3, b4⟩ | ⟨b1, b3, b4⟩
          · rw [b3, wi_bit _ p p hp hp] at eup
            rw [b4, b1] at evp
            rw [eup, evp] at h0; simp at h0
          · rw [b3, wi_bit _ p p hp hp] at evp
            rw [b4, b1] at eup
            rw [eup, evp] at h0; simp at h0
          · rw [b3, up1] at eup
            rw [eup, evp, b4] at h0
            exact (b1 up1 h0.symm).2 iv
      · -- 1 0
        cases hXq : X.getLsbD q <;> cases hYq : Y.getLsbD q <;> rw [hXq, hYq] at xq <;> first | exact ⟨rfl, rfl⟩ | (exfalso; revert xq; decide) | skip
        exfalso
        cases e : (V (q + 1)).getLsbD q with
        | false => exact h.v.no hY c e hYq upy
        | true =>
          rcases h q c with ⟨_, _, _, _, b2⟩ | ⟨_, _, b1, _⟩ | ⟨_, _, b2⟩
          · rw [b2, e] at ev; cases ev
          · exact b1 (h.u.yes hX c hXq upx)
          · rw [b2, e] at ev; cases ev
      · -- 1 1
        cases hXq : X.getLsbD q <;> cases hYq : Y.getLsbD q <;> rw [hXq, hYq] at xq <;> first | exact ⟨rfl, rfl⟩ | (exfalso; revert xq; decide) | skip
        exfalso
        rcases h q c with ⟨_, _, _, b3, _⟩ | ⟨_, _, _, _, b3, _⟩ | ⟨b1, b3, b4⟩
        · rw [b3, wi_bit _ q q c c] at eu; simp at eu
        · rw [b3, wi_bit _ q q c c] at ev; simp at ev
        · rw [b3] at eu
          rw [b4] at ev
          exact (b1 eu.symm ev.symm).1 (h.u.yes hX c hXq upx)

theorem xor_most (h : StpM U V lx ly) {X Y : W} (hX : lx.toNat ≤ X.toNat ∧ X.toNat ≤ (U 64).toNat) (hY : ly.toNat ≤ Y.toNat ∧ Y.toNat ≤ (V 64).toNat) :
    (X ^^^ Y).toNat ≤ (U 0 ^^^ V 0).toNat := by
  by_cases hlt : (U 0 ^^^ V 0).toNat < (X ^^^ Y).toNat
  · exfalso
    obtain ⟨p, hp, h1, h2, h3⟩ := hi_diff hlt
    rw [BitVec.getLsbD_xor] at h1 h2
    have hr : ∀ i, p < i → i < 64 → ((X.getLsbD i) ^^ (Y.getLsbD i)) = ((U 0).getLsbD i ^^ (V 0).getLsbD i) := fun i a b => by
      have := h3 i a b
      rw [BitVec.getLsbD_xor, BitVec.getLsbD_xor] at this
      exact this.symm
    have h0 : (U 0).getLsbD p = (V 0).getLsbD p := by
      revert h1
      cases (U 0).getLsbD p <;> cases (V 0).getLsbD p <;> decide
    have ag := xorM_agree h hX hY hp hr h0 64 (Nat.le_refl _)
    have upx : ∀ i, p < i → i < 64 → X.getLsbD i = (U 0).getLsbD i := fun i u v => (ag i (by omega) u v).1
    have upy : ∀ i, p < i → i < 64 → Y.getLsbD i = (V 0).getLsbD i := fun i u v => (ag i (by omega) u v).2
    have eu := h.u.at' hp
    have ev := h.v.at' hp
    cases hu : (U 0).getLsbD p with
    | true =>
      have hv : (V 0).getLsbD p = true := by rw [← h0]; exact hu
      rw [hu] at eu
      rw [hv] at ev
      rcases h p hp with ⟨_, _, _, b3, _⟩ | ⟨_, _, _, _, b3, _⟩ | ⟨b1, b3, b4⟩
      · rw [b3, wi_bit _ p p hp hp] at eu; simp at eu
      · rw [b3, wi_bit _ p p hp hp] at ev; simp at ev
      · rw [b3] at eu
        rw [b4] at ev
        have := b1 eu.symm ev.symm
        cases hXp : X.getLsbD p with
        | false => exact this.1 (h.u.yes hX hp hXp upx)
        | true =>
          cases hYp : Y.getLsbD p with
          | false => exact this.2 (h.v.yes hY hp hYp upy)
          | true => rw [hXp, hYp] at h2; cases h2
    | false =>
      have hv : (V 0).getLsbD p = false := by rw [← h0]; exact hu
      rw [hu] at eu
      rw [hv] at ev
      cases hXp : X.getLsbD p with
      | true =>
        cases e : (U (p + 1)).getLsbD p with
        | false => exact h.u.no hX hp e hXp upx
        | true =>
          rcases h p hp with ⟨_, b1, _, _, b2⟩ | ⟨_, _, _, _, _, b2⟩ | ⟨_, b2, _⟩
          · rw [b2, b1] at ev; cases ev
          · rw [b2, e] at eu; cases eu
          · rw [b2, e] at eu; cases eu
      | false =>
        rw [hXp] at h2
        have hYp : Y.getLsbD p = true := by simpa using h2
        cases e : (V (p + 1)).getLsbD p with
        | false => exact h.v.no hY hp e hYp upy
        | true =>
          rcases h p hp with ⟨_, _, _, _, b2⟩ | ⟨b1, _, _, _, _, b2⟩ | ⟨_, _, b2⟩
          · rw [b2, e] at ev; cases ev
          · rw [b2, b1] at eu; cases eu
          · rw [b2, e] at ev; cases ev
  · omega

theorem Row.within (h : Row U lx) (h64 : lx.toNat ≤ (U 64).toNat) : ∀ (k p : Nat), p + k = 64 → lx.toNat ≤ (U p).toNat ∧ (U p).toNat ≤ (U 64).toNat := by
  intro k
  induction k with
  | zero => intro p hp; rw [show p = 64 by omega]; exact ⟨h64, Nat.le_refl _⟩
  | succ k ih =>
    intro p hp
    have i := ih (p + 1) (by omega)
    rcases h p (by omega) with e | ⟨a, c, d⟩
    · rw [e]; exact i
    · rw [d]
      have := wi_le (x := U (p + 1)) (q := p) (by omega) a
      exact ⟨c, by omega⟩
end
end Go.Rf
