/- Scalars: a condition that holds, and what is told. -/
import Derived.Test.YtigiedlngfkfbaaSf2
import Derived.Test.YtigiedlngfkfbaaSe5
set_option linter.unusedVariables false
set_option linter.unusedSimpArgs false
set_option maxRecDepth 100000
namespace Go.Rf

theorem Tells.mono {a b : Sc} {r : R3} {P Q : W → W → Prop} (h : Tells a b r P) (hq : ∀ x y, MemC a x → MemC b y → Q x y → P x y) : Tells a b r Q :=
  ⟨h.none, h.le, fun x y mx my hp => h.mem x y mx my (hq x y mx my hp)⟩
theorem mostV_nat (a b : Sc) : (mostV a b).toNat = max a.s.hi.toNat b.s.hi.toNat := by
  unfold mostV
  rw [ltU]
  by_cases h : a.s.hi.toNat < b.s.hi.toNat
  · rw [decide_eq_true h]; show b.s.hi.toNat = _; omega
  · rw [decide_eq_false h]; show a.s.hi.toNat = _; omega
/-- No number is greater than so much. -/
theorem mem_most {a b : Sc} {x : W} (h : MemC a x ∨ MemC b x) : x.toNat ≤ (mostV a b).toNat := by
  rw [mostV_nat]
  rcases h with h | h <;> (have := h.2.2; omega)
theorem fit_id {w : Bool} {x : W} (h : w = false → x.toNat < 4294967296) : fitD w x = x := by
  cases w with
  | true => rfl
  | false =>
    have h' := h rfl
    show remB .u64 x 4294967296#64 = x
    apply BitVec.eq_of_toNat_eq
    show (x.umod 4294967296#64).toNat = _
    rw [BitVec.umod_eq, BitVec.toNat_umod]
    exact Nat.mod_eq_of_lt h'
def signBit (w : Bool) : W := 1#64 <<< (amt .u64 ((bif w then 64#64 else 32#64) - 1#64))
theorem turn_nat {w : Bool} {x : W} (hf : fitD w x = x) (h : x.toNat < (signBit w).toNat) : (turnD w x).toNat = x.toNat + (signBit w).toNat := by
  unfold turnD
  rw [hf]
  show (x ^^^ signBit w).toNat = _
  have hz : x &&& signBit w = 0#64 := by
    apply BitVec.eq_of_getLsbD_eq
    intro i hi
    rw [BitVec.getLsbD_and, BitVec.getLsbD_zero]
    have key : ∀ k, signBit w = BitVec.twoPow 64 k → k < 64 → (x.getLsbD i && (signBit w).getLsbD i) = false := by
      intro k hk hk64
      rw [hk] at h ⊢
      rw [BitVec.toNat_twoPow, Nat.mod_eq_of_lt (Nat.pow_lt_pow_right (by omega) hk64)] at h
      rw [BitVec.getLsbD_twoPow]
      by_cases e : k = i
      · subst e
        have : x.getLsbD k = false := by
          rw [BitVec.getLsbD, Nat.testBit_lt_two_pow h]
        simp [this]
      · simp [e]
    cases w with
    | true => exact key 63 (by decide) (by omega)
    | false => exact key 31 (by decide) (by omega)
  have e : x ^^^ signBit w = x + signBit w := by
    rw [BitVec.add_eq_or_of_and_eq_zero _ _ hz]
    apply BitVec.eq_of_getLsbD_eq
    intro i hi
    have hb := congrArg (fun v => BitVec.getLsbD v i) hz
    simp only [BitVec.getLsbD_and, BitVec.getLsbD_zero] at hb
    rw [BitVec.getLsbD_xor, BitVec.getLsbD_or]
    cases h1 : x.getLsbD i <;> cases h2 : (signBit w).getLsbD i <;> simp_all
  rw [e, BitVec.toNat_add, Nat.mod_eq_of_lt]
  have : (signBit w).toNat ≤ 9223372036854775808 := by cases w <;> decide
  omega
/-- What makes a condition plain. -/
structure PlainC (w : Bool) (a b : Sc) : Prop where
  fa : ∀ x, MemC a x → fitD w x = x
  fb : ∀ x, MemC b x → fitD w x = x
theorem plainC {w : Bool} {a b : Sc} (h : wideR w a b = false) : PlainC w a b := by
  have key : ∀ x : W, (MemC a x ∨ MemC b x) → fitD w x = x := by
    intro x hx
    refine fit_id fun hw => ?_
    subst hw
    have h1 := mem_most hx
    have h2 : leB .u64 4294967296#64 (mostV a b) = false := by simpa [wideR] using h
    rw [leU, decide_eq_false_iff_not] at h2
    have e : (4294967296#64 : W).toNat = 4294967296 := by decide
    omega
  exact ⟨fun x hx => key x (.inl hx), fun x hx => key x (.inr hx)⟩
structure SignC (w : Bool) (a b : Sc) : Prop where
  fa : ∀ x, MemC a x → (turnD w x).toNat = x.toNat + (signBit w).toNat
  fb : ∀ x, MemC b x → (turnD w x).toNat = x.toNat + (signBit w).toNat
theorem signC {w : Bool} {a b : Sc} (h : wideR w a b = false) (hs : signR w a b = false) : SignC w a b := by
  have hp := plainC h
  have key : ∀ x : W, (MemC a x ∨ MemC b x) → x.toNat < (signBit w).toNat := by
    intro x hx
    have h1 := mem_most hx
    unfold signR at hs
    simp only [Bool.or_eq_false_iff] at hs
    obtain ⟨s1, s2⟩ := hs
    rw [leU, decide_eq_false_iff_not] at s1
    have e1 : (9223372036854775808#64 : W).toNat = 9223372036854775808 := by decide
    have e2 : (2147483648#64 : W).toNat = 2147483648 := by decide
    cases w with
    | true => have e3 : (signBit true).toNat = 9223372036854775808 := by decide
              omega
    | false =>
      have s2' : leB .u64 2147483648#64 (mostV a b) = false := by simpa using s2
      rw [leU, decide_eq_false_iff_not] at s2'
      have e3 : (signBit false).toNat = 2147483648 := by decide
      omega
  exact ⟨fun x hx => turn_nat (hp.fa x hx) (key x (.inl hx)), fun x hx => turn_nat (hp.fb x hx) (key x (.inr hx))⟩

def Rel (op : W) (x y : W) : Prop :=
  if op = 1#64 then x = y else if op = 5#64 then x ≠ y else if op = 2#64 ∨ op = 6#64 then y.toNat < x.toNat else if op = 3#64 ∨ op = 7#64 then y.toNat ≤ x.toNat else
  if op = 10#64 ∨ op = 12#64 then x.toNat < y.toNat else if op = 11#64 ∨ op = 13#64 then x.toNat ≤ y.toNat else if op = 4#64 then x &&& y ≠ 0#64 else x &&& y = 0#64
theorem tells_mux {a b : Sc} {c : Bool} {p r : R3} {P : W → W → Prop} (hp : Tells a b p P) (hr : c = false → Tells a b r P) : Tells a b (R3.mux c p r) P := by
  cases h : c with
  | true => rw [mux_t]; exact hp
  | false => rw [mux_f]; exact hr h
end Go.Rf
