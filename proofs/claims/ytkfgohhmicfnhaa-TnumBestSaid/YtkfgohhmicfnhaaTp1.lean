/- Laws of bits: sums and differences of tnums hold the sums and differences. -/
import Derived.Test.YtkfgohhmicfnhaaTn2
set_option linter.unusedVariables false
set_option linter.unusedSimpArgs false
namespace Go.Rf

/-- All bits of x are in y. -/
def Sb (x y : W) : Prop := ∀ i, x.getLsbD i = true → y.getLsbD i = true

theorem Sb.mod {x y : W} (h : Sb x y) (i : Nat) : x.toNat % 2 ^ i ≤ y.toNat % 2 ^ i := by
  have e : x &&& y = x := by
    apply BitVec.eq_of_getLsbD_eq
    intro j hj
    have := h j
    simp only [BitVec.getLsbD_and]
    cases hx : x.getLsbD j <;> simp_all
  have e2 : x.toNat = x.toNat &&& y.toNat := by rw [← BitVec.toNat_and, e]
  rw [e2, Nat.and_mod_two_pow]
  exact Nat.and_le_right

theorem carry_mono {x x' y y' : W} (hx : Sb x x') (hy : Sb y y') (i : Nat) (h : BitVec.carry i x y false = true) : BitVec.carry i x' y' false = true := by
  simp only [BitVec.carry, Bool.toNat_false, Nat.add_zero, decide_eq_true_eq, ge_iff_le] at h ⊢
  have := hx.mod i
  have := hy.mod i
  omega

/-- What is borrowed at bit i. -/
def bor (i : Nat) (x y : W) : Bool := decide (x.toNat % 2 ^ i < y.toNat % 2 ^ i)

theorem bor_mono {x x' y y' : W} (hx : Sb x' x) (hy : Sb y y') (i : Nat) (h : bor i x y = true) : bor i x' y' = true := by
  simp only [bor, decide_eq_true_eq] at h ⊢
  have := hx.mod i
  have := hy.mod i
  omega

theorem mod_mod_pow (n i : Nat) (hi : i ≤ 64) : n % 2 ^ 64 % 2 ^ i = n % 2 ^ i := Nat.mod_mod_of_dvd _ (Nat.pow_dvd_pow 2 hi)

theorem bit_add (x y : W) (i : Nat) (hi : i < 64) : (x + y).getLsbD i = (x.getLsbD i ^^ (y.getLsbD i ^^ BitVec.carry i x y false)) := BitVec.getLsbD_add hi x y

theorem bit_sub (x y : W) (i : Nat) (hi : i < 64) : (x - y).getLsbD i = (x.getLsbD i ^^ (y.getLsbD i ^^ bor i x y)) := by
  have h := bit_add (x - y) y i hi
  rw [BitVec.sub_add_cancel] at h
  have hc : BitVec.carry i (x - y) y false = bor i x y := by
    simp only [BitVec.carry, bor, Bool.toNat_false, Nat.add_zero, ge_iff_le]
    have e : ((x - y).toNat % 2 ^ i + y.toNat % 2 ^ i) % 2 ^ i = x.toNat % 2 ^ i := by
      rw [← Nat.add_mod, ← mod_mod_pow _ i (by omega), ← BitVec.toNat_add, BitVec.sub_add_cancel]
    have h0 : 0 < 2 ^ i := Nat.two_pow_pos i
    have h1 := Nat.mod_lt (x - y).toNat h0
    have h2 := Nat.mod_lt y.toNat h0
    have h3 := Nat.mod_lt x.toNat h0
    generalize (x - y).toNat % 2 ^ i = z at *
    generalize y.toNat % 2 ^ i = y' at *
    generalize x.toNat % 2 ^ i = x' at *
    generalize 2 ^ i = m at *
    by_cases hz : z + y' < m
    · rw [Nat.mod_eq_of_lt hz] at e
      have a : ¬ m ≤ z + y' := by omega
      have b : ¬ x' < y' := by omega
      simp [a, b]
    · rw [Nat.mod_eq_sub_mod (by omega), Nat.mod_eq_of_lt (by omega)] at e
      have a : m ≤ z + y' := by omega
      have b : x' < y' := by omega
      simp [a, b]
  rw [hc] at h
  rw [h]
  cases (x - y).getLsbD i <;> cases y.getLsbD i <;> cases bor i x y <;> rfl

/-- n is one of t's numbers. -/
def Mem (t : Tn) (n : W) : Prop := n &&& ~~~t.m = t.v

theorem Mem.bit {t : Tn} {n : W} (h : Mem t n) (i : Nat) (hi : i < 64) : t.v.getLsbD i = (n.getLsbD i && !t.m.getLsbD i) := by
  rw [← h]
  simp [hi]

theorem Mem.may {t : Tn} {n : W} (h : Mem t n) : Rf.may t = true := by
  simp only [Rf.may, beq_iff_eq]
  apply BitVec.eq_of_getLsbD_eq
  intro i hi
  simp only [BitVec.getLsbD_and, h.bit i hi, BitVec.getLsbD_zero]
  cases n.getLsbD i <;> cases t.m.getLsbD i <;> rfl

theorem Mem.lo {t : Tn} {n : W} (h : Mem t n) : Sb t.v n := by
  intro i hv
  have hi : i < 64 := BitVec.lt_of_getLsbD hv
  rw [h.bit i hi] at hv
  simp at hv; exact hv.1

theorem Mem.hi {t : Tn} {n : W} (h : Mem t n) : Sb n (t.v ||| t.m) := by
  intro i hv
  have hi : i < 64 := BitVec.lt_of_getLsbD hv
  simp only [BitVec.getLsbD_or, h.bit i hi, hv]
  cases t.m.getLsbD i <;> rfl

theorem may_and {t : Tn} (h : may t = true) : t.v &&& t.m = 0#64 := by simpa [may] using h

theorem may_bit {t : Tn} (h : may t = true) (i : Nat) : (t.v.getLsbD i && t.m.getLsbD i) = false := by
  have := congrArg (fun x => x.getLsbD i) (may_and h)
  simpa using this

theorem may_mem {t : Tn} (h : may t = true) : Mem t t.v := by
  apply BitVec.eq_of_getLsbD_eq
  intro i hi
  have := may_bit h i
  simp only [BitVec.getLsbD_and, BitVec.getLsbD_not, hi, decide_true, Bool.true_and]
  cases hv : t.v.getLsbD i <;> cases hm : t.m.getLsbD i <;> simp_all

theorem may_add {t : Tn} (h : may t = true) : t.v + t.m = t.v ||| t.m := BitVec.add_eq_or_of_and_eq_zero _ _ (may_and h)

theorem has_iff {t : Tn} {n : W} : has t n = true ↔ Mem t n := by
  constructor
  · intro h
    simp only [has, Bool.and_eq_true, beq_iff_eq] at h
    exact h.2
  · intro h
    simp only [has, Bool.and_eq_true, beq_iff_eq]
    exact ⟨h.may, h⟩

theorem may_fit (v any : W) : may (fit v any) = true := by
  simp only [may, fit, beq_iff_eq]
  apply BitVec.eq_of_getLsbD_eq
  intro i hi
  simp [hi]

theorem add_sound {a b : Tn} {x y : W} (ha : Mem a x) (hb : Mem b y) : Mem (tAdd a b) (x + y) := by
  show (x + y) &&& ~~~ _ = (a.v + b.v) &&& ~~~ _
  apply BitVec.eq_of_getLsbD_eq
  intro i hi
  have e : a.v + b.v + a.m + b.m = (a.v ||| a.m) + (b.v ||| b.m) := by
    rw [← may_add ha.may, ← may_add hb.may]; ac_rfl
  simp only [tAdd, fit, BitVec.getLsbD_and, BitVec.getLsbD_not, hi, decide_true, Bool.true_and, BitVec.getLsbD_or, BitVec.getLsbD_xor, e]
  simp only [bit_add _ _ i hi, BitVec.getLsbD_or]
  have h1 := ha.bit i hi
  have h2 := hb.bit i hi
  have c1 := carry_mono ha.lo hb.lo i
  have c2 := carry_mono ha.hi hb.hi i
  cases hma : a.m.getLsbD i <;> cases hmb : b.m.getLsbD i <;> simp [hma, hmb] at h1 h2 ⊢
  rw [h1, h2]
  cases hx : x[i] <;> cases hy : y[i] <;> cases k1 : BitVec.carry i a.v b.v false <;> cases k2 : BitVec.carry i x y false <;> cases k3 : BitVec.carry i (a.v ||| a.m) (b.v ||| b.m) false <;> simp_all

theorem sub_sound {a b : Tn} {x y : W} (ha : Mem a x) (hb : Mem b y) : Mem (tSub a b) (x - y) := by
  show (x - y) &&& ~~~ _ = (a.v - b.v) &&& ~~~ _
  apply BitVec.eq_of_getLsbD_eq
  intro i hi
  have e1 : a.v - b.v + a.m = (a.v ||| a.m) - b.v := by
    rw [← may_add ha.may, BitVec.sub_add_comm]
  have e2 : a.v - b.v - b.m = a.v - (b.v ||| b.m) := by
    rw [← may_add hb.may, BitVec.sub_sub]
  simp only [tSub, fit, BitVec.getLsbD_and, BitVec.getLsbD_not, hi, decide_true, Bool.true_and, BitVec.getLsbD_or, BitVec.getLsbD_xor, e1, e2]
  simp only [bit_sub _ _ i hi, BitVec.getLsbD_or]
  have h1 := ha.bit i hi
  have h2 := hb.bit i hi
  have c1 := bor_mono (x := a.v ||| a.m) (x' := x) (y := b.v) (y' := y) ha.hi hb.lo i
  have c2 := bor_mono (x := x) (x' := a.v) (y := y) (y' := b.v ||| b.m) ha.lo hb.hi i
  have c3 := bor_mono (x := a.v ||| a.m) (x' := a.v) (y := b.v) (y' := b.v) (fun j hj => by simp [hj]) (fun _ h => h) i
  have c4 := bor_mono (x := a.v) (x' := a.v) (y := b.v) (y' := b.v ||| b.m) (fun _ h => h) (fun j hj => by simp [hj]) i
  cases hma : a.m.getLsbD i <;> cases hmb : b.m.getLsbD i <;> simp [hma, hmb] at h1 h2 ⊢
  rw [h1, h2]
  cases hx : x[i] <;> cases hy : y[i] <;> cases k1 : bor i a.v b.v <;> cases k2 : bor i x y <;> cases k3 : bor i (a.v ||| a.m) b.v <;> cases k4 : bor i a.v (b.v ||| b.m) <;> simp_all

theorem may_of (n : W) : may ⟨n, 0⟩ = true := by simp [may]

theorem Tn.ext' {a b : Tn} (h1 : a.v = b.v) (h2 : a.m = b.m) : a = b := by
  cases a; cases b; simp_all

theorem add_comm' (a b : Tn) : tAdd a b = tAdd b a := by
  have e1 : a.v + b.v = b.v + a.v := BitVec.add_comm _ _
  have e2 : b.v + a.v + a.m + b.m = b.v + a.v + b.m + a.m := by ac_rfl
  simp only [tAdd, e1, e2]
  rw [BitVec.or_assoc, BitVec.or_comm a.m b.m, ← BitVec.or_assoc]

theorem fit_self {t : Tn} (h : may t = true) : fit t.v t.m = t := Tn.ext' (may_mem h) rfl

theorem xor_self_or {t : Tn} (h : may t = true) : (t.v ||| t.m) ^^^ t.v ||| t.m = t.m := by
  apply BitVec.eq_of_getLsbD_eq
  intro i hi
  have := may_bit h i
  simp only [BitVec.getLsbD_or, BitVec.getLsbD_xor]
  cases hv : t.v.getLsbD i <;> cases hm : t.m.getLsbD i <;> simp_all

theorem add_zero' {a : Tn} (h : may a = true) : tAdd a ⟨0#64, 0#64⟩ = a := by
  simp only [tAdd, BitVec.add_zero, BitVec.or_zero, may_add h, xor_self_or h]
  exact fit_self h

theorem add_of (n v : W) : tAdd ⟨n, 0#64⟩ ⟨v, 0#64⟩ = ⟨n + v, 0#64⟩ := by
  simp only [tAdd, BitVec.add_zero, BitVec.xor_self, BitVec.or_zero]
  simp only [fit, BitVec.not_zero, BitVec.and_allOnes]

theorem bad2_false {a b : Tn} (ha : may a = true) (hb : may b = true) : bad2 a b = false := by simp [bad2, ha, hb]

theorem addN_ok {a b : Tn} (ha : may a = true) (hb : may b = true) : addN a b = tAdd a b := by
  simp [addN, Tn.mux, bad2_false ha hb]

theorem may_tAdd (a b : Tn) : may (tAdd a b) = true := may_fit _ _
theorem may_tSub (a b : Tn) : may (tSub a b) = true := may_fit _ _

theorem mul_zero_aux : ∀ (k : Nat) (a : Tn), (MulS.fin k ⟨a, ⟨0#64, 0#64⟩, ⟨0#64, 0#64⟩⟩).s = ⟨0#64, 0#64⟩
  | 0, _ => rfl
  | k + 1, a => by
    rw [MulS.fin]
    cases hg : MulS.go ⟨a, ⟨0#64, 0#64⟩, ⟨0#64, 0#64⟩⟩ with
    | false => rfl
    | true =>
      have hz : addN ⟨0#64, 0#64⟩ ⟨0#64, 0#64⟩ = ⟨0#64, 0#64⟩ := by rw [addN_ok rfl rfl]; exact add_zero' rfl
      have e : MulS.next ⟨a, ⟨0#64, 0#64⟩, ⟨0#64, 0#64⟩⟩ = ⟨⟨shrB .u64 a.v 1, shrB .u64 a.m 1⟩, ⟨0#64, 0#64⟩, ⟨0#64, 0#64⟩⟩ := by
        rw [MulS.next_eq]
        have e1 : (0#64 ||| 0#64 : W) = 0#64 := rfl
        have e2 : (0#64 <<< 1 : W) = 0#64 := rfl
        simp only [MulS.up, e1, e2, hz]
        split
        · rfl
        · split <;> rfl
      simp only [cond_true, e]
      exact mul_zero_aux k _

theorem mul_zero' (a : Tn) : tMul a ⟨0#64, 0#64⟩ = ⟨0#64, 0#64⟩ := mul_zero_aux 64 a

theorem one_mul' {a : Tn} (h : may a = true) : tMul ⟨1#64, 0#64⟩ a = a := by
  have s1 : MulS.next ⟨⟨1#64, 0#64⟩, a, ⟨0#64, 0#64⟩⟩ = ⟨⟨0#64, 0#64⟩, ⟨a.v <<< 1, a.m <<< 1⟩, addN ⟨0#64, 0#64⟩ a⟩ := by
    have a1 : MulS.any ⟨⟨1#64, 0#64⟩, a, ⟨0#64, 0#64⟩⟩ = false := by show (0#64 &&& 1#64 == 1#64) = false; decide
    have a2 : MulS.zero ⟨⟨1#64, 0#64⟩, a, ⟨0#64, 0#64⟩⟩ = false := by show (1#64 &&& 1#64 == 0#64) = false; decide
    have a3 : shrB .u64 1#64 1 = 0#64 := (shr1 _).trans (by decide : ((1#64 : W) >>> 1) = 0#64)
    have a4 : shrB .u64 0#64 1 = 0#64 := (shr1 _).trans (by decide : ((0#64 : W) >>> 1) = 0#64)
    rw [MulS.next_eq, a1, a2]
    simp only [Bool.false_eq_true, if_false, MulS.up, a3, a4]
  have s2 : addN ⟨0#64, 0#64⟩ a = a := by
    rw [addN_ok rfl h, add_comm']
    exact add_zero' h
  have s3 : ∀ k b s, MulS.fin (k + 1) ⟨⟨0#64, 0#64⟩, b, s⟩ = ⟨⟨0#64, 0#64⟩, b, s⟩ := by
    intro k b s
    have g : MulS.go ⟨⟨0#64, 0#64⟩, b, s⟩ = false := by show ((0#64 ||| 0#64) != 0#64) = false; decide
    rw [MulS.fin, g]; rfl
  have s4 : MulS.fin 64 ⟨⟨1#64, 0#64⟩, a, ⟨0#64, 0#64⟩⟩ = MulS.fin 63 (MulS.next ⟨⟨1#64, 0#64⟩, a, ⟨0#64, 0#64⟩⟩) := by
    have g : MulS.go ⟨⟨1#64, 0#64⟩, a, ⟨0#64, 0#64⟩⟩ = true := by show ((1#64 ||| 0#64) != 0#64) = true; decide
    rw [MulS.fin, g]; rfl
  show (MulS.fin 64 ⟨⟨1#64, 0#64⟩, a, ⟨0#64, 0#64⟩⟩).s = a
  rw [s4, s1, s3, s2]

end Go.Rf
