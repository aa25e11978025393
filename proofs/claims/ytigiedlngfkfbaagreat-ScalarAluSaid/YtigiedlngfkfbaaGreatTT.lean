/- Plain laws, together. -/
import Derived.Test.YtigiedlngfkfbaaGreatUt
import Derived.Test.YtigiedlngfkfbaaGreatRfF
import Derived.KernelRfl
set_option linter.unusedVariables false
set_option linter.unusedSimpArgs false

/- Tnums: the contracts of the small functions. -/
namespace Go.Rf.T

structure Tn where
  v : W
  m : W

def fTn : FCod Tn := FCod.agg2 fW fW Tn.mk Tn.v Tn.m (fun _ _ => rfl) (fun _ _ => rfl)
def cTn : Cod Tn := fTn.one
def cA : Cod (Nat → W) := fI.arr 64

def eTn (t : Tn) : AV := cTn.enc t
/-- The one tnum or the other. -/
def Tn.mux (c : Bool) (x y : Tn) : Tn := ⟨bif c then x.v else y.v, bif c then x.m else y.m⟩
def nil : Tn := ⟨0, 0⟩

def may (t : Tn) : Bool := t.v &&& t.m == 0#64
def fit (v any : W) : Tn := ⟨v &&& ~~~ any, any⟩

def l1 : List (FuncId × Con) := [(15, con1 cTn fun t => eB (may t)), (59, con2 cW cW fun v any => eTn (fit v any)), (18, con1 cW fun v => eTn ⟨v, 0⟩), (54, con0 (eTn ⟨0, 18446744073709551615#64⟩))]
def ok2 (a b : Tn) : Bool := may a && may b
end Go.Rf.T

/- Tnums: the contracts of the program's functions. -/
namespace Go.Rf.T

def resTE (c : Bool) (t : Tn) : AV := pair (eTn (Tn.mux c nil t)) (eI (bif c then 1#64 else 0#64))
def resTB (c : Bool) (t : Tn) : AV := pair (eTn (Tn.mux c nil t)) (eB (bif c then false else true))

def bad2 (a b : Tn) : Bool := !may a || !may b
def has (t : Tn) (n : W) : Bool := may t && (n &&& ~~~t.m == t.v)
def isIn (a b : Tn) : Bool := may a && has b a.v && (a.m &&& ~~~b.m == 0#64)
def tAdd (a b : Tn) : Tn := fit (a.v + b.v) ((a.v + b.v + a.m + b.m) ^^^ (a.v + b.v) ||| a.m ||| b.m)
def tSub (a b : Tn) : Tn := fit (a.v - b.v) ((a.v - b.v + a.m) ^^^ (a.v - b.v - b.m) ||| a.m ||| b.m)
def tAnd (a b : Tn) : Tn := ⟨a.v &&& b.v, (a.v ||| a.m) &&& (b.v ||| b.m) &&& ~~~(a.v &&& b.v)⟩
def tOr (a b : Tn) : Tn := ⟨a.v ||| b.v, (a.m ||| b.m) &&& ~~~(a.v ||| b.v)⟩
def tXor (a b : Tn) : Tn := fit (a.v ^^^ b.v) (a.m ||| b.m)
def tJoin (a b : Tn) : Tn := fit a.v ((a.v ^^^ b.v) ||| a.m ||| b.m)
def tMeet (a b : Tn) : Tn := fit (a.v ||| b.v) (a.m &&& b.m)
def noMeet (a b : Tn) : Bool := !may a || !may b || ((a.v ^^^ b.v) &&& ~~~(a.m ||| b.m) != 0#64)
def badSh (t : Tn) (n : W) : Bool := !may t || ltB .i64 n 0#64 || ltB .i64 63#64 n
def shn (n : W) : Nat := amt .u64 (convB .i64 .u64 n)
def tLsh (t : Tn) (n : W) : Tn := ⟨t.v <<< shn n, t.m <<< shn n⟩
def tRsh (t : Tn) (n : W) : Tn := ⟨shrB .u64 t.v (shn n), shrB .u64 t.m (shn n)⟩
def badArsh (t : Tn) (n s : W) : Bool := !may t || (s != 32#64 && s != 64#64) || ltB .i64 n 0#64 || leB .i64 s n
def sar32 (x : W) (n : Nat) : W := convB .u32 .u64 (convB .i32 .u32 (shrB .i32 (convB .u32 .i32 (convB .u64 .u32 x)) n))
def sar64 (x : W) (n : Nat) : W := convB .i64 .u64 (shrB .i64 (convB .u64 .i64 x) n)
def tArsh (t : Tn) (n s : W) : Tn := Tn.mux (s == 32#64) ⟨sar32 t.v (shn n), sar32 t.m (shn n)⟩ ⟨sar64 t.v (shn n), sar64 t.m (shn n)⟩
def low (s : W) : W := (1#64 <<< shn s) - 1#64
def small (s : W) : Bool := s == 8#64 || s == 16#64 || s == 32#64
def tCut (t : Tn) (s : W) : Tn := Tn.mux (!may t) nil (Tn.mux (s == 64#64) t (Tn.mux (small s) ⟨t.v &&& low s, t.m &&& low s⟩ nil))
def eCut (t : Tn) (s : W) : W := bif !may t then 1#64 else bif s == 64#64 then 0#64 else bif small s then 0#64 else 1#64

def l2 : List (FuncId × Con) := (16, con2 cTn cTn fun a b => resTE (bad2 a b) (tAdd a b)) :: (32, con2 cTn cW fun t n => eB (has t n)) :: l1
/-! Products: the loop. -/

structure MulS where
  a : Tn
  b : Tn
  s : Tn

def addN (a b : Tn) : Tn := Tn.mux (bad2 a b) nil (tAdd a b)
def MulS.go (s : MulS) : Bool := (s.a.v ||| s.a.m) != 0#64
def MulS.any (s : MulS) : Bool := s.a.m &&& 1#64 == 1#64
def MulS.zero (s : MulS) : Bool := s.a.v &&& 1#64 == 0#64
def MulS.up (s : MulS) (t : Tn) : MulS := ⟨⟨shrB .u64 s.a.v 1, shrB .u64 s.a.m 1⟩, ⟨s.b.v <<< 1, s.b.m <<< 1⟩, t⟩
def MulS.step (s : MulS) : Rd MulS :=
  .br s.go (.br s.any (.norm (s.up (addN s.s ⟨0#64, s.b.v ||| s.b.m⟩))) (.br s.zero (.norm (s.up s.s)) (.norm (s.up (addN s.s s.b))))) (.exit 0 s)
def MulS.next (s : MulS) : MulS := bif s.any then s.up (addN s.s ⟨0#64, s.b.v ||| s.b.m⟩) else bif s.zero then s.up s.s else s.up (addN s.s s.b)
def MulS.fin : Nat → MulS → MulS
  | 0, s => s
  | k + 1, s => bif s.go then MulS.fin k s.next else s
def mulT (s : MulS) : Rd MulS := .exit 0 (MulS.fin 64 s)
theorem MulS.next_eq (s : MulS) : s.next = (if s.any = true then s.up (addN s.s ⟨0#64, s.b.v ||| s.b.m⟩) else if s.zero = true then s.up s.s else s.up (addN s.s s.b)) := by
  unfold MulS.next
  cases s.any <;> cases s.zero <;> rfl

/-- What is left to do. -/
def MulS.size (s : MulS) : Nat := (s.a.v ||| s.a.m).toNat

theorem shr1 (x : W) : shrB .u64 x 1 = x >>> 1 := rfl

theorem MulS.size_up (s : MulS) (t : Tn) : (s.up t).size = s.size / 2 := by
  simp only [MulS.size, MulS.up, shr1, ← BitVec.ushiftRight_or_distrib, BitVec.toNat_ushiftRight, Nat.shiftRight_succ, Nat.shiftRight_zero]

theorem MulS.size_next (s : MulS) : s.next.size = s.size / 2 := by
  rw [MulS.next_eq]
  split
  · exact size_up _ _
  · split <;> exact size_up _ _

theorem MulS.go_size (s : MulS) : s.go = true ↔ s.size ≠ 0 := by
  unfold MulS.go MulS.size
  rw [bne_iff_ne, ne_eq, ne_eq]
  exact ⟨fun h h' => h (BitVec.eq_of_toNat_eq (by rw [h']; rfl)), fun h h' => h (by rw [h']; rfl)⟩

theorem MulS.fin_more : ∀ (k : Nat) (s : MulS), s.size < 2 ^ k → MulS.fin (k + 1) s = MulS.fin k s := by
  intro k
  induction k with
  | zero =>
    intro s h
    have : s.go = false := by
      cases e : s.go with
      | false => rfl
      | true => rw [MulS.go_size] at e; omega
    simp only [MulS.fin, this, cond_false]
  | succ k ih =>
    intro s h
    rw [MulS.fin]
    conv => rhs; rw [MulS.fin]
    cases s.go with
    | false => rfl
    | true =>
      simp only [cond_true]
      exact ih _ (by rw [MulS.size_next, Nat.pow_succ] at *; omega)

theorem MulS.fin_next (s : MulS) (h : s.go = true) : MulS.fin 64 s.next = MulS.fin 64 s := by
  have e : MulS.fin 64 s = MulS.fin 63 s.next := by
    rw [MulS.fin, h]; rfl
  rw [e]
  refine MulS.fin_more 63 _ ?_
  have : s.size < 2 ^ 64 := (s.a.v ||| s.a.m).isLt
  rw [MulS.size_next]
  omega

def tMul (a b : Tn) : Tn := (MulS.fin 64 ⟨a, b, ⟨0#64, 0#64⟩⟩).s

end Go.Rf.T

/- Tnums: the table of contracts; the examples that each statement asks first. -/
namespace Go.Rf.T

def l3 : List (FuncId × Con) :=
  (17, con2 cTn cTn fun a b => resTE (bad2 a b) (tSub a b)) ::
  (19, con2 cTn cTn fun a b => resTE (bad2 a b) (tMul a b)) ::
  (20, con2 cTn cTn fun a b => eB (isIn a b)) ::
  (24, con2 cTn cTn fun a b => resTE (bad2 a b) (tAnd a b)) ::
  (26, con2 cTn cTn fun a b => resTE (bad2 a b) (tOr a b)) ::
  (27, con2 cTn cTn fun a b => resTE (bad2 a b) (tXor a b)) ::
  (48, con2 cTn cTn fun a b => resTE (bad2 a b) (tJoin a b)) ::
  (47, con2 cTn cTn fun a b => resTB (noMeet a b) (tMeet a b)) ::
  (37, con2 cTn cI fun a n => resTE (badSh a n) (tLsh a n)) ::
  (39, con2 cTn cI fun a n => resTE (badSh a n) (tRsh a n)) ::
  (41, con3 cTn cI cI fun a n s => resTE (badArsh a n s) (tArsh a n s)) ::
  (43, con2 cTn cI fun a n => pair (eTn (tCut a n)) (eI (eCut a n))) :: l2
def l4 : List (FuncId × Con) := (14, con0 (eB true)) :: l3
end Go.Rf.T

/- Laws of bits: sums and differences of tnums hold the sums and differences. -/
namespace Go.Rf.T

/-- All bits of x are in y. -/
def Sb (x y : W) : Prop := ∀ i, x.getLsbD i = true → y.getLsbD i = true

theorem Sb.mod {x y : W} (h : Sb x y) (i : Nat) : x.toNat % 2 ^ i ≤ y.toNat % 2 ^ i := by
  have e : x &&& y = x := by
    apply BitVec.eq_of_getLsbD_eq
    intro j hj
    have := h j
    simp only [BitVec.getLsbD_and]
    cases hx : x.getLsbD j <;> simp_all
  have e2 : x.toNat = x.toNat &&& y.toNat := by rw [← BitVec.toNat_and, e]
  rw [e2, Nat.and_mod_two_pow]
  exact Nat.and_le_right

theorem carry_mono {x x' y y' : W} (hx : Sb x x') (hy : Sb y y') (i : Nat) (h : BitVec.carry i x y false = true) : BitVec.carry i x' y' false = true := by
  simp only [BitVec.carry, Bool.toNat_false, Nat.add_zero, decide_eq_true_eq, ge_iff_le] at h ⊢
  have := hx.mod i
  have := hy.mod i
  omega

/-- What is borrowed at bit i. -/
def bor (i : Nat) (x y : W) : Bool := decide (x.toNat % 2 ^ i < y.toNat % 2 ^ i)

theorem bor_mono {x x' y y' : W} (hx : Sb x' x) (hy : Sb y y') (i : Nat) (h : bor i x y = true) : bor i x' y' = true := by
  simp only [bor, decide_eq_true_eq] at h ⊢
  have := hx.mod i
  have := hy.mod i
  omega

theorem mod_mod_pow (n i : Nat) (hi : i ≤ 64) : n % 2 ^ 64 % 2 ^ i = n % 2 ^ i := Nat.mod_mod_of_dvd _ (Nat.pow_dvd_pow 2 hi)

theorem bit_add (x y : W) (i : Nat) (hi : i < 64) : (x + y).getLsbD i = (x.getLsbD i ^^ (y.getLsbD i ^^ BitVec.carry i x y false)) := BitVec.getLsbD_add hi x y

theorem bit_sub (x y : W) (i : Nat) (hi : i < 64) : (x - y).getLsbD i = (x.getLsbD i ^^ (y.getLsbD i ^^ bor i x y)) := by
  have h := bit_add (x - y) y i hi
  rw [BitVec.sub_add_cancel] at h
  have hc : BitVec.carry i (x - y) y false = bor i x y := by
    simp only [BitVec.carry, bor, Bool.toNat_false, Nat.add_zero, ge_iff_le]
    have e : ((x - y).toNat % 2 ^ i + y.toNat % 2 ^ i) % 2 ^ i = x.toNat % 2 ^ i := by
      rw [← Nat.add_mod, ← mod_mod_pow _ i (by omega), ← BitVec.toNat_add, BitVec.sub_add_cancel]
    have h0 : 0 < 2 ^ i := Nat.two_pow_pos i
    have h1 := Nat.mod_lt (x - y).toNat h0
    have h2 := Nat.mod_lt y.toNat h0
    have h3 := Nat.mod_lt x.toNat h0
    generalize (x - y).toNat % 2 ^ i = z at *
    generalize y.toNat % 2 ^ i = y' at *
    generalize x.toNat % 2 ^ i = x' at *
    generalize 2 ^ i = m at *
    by_cases hz : z + y' < m
    · rw [Nat.mod_eq_of_lt hz] at e
      have a : ¬ m ≤ z + y' := by omega
      have b : ¬ x' < y' := by omega
      simp [a, b]
    · rw [Nat.mod_eq_sub_mod (by omega), Nat.mod_eq_of_lt (by omega)] at e
      have a : m ≤ z + y' := by omega
      have b : x' < y' := by omega
      simp [a, b]
  rw [hc] at h
  rw [h]
  cases (x - y).getLsbD i <;> cases y.getLsbD i <;> cases bor i x y <;> rfl

/-- n is one of t's numbers. -/
def Mem (t : Tn) (n : W) : Prop := n &&& ~~~t.m = t.v

theorem Mem.bit {t : Tn} {n : W} (h : Mem t n) (i : Nat) (hi : i < 64) : t.v.getLsbD i = (n.getLsbD i && !t.m.getLsbD i) := by
  rw [← h]
  simp [hi]

theorem Mem.may {t : Tn} {n : W} (h : Mem t n) : T.may t = true := by
  simp only [T.may, beq_iff_eq]
  apply BitVec.eq_of_getLsbD_eq
  intro i hi
  simp only [BitVec.getLsbD_and, h.bit i hi, BitVec.getLsbD_zero]
  cases n.getLsbD i <;> cases t.m.getLsbD i <;> rfl

theorem Mem.lo {t : Tn} {n : W} (h : Mem t n) : Sb t.v n := by
  intro i hv
  have hi : i < 64 := BitVec.lt_of_getLsbD hv
  rw [h.bit i hi] at hv
  simp at hv; exact hv.1

theorem Mem.hi {t : Tn} {n : W} (h : Mem t n) : Sb n (t.v ||| t.m) := by
  intro i hv
  have hi : i < 64 := BitVec.lt_of_getLsbD hv
  simp only [BitVec.getLsbD_or, h.bit i hi, hv]
  cases t.m.getLsbD i <;> rfl

theorem may_and {t : Tn} (h : may t = true) : t.v &&& t.m = 0#64 := by simpa [may] using h

theorem may_bit {t : Tn} (h : may t = true) (i : Nat) : (t.v.getLsbD i && t.m.getLsbD i) = false := by
  have := congrArg (fun x => x.getLsbD i) (may_and h)
  simpa using this

theorem may_mem {t : Tn} (h : may t = true) : Mem t t.v := by
  apply BitVec.eq_of_getLsbD_eq
  intro i hi
  have := may_bit h i
  simp only [BitVec.getLsbD_and, BitVec.getLsbD_not, hi, decide_true, Bool.true_and]
  cases hv : t.v.getLsbD i <;> cases hm : t.m.getLsbD i <;> simp_all

theorem may_add {t : Tn} (h : may t = true) : t.v + t.m = t.v ||| t.m := BitVec.add_eq_or_of_and_eq_zero _ _ (may_and h)

theorem has_iff {t : Tn} {n : W} : has t n = true ↔ Mem t n := by
  constructor
  · intro h
    simp only [has, Bool.and_eq_true, beq_iff_eq] at h
    exact h.2
  · intro h
    simp only [has, Bool.and_eq_true, beq_iff_eq]
    exact ⟨h.may, h⟩

theorem may_fit (v any : W) : may (fit v any) = true := by
  simp only [may, fit, beq_iff_eq]
  apply BitVec.eq_of_getLsbD_eq
  intro i hi
  simp [hi]

theorem add_sound {a b : Tn} {x y : W} (ha : Mem a x) (hb : Mem b y) : Mem (tAdd a b) (x + y) := by
  show (x + y) &&& ~~~ _ = (a.v + b.v) &&& ~~~ _
  apply BitVec.eq_of_getLsbD_eq
  intro i hi
  have e : a.v + b.v + a.m + b.m = (a.v ||| a.m) + (b.v ||| b.m) := by
    rw [← may_add ha.may, ← may_add hb.may]; ac_rfl
  simp only [tAdd, fit, BitVec.getLsbD_and, BitVec.getLsbD_not, hi, decide_true, Bool.true_and, BitVec.getLsbD_or, BitVec.getLsbD_xor, e]
  simp only [bit_add _ _ i hi, BitVec.getLsbD_or]
  have h1 := ha.bit i hi
  have h2 := hb.bit i hi
  have c1 := carry_mono ha.lo hb.lo i
  have c2 := carry_mono ha.hi hb.hi i
  cases hma : a.m.getLsbD i <;> cases hmb : b.m.getLsbD i <;> simp [hma, hmb] at h1 h2 ⊢
  rw [h1, h2]
  cases hx : x[i] <;> cases hy : y[i] <;> cases k1 : BitVec.carry i a.v b.v false <;> cases k2 : BitVec.carry i x y false <;> cases k3 : BitVec.carry i (a.v ||| a.m) (b.v ||| b.m) false <;> simp_all

theorem sub_sound {a b : Tn} {x y : W} (ha : Mem a x) (hb : Mem b y) : Mem (tSub a b) (x - y) := by
  show (x - y) &&& ~~~ _ = (a.v - b.v) &&& ~~~ _
  apply BitVec.eq_of_getLsbD_eq
  intro i hi
  have e1 : a.v - b.v + a.m = (a.v ||| a.m) - b.v := by
    rw [← may_add ha.may, BitVec.sub_add_comm]
  have e2 : a.v - b.v - b.m = a.v - (b.v ||| b.m) := by
    rw [← may_add hb.may, BitVec.sub_sub]
  simp only [tSub, fit, BitVec.getLsbD_and, BitVec.getLsbD_not, hi, decide_true, Bool.true_and, BitVec.getLsbD_or, BitVec.getLsbD_xor, e1, e2]
  simp only [bit_sub _ _ i hi, BitVec.getLsbD_or]
  have h1 := ha.bit i hi
  have h2 := hb.bit i hi
  have c1 := bor_mono (x := a.v ||| a.m) (x' := x) (y := b.v) (y' := y) ha.hi hb.lo i
  have c2 := bor_mono (x := x) (x' := a.v) (y := y) (y' := b.v ||| b.m) ha.lo hb.hi i
  have c3 := bor_mono (x := a.v ||| a.m) (x' := a.v) (y := b.v) (y' := b.v) (fun j hj => by simp [hj]) (fun _ h => h) i
  have c4 := bor_mono (x := a.v) (x' := a.v) (y := b.v) (y' := b.v ||| b.m) (fun _ h => h) (fun j hj => by simp [hj]) i
  cases hma : a.m.getLsbD i <;> cases hmb : b.m.getLsbD i <;> simp [hma, hmb] at h1 h2 ⊢
  rw [h1, h2]
  cases hx : x[i] <;> cases hy : y[i] <;> cases k1 : bor i a.v b.v <;> cases k2 : bor i x y <;> cases k3 : bor i (a.v ||| a.m) b.v <;> cases k4 : bor i a.v (b.v ||| b.m) <;> simp_all

theorem may_of (n : W) : may ⟨n, 0⟩ = true := by simp [may]

theorem Tn.ext' {a b : Tn} (h1 : a.v = b.v) (h2 : a.m = b.m) : a = b := by
  cases a; cases b; simp_all

theorem add_comm' (a b : Tn) : tAdd a b = tAdd b a := by
  have e1 : a.v + b.v = b.v + a.v := BitVec.add_comm _ _
  have e2 : b.v + a.v + a.m + b.m = b.v + a.v + b.m + a.m := by ac_rfl
  simp only [tAdd, e1, e2]
  rw [BitVec.or_assoc, BitVec.or_comm a.m b.m, ← BitVec.or_assoc]

theorem fit_self {t : Tn} (h : may t = true) : fit t.v t.m = t := Tn.ext' (may_mem h) rfl

theorem xor_self_or {t : Tn} (h : may t = true) : (t.v ||| t.m) ^^^ t.v ||| t.m = t.m := by
  apply BitVec.eq_of_getLsbD_eq
  intro i hi
  have := may_bit h i
  simp only [BitVec.getLsbD_or, BitVec.getLsbD_xor]
  cases hv : t.v.getLsbD i <;> cases hm : t.m.getLsbD i <;> simp_all

theorem add_zero' {a : Tn} (h : may a = true) : tAdd a ⟨0#64, 0#64⟩ = a := by
  simp only [tAdd, BitVec.add_zero, BitVec.or_zero, may_add h, xor_self_or h]
  exact fit_self h

theorem add_of (n v : W) : tAdd ⟨n, 0#64⟩ ⟨v, 0#64⟩ = ⟨n + v, 0#64⟩ := by
  simp only [tAdd, BitVec.add_zero, BitVec.xor_self, BitVec.or_zero]
  simp only [fit, BitVec.not_zero, BitVec.and_allOnes]

theorem bad2_false {a b : Tn} (ha : may a = true) (hb : may b = true) : bad2 a b = false := by simp [bad2, ha, hb]

theorem addN_ok {a b : Tn} (ha : may a = true) (hb : may b = true) : addN a b = tAdd a b := by
  simp [addN, Tn.mux, bad2_false ha hb]

theorem may_tAdd (a b : Tn) : may (tAdd a b) = true := may_fit _ _
theorem may_tSub (a b : Tn) : may (tSub a b) = true := may_fit _ _

theorem mul_zero_aux : ∀ (k : Nat) (a : Tn), (MulS.fin k ⟨a, ⟨0#64, 0#64⟩, ⟨0#64, 0#64⟩⟩).s = ⟨0#64, 0#64⟩
  | 0, _ => rfl
  | k + 1, a => by
    rw [MulS.fin]
    cases hg : MulS.go ⟨a, ⟨0#64, 0#64⟩, ⟨0#64, 0#64⟩⟩ with
    | false => rfl
    | true =>
      have hz : addN ⟨0#64, 0#64⟩ ⟨0#64, 0#64⟩ = ⟨0#64, 0#64⟩ := by rw [addN_ok rfl rfl]; exact add_zero' rfl
      have e : MulS.next ⟨a, ⟨0#64, 0#64⟩, ⟨0#64, 0#64⟩⟩ = ⟨⟨shrB .u64 a.v 1, shrB .u64 a.m 1⟩, ⟨0#64, 0#64⟩, ⟨0#64, 0#64⟩⟩ := by
        rw [MulS.next_eq]
        have e1 : (0#64 ||| 0#64 : W) = 0#64 := rfl
        have e2 : (0#64 <<< 1 : W) = 0#64 := rfl
        simp only [MulS.up, e1, e2, hz]
        split
        · rfl
        · split <;> rfl
      simp only [cond_true, e]
      exact mul_zero_aux k _

theorem mul_zero' (a : Tn) : tMul a ⟨0#64, 0#64⟩ = ⟨0#64, 0#64⟩ := mul_zero_aux 64 a

theorem one_mul' {a : Tn} (h : may a = true) : tMul ⟨1#64, 0#64⟩ a = a := by
  have s1 : MulS.next ⟨⟨1#64, 0#64⟩, a, ⟨0#64, 0#64⟩⟩ = ⟨⟨0#64, 0#64⟩, ⟨a.v <<< 1, a.m <<< 1⟩, addN ⟨0#64, 0#64⟩ a⟩ := by
    have a1 : MulS.any ⟨⟨1#64, 0#64⟩, a, ⟨0#64, 0#64⟩⟩ = false := by show (0#64 &&& 1#64 == 1#64) = false; decide
    have a2 : MulS.zero ⟨⟨1#64, 0#64⟩, a, ⟨0#64, 0#64⟩⟩ = false := by show (1#64 &&& 1#64 == 0#64) = false; decide
    have a3 : shrB .u64 1#64 1 = 0#64 := (shr1 _).trans (by decide : ((1#64 : W) >>> 1) = 0#64)
    have a4 : shrB .u64 0#64 1 = 0#64 := (shr1 _).trans (by decide : ((0#64 : W) >>> 1) = 0#64)
    rw [MulS.next_eq, a1, a2]
    simp only [Bool.false_eq_true, if_false, MulS.up, a3, a4]
  have s2 : addN ⟨0#64, 0#64⟩ a = a := by
    rw [addN_ok rfl h, add_comm']
    exact add_zero' h
  have s3 : ∀ k b s, MulS.fin (k + 1) ⟨⟨0#64, 0#64⟩, b, s⟩ = ⟨⟨0#64, 0#64⟩, b, s⟩ := by
    intro k b s
    have g : MulS.go ⟨⟨0#64, 0#64⟩, b, s⟩ = false := by show ((0#64 ||| 0#64) != 0#64) = false; decide
    rw [MulS.fin, g]; rfl
  have s4 : MulS.fin 64 ⟨⟨1#64, 0#64⟩, a, ⟨0#64, 0#64⟩⟩ = MulS.fin 63 (MulS.next ⟨⟨1#64, 0#64⟩, a, ⟨0#64, 0#64⟩⟩) := by
    have g : MulS.go ⟨⟨1#64, 0#64⟩, a, ⟨0#64, 0#64⟩⟩ = true := by show ((1#64 ||| 0#64) != 0#64) = true; decide
    rw [MulS.fin, g]; rfl
  show (MulS.fin 64 ⟨⟨1#64, 0#64⟩, a, ⟨0#64, 0#64⟩⟩).s = a
  rw [s4, s1, s3, s2]

end Go.Rf.T

/- Tnums: the document's own functions. -/
namespace Go.Rf.T

/-- Bit i of x, as the document asks for it. -/
def bitB (x i : W) : Bool := remB .u64 (shrB .u64 x (amt .u64 (convB .i64 .u64 i))) 2#64 == 1#64
def markB (t : Tn) (i : W) : W := bif bitB t.m i then 3#64 else bif bitB t.v i then 2#64 else 1#64
def bitN (n : W) : W := bif remB .i64 n 2#64 == 1#64 then 2#64 else 1#64

def l5 : List (FuncId × Con) := (63, con2 cTn cI fun t i => eI (markB t i)) :: (65, con1 cI fun n => eI (bitN n)) :: (50, con1 cTn fun t => eB (may t)) :: (55, con0 (eTn ⟨0#64, 18446744073709551615#64⟩)) :: l4
/-! Made. -/
structure MadeS where
  i : W
  t : Tn
  l : Nat → W

def MadeS.li (s : MadeS) : W := s.l (ixN s.i)
def MadeS.bit (s : MadeS) : W := 1#64 <<< amt .u64 (convB .i64 .u64 s.i)
def MadeS.go (s : MadeS) : Bool := ltB .i64 s.i 64#64
def MadeS.is2 (s : MadeS) : Bool := s.li == 2#64
def MadeS.is3 (s : MadeS) : Bool := s.li == 3#64
def MadeS.to (s : MadeS) (b c : Bool) : MadeS := ⟨s.i + 1#64, ⟨if b then s.t.v + s.bit else s.t.v, if c then s.t.m + s.bit else s.t.m⟩, s.l⟩
def MadeS.step (s : MadeS) : Rd MadeS :=
  .br s.go (.br s.is2 (.br s.is3 (.norm (s.to true true)) (.norm (s.to true false))) (.br s.is3 (.norm (s.to false true)) (.norm (s.to false false)))) (.exit 0 s)
def MadeS.next (s : MadeS) : MadeS := s.to s.is2 s.is3
def MadeS.inv (s : MadeS) : Prop := s.i.toNat ≤ 64
def MadeS.mu (s : MadeS) : Nat := 64 - s.i.toNat

theorem MadeS.go_iff {s : MadeS} (h : s.inv) : s.go = decide (s.i.toNat < 64) := by
  have h' : s.i.toNat ≤ 64 := h
  rw [MadeS.go, ltB_nat (by omega) (by decide)]; rfl

theorem MadeS.dec (s : MadeS) (h : s.inv) (hg : s.go = true) : s.next.inv ∧ s.next.mu < s.mu := by
  rw [MadeS.go_iff h, decide_eq_true_eq] at hg
  have e : s.next.i.toNat = s.i.toNat + 1 := succ_nat (by omega)
  simp only [MadeS.inv, MadeS.mu, e]
  omega

def madeT (s : MadeS) : Rd MadeS := .exit 0 (runN MadeS.go MadeS.next 64 s)

def made (l : Nat → W) : Tn := (runN MadeS.go MadeS.next 64 ⟨0#64, ⟨0#64, 0#64⟩, l⟩).t

end Go.Rf.T

/- Tnums: the document's sums, differences and bits. -/
namespace Go.Rf.T

def l6 : List (FuncId × Con) := (66, con1 cA fun l => eTn (made l)) :: l5
def upd (l : Nat → W) (i : Nat) (v : W) : Nat → W := fun j => if j = i then v else l j

structure BIn where
  op : W
  a : Tn
  b : Tn
  i : W
  n : W
  l : Nat → W

def BIn.go (s : BIn) : Bool := ltB .i64 s.n 4#64
def BIn.x (s : BIn) : W := remB .i64 s.n 2#64
def BIn.y (s : BIn) : W := quoB .i64 s.n 2#64
def BIn.skip (s : BIn) : Bool := (markB s.a s.i &&& bitN s.x == 0#64) || (markB s.b s.i &&& bitN s.y == 0#64)
def BIn.put (s : BIn) (z : W) : BIn := ⟨s.op, s.a, s.b, s.i, s.n + 1#64, upd s.l (ixN s.i) (s.l (ixN s.i) ||| bitN z)⟩
def BIn.one (s : BIn) : Bool := s.op == 1#64
def BIn.two (s : BIn) : Bool := s.op == 2#64
def BIn.step (s : BIn) : Rd BIn :=
  .br s.go (.br s.skip (.norm ⟨s.op, s.a, s.b, s.i, s.n + 1#64, s.l⟩)
    (.br s.one (.br s.two (.norm (s.put (s.x ^^^ s.y))) (.norm (s.put (s.x ||| s.y)))) (.br s.two (.norm (s.put (s.x ^^^ s.y))) (.norm (s.put (s.x &&& s.y)))))) (.exit 2 s)
def BIn.z (s : BIn) : W := if s.two then s.x ^^^ s.y else if s.one then s.x ||| s.y else s.x &&& s.y
def BIn.next (s : BIn) : BIn := if s.skip then ⟨s.op, s.a, s.b, s.i, s.n + 1#64, s.l⟩ else s.put s.z
def BIn.inv (s : BIn) : Prop := s.n.toNat ≤ 4 ∧ s.i.toNat < 64
def BIn.mu (s : BIn) : Nat := 4 - s.n.toNat

theorem BIn.dec (s : BIn) (h : s.inv) (hg : s.go = true) : s.next.inv ∧ s.next.mu < s.mu := by
  have h1 : s.n.toNat ≤ 4 := h.1
  rw [BIn.go, ltB_nat (by omega) (by decide), decide_eq_true_eq] at hg
  have hg : s.n.toNat < 4 := hg
  have e : (s.n + 1#64).toNat = s.n.toNat + 1 := succ_nat (by omega)
  have k : s.next.n = s.n + 1#64 ∧ s.next.i = s.i := by unfold BIn.next; split <;> exact ⟨rfl, rfl⟩
  refine ⟨⟨?_, ?_⟩, ?_⟩
  · rw [k.1, e]; omega
  · rw [k.2]; exact h.2
  · rw [BIn.mu, BIn.mu, k.1, e]; omega

def bInT (s : BIn) : Rd BIn := .exit 2 (runN BIn.go BIn.next 4 s)

structure BOut where
  op : W
  a : Tn
  b : Tn
  i : W
  l : Nat → W

def BOut.inn (s : BOut) : BIn := runN BIn.go BIn.next 4 ⟨s.op, s.a, s.b, s.i, 0#64, s.l⟩
def BOut.go (s : BOut) : Bool := ltB .i64 s.i 64#64
def BOut.next (s : BOut) : BOut := ⟨s.inn.op, s.inn.a, s.inn.b, s.inn.i + 1#64, s.inn.l⟩
def BOut.step (s : BOut) : Rd BOut := .br s.go (.norm s.next) (.exit 0 s)
def BOut.inv (s : BOut) : Prop := s.i.toNat ≤ 64
def BOut.mu (s : BOut) : Nat := 64 - s.i.toNat

/-- The inner rounds leave what they are handed. -/
theorem BIn.keep (k : Nat) (s : BIn) : (runN BIn.go BIn.next k s).op = s.op ∧ (runN BIn.go BIn.next k s).a = s.a ∧ (runN BIn.go BIn.next k s).b = s.b ∧ (runN BIn.go BIn.next k s).i = s.i := by
  refine runN_inv (fun t => t.op = s.op ∧ t.a = s.a ∧ t.b = s.b ∧ t.i = s.i) ?_ k s ⟨rfl, rfl, rfl, rfl⟩
  intro t h _
  unfold BIn.next
  split <;> exact h

theorem BOut.dec (s : BOut) (h : s.inv) (hg : s.go = true) : s.next.inv ∧ s.next.mu < s.mu := by
  have h' : s.i.toNat ≤ 64 := h
  rw [BOut.go, ltB_nat (by omega) (by decide), decide_eq_true_eq] at hg
  have hg : s.i.toNat < 64 := hg
  have e : (s.i + 1#64).toNat = s.i.toNat + 1 := succ_nat (by omega)
  have k : s.next.i = s.i + 1#64 := by unfold BOut.next BOut.inn; simp only [(BIn.keep _ _).2.2.2]
  simp only [BOut.inv, BOut.mu, k, e]
  omega

def bOutT (s : BOut) : Rd BOut := .exit 0 (runN BOut.go BOut.next 64 s)

def bitsL (op : W) (a b : Tn) : Nat → W := (runN BOut.go BOut.next 64 ⟨op, a, b, 0#64, fun _ => 0#64⟩).l

end Go.Rf.T

/- Tnums: the document's sums and differences (with the sets of carries). -/
namespace Go.Rf.T

structure CIn where
  a : Tn
  b : Tn
  less : Bool
  carry : W
  i : W
  next : W
  n : W
  l : Nat → W

def pCOut : List Nat := [1, 1, 1, 0, 1, 4]
def pCIn : List Nat := [1, 1, 1, 0, 1, 4, 5, 1, 0, 4, 1, 0, 1, 4]

def CIn.go (s : CIn) : Bool := ltB .i64 s.n 8#64
def CIn.x (s : CIn) : W := remB .i64 s.n 2#64
def CIn.y (s : CIn) : W := remB .i64 (quoB .i64 s.n 2#64) 2#64
def CIn.c (s : CIn) : W := quoB .i64 s.n 4#64
def CIn.skip (s : CIn) : Bool := (markB s.a s.i &&& bitN s.x == 0#64) || (markB s.b s.i &&& bitN s.y == 0#64) || (s.carry &&& bitN s.c == 0#64)
def CIn.put (s : CIn) (over : W) : CIn := ⟨s.a, s.b, s.less, s.carry, s.i, s.next ||| bitN over, s.n + 1#64, upd s.l (ixN s.i) (s.l (ixN s.i) ||| bitN (s.x + s.y + s.c))⟩
def CIn.below (s : CIn) : Bool := ltB .i64 s.x (s.y + s.c)
def CIn.step (s : CIn) : Rd CIn :=
  .br s.go (.br s.skip (.norm ⟨s.a, s.b, s.less, s.carry, s.i, s.next, s.n + 1#64, s.l⟩)
    (.br s.less (.br s.below (.norm (s.put 1#64)) (.norm (s.put 0#64))) (.norm (s.put (quoB .i64 (s.x + s.y + s.c) 2#64))))) (.exit 2 s)
def CIn.over (s : CIn) : W := if s.less then (if s.below then 1#64 else 0#64) else quoB .i64 (s.x + s.y + s.c) 2#64
def CIn.nxt (s : CIn) : CIn := if s.skip then ⟨s.a, s.b, s.less, s.carry, s.i, s.next, s.n + 1#64, s.l⟩ else s.put s.over
def CIn.inv (s : CIn) : Prop := s.n.toNat ≤ 8 ∧ s.i.toNat < 64
def CIn.mu (s : CIn) : Nat := 8 - s.n.toNat

theorem CIn.dec (s : CIn) (h : s.inv) (hg : s.go = true) : s.nxt.inv ∧ s.nxt.mu < s.mu := by
  have h1 : s.n.toNat ≤ 8 := h.1
  rw [CIn.go, ltB_nat (by omega) (by decide), decide_eq_true_eq] at hg
  have hg : s.n.toNat < 8 := hg
  have e : (s.n + 1#64).toNat = s.n.toNat + 1 := succ_nat (by omega)
  have k : s.nxt.n = s.n + 1#64 ∧ s.nxt.i = s.i := by unfold CIn.nxt; split <;> exact ⟨rfl, rfl⟩
  refine ⟨⟨?_, ?_⟩, ?_⟩
  · rw [k.1, e]; omega
  · rw [k.2]; exact h.2
  · rw [CIn.mu, CIn.mu, k.1, e]; omega

def cInT (s : CIn) : Rd CIn := .exit 2 (runN CIn.go CIn.nxt 8 s)

structure COut where
  a : Tn
  b : Tn
  less : Bool
  carry : W
  i : W
  l : Nat → W

def COut.inn (s : COut) : CIn := runN CIn.go CIn.nxt 8 ⟨s.a, s.b, s.less, s.carry, s.i, 0#64, 0#64, s.l⟩
def COut.go (s : COut) : Bool := ltB .i64 s.i 64#64
def COut.nxt (s : COut) : COut := ⟨s.inn.a, s.inn.b, s.inn.less, s.inn.next, s.inn.i + 1#64, s.inn.l⟩
def COut.step (s : COut) : Rd COut := .br s.go (.norm s.nxt) (.exit 0 s)
def COut.inv (s : COut) : Prop := s.i.toNat ≤ 64
def COut.mu (s : COut) : Nat := 64 - s.i.toNat

theorem CIn.keep (k : Nat) (s : CIn) : (runN CIn.go CIn.nxt k s).a = s.a ∧ (runN CIn.go CIn.nxt k s).b = s.b ∧ (runN CIn.go CIn.nxt k s).less = s.less ∧ (runN CIn.go CIn.nxt k s).carry = s.carry ∧ (runN CIn.go CIn.nxt k s).i = s.i := by
  refine runN_inv (fun t => t.a = s.a ∧ t.b = s.b ∧ t.less = s.less ∧ t.carry = s.carry ∧ t.i = s.i) ?_ k s ⟨rfl, rfl, rfl, rfl, rfl⟩
  intro t h _
  unfold CIn.nxt
  split <;> exact h

theorem COut.dec (s : COut) (h : s.inv) (hg : s.go = true) : s.nxt.inv ∧ s.nxt.mu < s.mu := by
  have h' : s.i.toNat ≤ 64 := h
  rw [COut.go, ltB_nat (by omega) (by decide), decide_eq_true_eq] at hg
  have hg : s.i.toNat < 64 := hg
  have e : (s.i + 1#64).toNat = s.i.toNat + 1 := succ_nat (by omega)
  have k : s.nxt.i = s.i + 1#64 := by unfold COut.nxt COut.inn; simp only [(CIn.keep _ _).2.2.2.2]
  simp only [COut.inv, COut.mu, k, e]
  omega

def cOutT (s : COut) : Rd COut := .exit 0 (runN COut.go COut.nxt 64 s)

def carL (a b : Tn) (less : Bool) : Nat → W := (runN COut.go COut.nxt 64 ⟨a, b, less, 1#64, 0#64, fun _ => 0#64⟩).l

def l7 : List (FuncId × Con) := (62, con3 cTn cTn cB fun a b less => eTn (made (carL a b less))) :: (25, con3 cI cTn cTn fun op a b => resTE (bad2 a b) (made (bitsL op a b))) :: l6
end Go.Rf.T

/- Tnums: the document's shifts, cuts and products. -/
namespace Go.Rf.T

structure MvS where
  t : Tn
  by' : W
  size : W
  most : W
  i : W
  l : Nat → W

def pMv : List Nat := [1, 1, 0, 1, 4]

def MvS.go (s : MvS) : Bool := ltB .i64 s.i 64#64
def MvS.past (s : MvS) : Bool := leB .i64 0#64 s.most && ltB .i64 s.most (s.i + s.by')
def MvS.fits (s : MvS) (at' : W) : Bool := ltB .i64 s.i s.size && leB .i64 0#64 at' && ltB .i64 at' 64#64
def MvS.put (s : MvS) (l : Nat → W) : MvS := ⟨s.t, s.by', s.size, s.most, s.i + 1#64, l⟩
def MvS.one (s : MvS) : Nat → W := upd s.l (ixN s.i) 1#64
def MvS.mk2 (s : MvS) (at' : W) : Nat → W := upd s.one (ixN s.i) (markB s.t at')
def MvS.step (s : MvS) : Rd MvS :=
  .br s.go (.br s.past
    (.br (s.fits s.most) (.norm (s.put (s.mk2 s.most))) (.norm (s.put s.one)))
    (.br (s.fits (s.i + s.by')) (.norm (s.put (s.mk2 (s.i + s.by')))) (.norm (s.put s.one)))) (.exit 0 s)
def MvS.at' (s : MvS) : W := if s.past then s.most else s.i + s.by'
def MvS.nxt (s : MvS) : MvS := s.put (if s.fits s.at' then s.mk2 s.at' else s.one)
def MvS.inv (s : MvS) : Prop := s.i.toNat ≤ 64
def MvS.mu (s : MvS) : Nat := 64 - s.i.toNat

theorem MvS.dec (s : MvS) (h : s.inv) (hg : s.go = true) : s.nxt.inv ∧ s.nxt.mu < s.mu := by
  have h' : s.i.toNat ≤ 64 := h
  rw [MvS.go, ltB_nat (by omega) (by decide), decide_eq_true_eq] at hg
  have hg : s.i.toNat < 64 := hg
  have e : (s.i + 1#64).toNat = s.i.toNat + 1 := succ_nat (by omega)
  have k : s.nxt.i = s.i + 1#64 := rfl
  simp only [MvS.inv, MvS.mu, k, e]
  omega

def mvT (s : MvS) : Rd MvS := .exit 0 (runN MvS.go MvS.nxt 64 s)

def mvL (t : Tn) (by' size most : W) : Nat → W := (runN MvS.go MvS.nxt 64 ⟨t, by', size, most, 0#64, fun _ => 0#64⟩).l

def l8 : List (FuncId × Con) :=
  (70, con4 cTn cI cI cI fun t b z m => eTn (made (mvL t b z m))) ::
  (21, con2 cTn cTn fun a b => resTE (bad2 a b) (made (carL a b false))) ::
  (22, con2 cTn cTn fun a b => resTE (bad2 a b) (made (carL a b true))) :: l7
def badCut (t : Tn) (s : W) : Bool := !may t || (s != 8#64 && s != 16#64 && s != 32#64 && s != 64#64)

def l9 : List (FuncId × Con) :=
  (38, con2 cTn cI fun t n => resTE (badSh t n) (made (mvL t (-n) 64#64 (-1#64)))) ::
  (40, con2 cTn cI fun t n => resTE (badSh t n) (made (mvL t n 64#64 (-1#64)))) ::
  (42, con3 cTn cI cI fun t n s => resTE (badArsh t n s) (made (mvL t n s (s - 1#64)))) ::
  (44, con2 cTn cI fun t s => resTE (badCut t s) (made (mvL t 0#64 s (-1#64)))) :: l8
/-! Products. -/
structure MuS where
  a : Tn
  b : Tn
  s : Tn
  i : W

def pMu : List Nat := [1, 1, 1, 0, 1, 4]

def MuS.go (s : MuS) : Bool := ltB .i64 s.i 64#64
def MuS.m (s : MuS) : W := markB s.a s.i
def MuS.up (s : MuS) : Tn := Tn.mux (badSh s.b s.i) nil (made (mvL s.b (-s.i) 64#64 (-1#64)))
def refAdd (a b : Tn) : Tn := Tn.mux (bad2 a b) nil (made (carL a b false))
def MuS.is2 (s : MuS) : Bool := s.m == 2#64
def MuS.is3 (s : MuS) : Bool := s.m == 3#64
def MuS.put (s : MuS) (t : Tn) : MuS := ⟨s.a, s.b, t, s.i + 1#64⟩
def MuS.anyUp (s : MuS) : Tn := ⟨0#64, s.up.v ||| s.up.m⟩
def MuS.step (s : MuS) : Rd MuS :=
  .br s.go (.br s.is2 (.br s.is3 (.norm (s.put (refAdd (refAdd s.s s.up) s.anyUp))) (.norm (s.put (refAdd s.s s.up)))) (.br s.is3 (.norm (s.put (refAdd s.s s.anyUp))) (.norm (s.put s.s)))) (.exit 0 s)
def MuS.s1 (s : MuS) : Tn := if s.is2 then refAdd s.s s.up else s.s
def MuS.nxt (s : MuS) : MuS := s.put (if s.is3 then refAdd s.s1 s.anyUp else s.s1)
def MuS.inv (s : MuS) : Prop := s.i.toNat ≤ 64
def MuS.mu (s : MuS) : Nat := 64 - s.i.toNat

theorem MuS.dec (s : MuS) (h : s.inv) (hg : s.go = true) : s.nxt.inv ∧ s.nxt.mu < s.mu := by
  have h' : s.i.toNat ≤ 64 := h
  rw [MuS.go, ltB_nat (by omega) (by decide), decide_eq_true_eq] at hg
  have hg : s.i.toNat < 64 := hg
  have e : (s.i + 1#64).toNat = s.i.toNat + 1 := succ_nat (by omega)
  have k : s.nxt.i = s.i + 1#64 := rfl
  simp only [MuS.inv, MuS.mu, k, e]
  omega

def muT (s : MuS) : Rd MuS := .exit 0 (runN MuS.go MuS.nxt 64 s)

def refMul (a b : Tn) : Tn := (runN MuS.go MuS.nxt 64 ⟨a, b, ⟨0#64, 0#64⟩, 0#64⟩).s

def lA : List (FuncId × Con) := (23, con2 cTn cTn fun a b => resTE (bad2 a b) (refMul a b)) :: l9
end Go.Rf.T

/- The document's operations on numbers (layer 1). -/
namespace Go.Rf.T

def fitW (wide : Bool) (a : W) : W := bif wide then a else a % 4294967296#64
def sizeW (wide : Bool) : W := bif wide then 64#64 else 32#64

def lB : List (FuncId × Con) := (56, con2 cB cW fun wide a => cW.enc (fitW wide a)) :: (69, con1 cB fun wide => cW.enc (sizeW wide)) :: lA
structure AlS where
  by' : W
  r : W
  top : W
  i : W

def pAl : List Nat := [1, 1, 1, 1, 1, 0, 1, 4, 1, 3, 1, 3, 1, 3, 1, 3, 1, 3, 1, 3, 1, 3, 1, 3, 1, 3, 1, 3, 1, 3, 1, 3, 1, 2, 1, 1, 1, 4]

def AlS.go (s : AlS) : Bool := ltB .u64 s.i s.by'
def AlS.nxt (s : AlS) : AlS := ⟨s.by', (s.r >>> 1) ||| (s.r &&& s.top), s.top, s.i + 1#64⟩
def AlS.step (s : AlS) : Rd AlS := .br s.go (.norm s.nxt) (.exit 1 s)
def AlS.inv (s : AlS) : Prop := s.by'.toNat ≤ 64 ∧ s.i.toNat ≤ s.by'.toNat
def AlS.mu (s : AlS) : Nat := s.by'.toNat - s.i.toNat

theorem AlS.go_iff (s : AlS) : s.go = decide (s.i.toNat < s.by'.toNat) := rfl

theorem AlS.dec (s : AlS) (h : s.inv) (hg : s.go = true) : s.nxt.inv ∧ s.nxt.mu < s.mu := by
  rw [AlS.go_iff, decide_eq_true_eq] at hg
  have h1 := h.1
  have e : s.nxt.i.toNat = s.i.toNat + 1 := succ_nat (by omega)
  have e2 : s.nxt.by' = s.by' := rfl
  simp only [AlS.inv, AlS.mu, e, e2]
  omega

def alT (s : AlS) : Rd AlS := .exit 1 (runN AlS.go AlS.nxt 64 s)

def badOp (op : W) : Bool := ltB .i64 op 0#64 || ltB .i64 12#64 op
def pos (wide : Bool) (b : W) : Bool := ltB .u64 0#64 (fitW wide b)
def byW (wide : Bool) (b : W) : W := remB .u64 (fitW wide b) (sizeW wide)
def arS (wide : Bool) (a b : W) : AlS := ⟨byW wide b, fitW wide a, 1#64 <<< amt .u64 (sizeW wide - 1#64), 0#64⟩
def aluV (op : W) (wide : Bool) (a b : W) : W :=
  bif badOp op then 0#64
  else bif op == 0#64 then fitW wide (fitW wide a + fitW wide b)
  else bif op == 1#64 then fitW wide (fitW wide a - fitW wide b)
  else bif op == 2#64 then fitW wide (fitW wide a * fitW wide b)
  else bif op == 3#64 then (bif pos wide b then fitW wide (quoB .u64 (fitW wide a) (fitW wide b)) else fitW wide 0#64)
  else bif op == 4#64 then fitW wide (fitW wide a ||| fitW wide b)
  else bif op == 5#64 then fitW wide (fitW wide a &&& fitW wide b)
  else bif op == 6#64 then fitW wide (fitW wide a <<< amt .u64 (byW wide b))
  else bif op == 7#64 then fitW wide (shrB .u64 (fitW wide a) (amt .u64 (byW wide b)))
  else bif op == 8#64 then fitW wide (0#64 - fitW wide a)
  else bif op == 9#64 then (bif pos wide b then fitW wide (remB .u64 (fitW wide a) (fitW wide b)) else fitW wide (fitW wide a))
  else bif op == 10#64 then fitW wide (fitW wide a ^^^ fitW wide b)
  else bif op == 11#64 then fitW wide (fitW wide b)
  else bif op == 12#64 then fitW wide (runN AlS.go AlS.nxt 64 (arS wide a b)).r
  else fitW wide 0#64
def aluE (op : W) : W := bif badOp op then 20#64 else 0#64

def nzOb (wide : Bool) (b : W) : Ob := .imp (pos wide b) true (.pr (fitW wide b ≠ 0#64))
theorem sizeW_pos (wide : Bool) : sizeW wide ≠ 0#64 := by cases wide <;> decide
theorem pos_ne {wide : Bool} {b : W} (h : pos wide b = true) : fitW wide b ≠ 0#64 := by
  intro e
  have h' : pos wide b = decide ((0#64 : W).toNat < (fitW wide b).toNat) := rfl
  rw [h', e] at h
  simp at h

theorem byW_le (wide : Bool) (b : W) : (byW wide b).toNat ≤ 64 := by
  have e : byW wide b = fitW wide b % sizeW wide := rfl
  rw [e, BitVec.toNat_umod]
  cases wide with
  | true =>
    have : (sizeW true).toNat = 64 := rfl
    rw [this]; omega
  | false =>
    have : (sizeW false).toNat = 32 := rfl
    rw [this]; omega

def doneT (op : W) (a b : Tn) : Tn :=
  Tn.mux (op == 0#64) (Tn.mux (bad2 a b) nil (tAdd a b)) (Tn.mux (op == 1#64) (Tn.mux (bad2 a b) nil (tSub a b)) (Tn.mux (op == 2#64) (Tn.mux (bad2 a b) nil (tMul a b))
    (Tn.mux (op == 4#64) (Tn.mux (bad2 a b) nil (tOr a b)) (Tn.mux (op == 5#64) (Tn.mux (bad2 a b) nil (tAnd a b)) (Tn.mux (bad2 a b) nil (tXor a b))))))
def errB (a b : Tn) : W := bif bad2 a b then 1#64 else 0#64
def doneE (op : W) (a b : Tn) : W := bif op == 0#64 then errB a b else bif op == 1#64 then errB a b else bif op == 2#64 then errB a b else bif op == 4#64 then errB a b else bif op == 5#64 then errB a b else errB a b
def lC : List (FuncId × Con) :=
  (31, con4 cI cB cW cW fun op wide a b => pair (cW.enc (aluV op wide a b)) (eI (aluE op))) ::
  (28, con2 cTn cW fun t n => cW.enc (t.v ||| n &&& t.m)) ::
  (30, con3 cI cTn cTn fun op a b => pair (eTn (doneT op a b)) (eI (doneE op a b))) :: lB
end Go.Rf.T

/- How many bits a number has; stretches; how many bits are any. -/
namespace Go.Rf.T

/-- How many bits a byte has. -/
def lenTab : ByteArray := ⟨((List.range 256).map fun i => UInt8.ofNat (if i = 0 then 0 else i.log2 + 1)).toArray⟩

noncomputable def tabW (x : W) : W := convB .u8 .i64 (BitVec.ofNat 8 (byteAt lenTab (toZ .u8 (convB .u64 .u8 x)).toNat))
def shrW (x : W) (k : Nat) : W := shrB .u64 x k
noncomputable def lenC (n : W) (x : W) : W := bif leB .u64 256#64 x then (n + 8#64) + tabW (shrW x 8) else n + tabW x
noncomputable def lenB (n : W) (x : W) : W := bif leB .u64 65536#64 x then lenC (n + 16#64) (shrW x 16) else lenC n x
noncomputable def lenW (x : W) : W := bif leB .u64 4294967296#64 x then lenB 32#64 (shrW x 32) else lenB 0#64 x

def tabOb (x : W) : Prop := 0 ≤ toZ .u8 (convB .u64 .u8 x) ∧ toZ .u8 (convB .u64 .u8 x) < (lenTab.size : Int)

theorem lenTab_size : lenTab.size = 256 := by kernel_rfl

theorem tabOb_holds (x : W) : tabOb x := by
  unfold tabOb
  rw [lenTab_size]
  show 0 ≤ (((convB .u64 .u8 x : BitVec 8).toNat : Nat) : Int) ∧ (((convB .u64 .u8 x : BitVec 8).toNat : Nat) : Int) < _
  have : (convB .u64 .u8 x : BitVec 8).toNat < 256 := (convB .u64 .u8 x : BitVec 8).isLt
  omega

noncomputable def lD : List (FuncId × Con) := (71, con1 cW fun x => eI (lenW x)) :: lC
def badRg (lo hi : W) : Bool := ltB .u64 hi lo
noncomputable def rgN (lo hi : W) : W := lenW (lo ^^^ hi)
noncomputable def rgT (lo hi : W) : Tn := Tn.mux (rgN lo hi == 64#64) ⟨0#64, 18446744073709551615#64⟩ (fit lo ((1#64 <<< amt .u64 (convB .i64 .u64 (rgN lo hi))) - 1#64))
/-! What they are. -/
def bl (n : Nat) : Nat := if n = 0 then 0 else n.log2 + 1

theorem tab_all : (List.range 256).all (fun i => byteAt lenTab i == bl i) = true := by kernel_rfl
theorem tab_eq (i : Nat) (h : i < 256) : byteAt lenTab i = bl i := by
  have := List.all_eq_true.1 tab_all i (by simpa using h)
  simpa using this

theorem bl_shift (n k : Nat) (h : 2 ^ k ≤ n) : bl n = bl (n / 2 ^ k) + k := by
  have h0 : 0 < 2 ^ k := Nat.two_pow_pos k
  have hn : n ≠ 0 := by omega
  have hd : n / 2 ^ k ≠ 0 := by
    have := Nat.div_pos h h0; omega
  simp only [bl, hn, hd, if_false]
  have : n.log2 = (n / 2 ^ k).log2 + k := by
    have h1 := (Nat.le_log2 hd (k := (n / 2 ^ k).log2)).1 (Nat.le_refl _)
    have h2 := (Nat.log2_lt hd (k := (n / 2 ^ k).log2 + 1)).1 (by omega)
    apply Nat.le_antisymm
    · have : n.log2 < (n / 2 ^ k).log2 + k + 1 := by
        rw [Nat.log2_lt hn]
        rw [Nat.div_lt_iff_lt_mul h0, ← Nat.pow_add] at h2
        have e : (n / 2 ^ k).log2 + 1 + k = (n / 2 ^ k).log2 + k + 1 := by omega
        rw [e] at h2
        exact h2
      omega
    · rw [Nat.le_log2 hn]
      rw [Nat.le_div_iff_mul_le h0, ← Nat.pow_add] at h1
      exact h1
  omega

theorem bl_le (n k : Nat) (h : n < 2 ^ k) : bl n ≤ k := by
  unfold bl
  split
  · omega
  · rename_i h0
    have := (Nat.log2_lt h0).2 h
    omega

theorem tabW_eq (x : W) (h : x.toNat < 256) : tabW x = BitVec.ofNat 64 (bl x.toNat) := by
  have e : (toZ .u8 (convB .u64 .u8 x)).toNat = x.toNat := by
    show (((x.setWidth 8).toNat : Nat) : Int).toNat = _
    simp; omega
  unfold tabW
  rw [e, tab_eq _ h]
  have hb := bl_le x.toNat 8 (by omega)
  show ((BitVec.ofNat 8 (bl x.toNat)).setWidth 64 : W) = _
  apply BitVec.eq_of_toNat_eq
  simp; omega

theorem shr_nat (x : W) (k : Nat) : (shrW x k).toNat = x.toNat / 2 ^ k := by
  show (x >>> k).toNat = _
  rw [BitVec.toNat_ushiftRight, Nat.shiftRight_eq_div_pow]

theorem le_nat (x y : W) : leB .u64 x y = decide (x.toNat ≤ y.toNat) := rfl

theorem lenC_eq (c : Nat) (x : W) (h : x.toNat < 2 ^ 16) (hc : c ≤ 48) : lenC (BitVec.ofNat 64 c) x = BitVec.ofNat 64 (c + bl x.toNat) := by
  unfold lenC
  have e256 : (256#64 : W).toNat = 256 := rfl
  rw [le_nat, e256]
  by_cases hx : 256 ≤ x.toNat
  · have h8 : (shrW x 8).toNat = x.toNat / 2 ^ 8 := shr_nat x 8
    rw [decide_eq_true hx, cond_true, tabW_eq _ (by rw [h8]; omega), h8, bl_shift x.toNat 8 (by omega)]
    rw [← BitVec.ofNat_add, ← BitVec.ofNat_add]
    congr 1; omega
  · rw [decide_eq_false hx, cond_false, tabW_eq _ (by omega), ← BitVec.ofNat_add]

theorem lenB_eq (c : Nat) (x : W) (h : x.toNat < 2 ^ 32) (hc : c ≤ 32) : lenB (BitVec.ofNat 64 c) x = BitVec.ofNat 64 (c + bl x.toNat) := by
  unfold lenB
  have e : (65536#64 : W).toNat = 2 ^ 16 := rfl
  rw [le_nat, e]
  by_cases hx : 2 ^ 16 ≤ x.toNat
  · have h8 : (shrW x 16).toNat = x.toNat / 2 ^ 16 := shr_nat x 16
    have e2 : (BitVec.ofNat 64 c + 16#64 : W) = BitVec.ofNat 64 (c + 16) := by rw [← BitVec.ofNat_add]
    rw [decide_eq_true hx, cond_true, e2, lenC_eq _ _ (by rw [h8]; omega) (by omega), h8, bl_shift x.toNat 16 hx]
    congr 1; omega
  · rw [decide_eq_false hx, cond_false, lenC_eq _ _ (by omega) (by omega)]

theorem lenW_eq (x : W) : lenW x = BitVec.ofNat 64 (bl x.toNat) := by
  unfold lenW
  have e : (4294967296#64 : W).toNat = 2 ^ 32 := rfl
  rw [le_nat, e]
  by_cases hx : 2 ^ 32 ≤ x.toNat
  · have h8 : (shrW x 32).toNat = x.toNat / 2 ^ 32 := shr_nat x 32
    have := x.isLt
    rw [decide_eq_true hx, cond_true, lenB_eq 32 _ (by rw [h8]; omega) (by omega), h8, bl_shift x.toNat 32 hx]
    congr 1; omega
  · rw [decide_eq_false hx, cond_false, lenB_eq 0 _ (by omega) (by omega)]
    congr 1; omega

end Go.Rf.T

/- Laws of bits: what the document's loops make, bit by bit. -/
namespace Go.Rf.T

theorem shn_eq (n : W) : amt .u64 (convB .i64 .u64 n) = n.toNat := by
  show (n.signExtend 64).toNat = _
  rw [BitVec.signExtend_eq]

theorem bitB_eq (x i : W) : bitB x i = x.getLsbD i.toNat := by
  unfold bitB
  rw [shn_eq]
  show ((x >>> i.toNat) % 2#64 == 1#64) = _
  have e : (x >>> i.toNat) % 2#64 = if x.getLsbD i.toNat then 1#64 else 0#64 := by
    apply BitVec.eq_of_toNat_eq
    have hb : x.getLsbD i.toNat = decide (x.toNat / 2 ^ i.toNat % 2 = 1) := Nat.testBit_eq_decide_div_mod_eq
    have h2 : (2#64 : W).toNat = 2 := rfl
    simp only [BitVec.toNat_umod, BitVec.toNat_ushiftRight, Nat.shiftRight_eq_div_pow, h2, hb]
    rcases Nat.mod_two_eq_zero_or_one (x.toNat / 2 ^ i.toNat) with h | h <;> simp [h]
  rw [e]
  cases x.getLsbD i.toNat <;> rfl

/-- What bit j of t may be. -/
def mrk (t : Tn) (j : Nat) : W := if t.m.getLsbD j then 3#64 else if t.v.getLsbD j then 2#64 else 1#64

theorem markB_eq (t : Tn) (i : W) : markB t i = mrk t i.toNat := by
  unfold markB mrk
  rw [bitB_eq, bitB_eq]
  cases t.m.getLsbD i.toNat <;> cases t.v.getLsbD i.toNat <;> rfl

theorem mod_bit (k : Nat) (hk : k < 64) : (BitVec.twoPow 64 k : W) = 1#64 <<< k := by
  rw [BitVec.twoPow_eq]

theorem or_bit {x : W} {i : Nat} (hi : i < 64) (h : x.getLsbD i = false) : x + 1#64 <<< i = x ||| 1#64 <<< i := by
  apply BitVec.add_eq_or_of_and_eq_zero
  rw [← BitVec.twoPow_eq]
  apply BitVec.eq_of_getLsbD_eq
  intro j hj
  simp only [BitVec.getLsbD_and, BitVec.getLsbD_twoPow, BitVec.getLsbD_zero]
  by_cases e : i = j
  · subst e; simp [h]
  · simp [e]

theorem bit_or {x : W} {i : Nat} (hi : i < 64) (j : Nat) : (x ||| 1#64 <<< i).getLsbD j = (x.getLsbD j || decide (i = j)) := by
  rw [← BitVec.twoPow_eq, BitVec.getLsbD_or, BitVec.getLsbD_twoPow]
  by_cases e : i = j
  · subst e; simp [hi]
  · simp [e]

/-- After so many rounds. -/
def MadeS.P (l : Nat → W) (s : MadeS) : Prop :=
  s.inv ∧ s.l = l ∧ ∀ j, s.t.v.getLsbD j = (decide (j < s.i.toNat) && (l j == 2#64)) ∧ s.t.m.getLsbD j = (decide (j < s.i.toNat) && (l j == 3#64))

theorem MadeS.P_next (l : Nat → W) (s : MadeS) (hP : s.P l) (hg : s.go = true) : s.next.P l := by
    obtain ⟨hi, hl, hb⟩ := hP
    have hd := MadeS.dec s hi hg
    rw [MadeS.go_iff hi, decide_eq_true_eq] at hg
    have e : s.next.i.toNat = s.i.toNat + 1 := succ_nat (by omega)
    have eli : s.li = l s.i.toNat := by rw [MadeS.li, hl, ixN_nat (by omega)]
    have ebit : s.bit = 1#64 <<< s.i.toNat := by rw [MadeS.bit, shn_eq]
    refine ⟨hd.1, hl, fun j => ?_⟩
    rw [e]
    have hv := (hb s.i.toNat).1
    have hm := (hb s.i.toNat).2
    simp only [Nat.lt_irrefl, decide_false, Bool.false_and] at hv hm
    have hj1 := (hb j).1
    have hj2 := (hb j).2
    constructor
    · show (if s.is2 = true then s.t.v + s.bit else s.t.v).getLsbD j = _
      have e2 : s.is2 = (l s.i.toNat == 2#64) := by rw [MadeS.is2, eli]
      rw [e2, ebit]
      by_cases h2 : (l s.i.toNat == 2#64) = true
      · rw [if_pos h2, or_bit hg hv, bit_or hg, hj1]
        by_cases hjj : s.i.toNat = j
        · subst hjj; simp [h2]
        · have : decide (j < s.i.toNat + 1) = decide (j < s.i.toNat) := by
            rw [decide_eq_decide]; omega
          simp [hjj, this]
      · rw [if_neg h2, hj1]
        by_cases hjj : s.i.toNat = j
        · subst hjj; simp at h2; simp [h2]
        · have : decide (j < s.i.toNat + 1) = decide (j < s.i.toNat) := by
            rw [decide_eq_decide]; omega
          rw [this]
    · show (if s.is3 = true then s.t.m + s.bit else s.t.m).getLsbD j = _
      have e2 : s.is3 = (l s.i.toNat == 3#64) := by rw [MadeS.is3, eli]
      rw [e2, ebit]
      by_cases h2 : (l s.i.toNat == 3#64) = true
      · rw [if_pos h2, or_bit hg hm, bit_or hg, hj2]
        by_cases hjj : s.i.toNat = j
        · subst hjj; simp [h2]
        · have : decide (j < s.i.toNat + 1) = decide (j < s.i.toNat) := by
            rw [decide_eq_decide]; omega
          simp [hjj, this]
      · rw [if_neg h2, hj2]
        by_cases hjj : s.i.toNat = j
        · subst hjj; simp at h2; simp [h2]
        · have : decide (j < s.i.toNat + 1) = decide (j < s.i.toNat) := by
            rw [decide_eq_decide]; omega
          rw [this]

theorem MadeS.P_start (l : Nat → W) : MadeS.P l ⟨0#64, ⟨0#64, 0#64⟩, l⟩ :=
  ⟨by show (0#64 : W).toNat ≤ 64; decide, rfl, fun j => by
    have e : (0#64 : W).toNat = 0 := rfl
    simp [e]⟩

theorem made_bits (l : Nat → W) (j : Nat) (hj : j < 64) : (made l).v.getLsbD j = (l j == 2#64) ∧ (made l).m.getLsbD j = (l j == 3#64) := by
  have h0 := MadeS.P_start l
  unfold made
  generalize (⟨0#64, ⟨0#64, 0#64⟩, l⟩ : MadeS) = s0 at h0 ⊢
  have hend := runN_inv (go := MadeS.go) (next := MadeS.next) (MadeS.P l) (MadeS.P_next l) 64 s0 h0
  have hdone := runN_done (go := MadeS.go) (next := MadeS.next) (inv := MadeS.inv) (μ := MadeS.mu) MadeS.dec 64 s0 h0.1 (by simp only [MadeS.mu]; omega)
  generalize runN MadeS.go MadeS.next 64 s0 = s at hend hdone ⊢
  obtain ⟨k1, k2, k3⟩ := hend
  rw [MadeS.go_iff k1, decide_eq_false_iff_not] at hdone
  have := k3 j
  have hlt : j < s.i.toNat := by omega
  simp only [hlt, decide_true, Bool.true_and] at this
  exact this

theorem tn_ext {a b : Tn} (h : ∀ j, j < 64 → a.v.getLsbD j = b.v.getLsbD j ∧ a.m.getLsbD j = b.m.getLsbD j) : a = b :=
  Tn.ext' (BitVec.eq_of_getLsbD_eq fun j hj => (h j hj).1) (BitVec.eq_of_getLsbD_eq fun j hj => (h j hj).2)

theorem upd_same (l : Nat → W) (i : Nat) (v : W) : upd l i v i = v := by simp [upd]
theorem upd_upd (l : Nat → W) (i : Nat) (v w : W) : upd (upd l i v) i w = upd l i w := by
  funext j; simp only [upd]; split <;> rfl
theorem upd_self (l : Nat → W) (i : Nat) : upd l i (l i) = l := by
  funext j; simp only [upd]; split
  · rename_i h; rw [h]
  · rfl

/-- One cell of Bits. -/
def bstep (op p q n c : W) : W :=
  if (p &&& bitN (remB .i64 n 2#64) == 0#64) || (q &&& bitN (quoB .i64 n 2#64) == 0#64) then c
  else c ||| bitN (if op == 2#64 then remB .i64 n 2#64 ^^^ quoB .i64 n 2#64 else if op == 1#64 then remB .i64 n 2#64 ||| quoB .i64 n 2#64 else remB .i64 n 2#64 &&& quoB .i64 n 2#64)
def bcell (op p q : W) : W := bstep op p q 3#64 (bstep op p q 2#64 (bstep op p q 1#64 (bstep op p q 0#64 0#64)))

theorem bin_next (op : W) (a b : Tn) (i n c : W) (l : Nat → W) : BIn.next ⟨op, a, b, i, n, upd l (ixN i) c⟩ = ⟨op, a, b, i, n + 1#64, upd l (ixN i) (bstep op (markB a i) (markB b i) n c)⟩ := by
  unfold BIn.next
  simp only [BIn.skip, BIn.put, BIn.z, BIn.x, BIn.y, BIn.one, BIn.two, bstep, upd_same, upd_upd]
  split <;> rfl

theorem bin_run (op : W) (a b : Tn) (i : W) (l : Nat → W) (h0 : l (ixN i) = 0#64) : (runN BIn.go BIn.next 4 ⟨op, a, b, i, 0#64, l⟩).l = upd l (ixN i) (bcell op (markB a i) (markB b i)) := by
  have e : l = upd l (ixN i) 0#64 := by rw [← h0, upd_self]
  have g : ∀ (n c : W), ltB .i64 n 4#64 = true → BIn.go ⟨op, a, b, i, n, upd l (ixN i) c⟩ = true := fun n c h => h
  conv => lhs; rw [e]
  rw [runN_go (g 0#64 _ (by decide)), bin_next, runN_go (g _ _ (by decide)), bin_next, runN_go (g _ _ (by decide)), bin_next, runN_go (g _ _ (by decide)), bin_next]
  rfl

end Go.Rf.T

/- Laws of bits: what is done bit by bit is the document's; sums and differences are, too. -/
namespace Go.Rf.T

def BOut.P (op : W) (a b : Tn) (s : BOut) : Prop :=
  s.inv ∧ s.op = op ∧ s.a = a ∧ s.b = b ∧ ∀ j, s.l j = if j < s.i.toNat then bcell op (mrk a j) (mrk b j) else 0#64

theorem BOut.P_next (op : W) (a b : Tn) (s : BOut) (hP : s.P op a b) (hg : s.go = true) : s.next.P op a b := by
  obtain ⟨hi, rfl, rfl, rfl, hl⟩ := hP
  have hd := BOut.dec s hi hg
  have h' : s.i.toNat ≤ 64 := hi
  rw [BOut.go, ltB_nat (by omega) (by decide), decide_eq_true_eq] at hg
  have hg : s.i.toNat < 64 := hg
  obtain ⟨k1, k2, k3, k4⟩ := BIn.keep 4 ⟨s.op, s.a, s.b, s.i, 0#64, s.l⟩
  have hix : ixN s.i = s.i.toNat := ixN_nat (by omega)
  have hrun := bin_run s.op s.a s.b s.i s.l (by rw [hix, hl]; simp)
  have e : s.next.i = s.i + 1#64 := by unfold BOut.next BOut.inn; simp only [k4]
  have e2 : s.next.i.toNat = s.i.toNat + 1 := by rw [e]; exact succ_nat (by omega)
  refine ⟨hd.1, k1, k2, k3, fun j => ?_⟩
  have e3 : s.next.l = upd s.l (ixN s.i) (bcell s.op (markB s.a s.i) (markB s.b s.i)) := hrun
  rw [e3, e2, hix, markB_eq, markB_eq]
  simp only [upd, hl]
  by_cases h1 : j = s.i.toNat
  · subst h1; simp
  · by_cases h2 : j < s.i.toNat
    · have h3 : j < s.i.toNat + 1 := by omega
      simp [h1, h2, h3]
    · have h3 : ¬ j < s.i.toNat + 1 := by omega
      simp [h1, h2, h3]

theorem bitsL_eq (op : W) (a b : Tn) (j : Nat) (hj : j < 64) : bitsL op a b j = bcell op (mrk a j) (mrk b j) := by
  unfold bitsL
  have h0 : BOut.P op a b ⟨op, a, b, 0#64, fun _ => 0#64⟩ := ⟨by show (0#64 : W).toNat ≤ 64; decide, rfl, rfl, rfl, fun j => by
    have e : (0#64 : W).toNat = 0 := rfl
    simp [e]⟩
  generalize (⟨op, a, b, 0#64, fun _ => 0#64⟩ : BOut) = s0 at h0 ⊢
  have hend := runN_inv (go := BOut.go) (next := BOut.next) (BOut.P op a b) (BOut.P_next op a b) 64 s0 h0
  have hdone := runN_done (go := BOut.go) (next := BOut.next) (inv := BOut.inv) (μ := BOut.mu) BOut.dec 64 s0 h0.1 (by simp only [BOut.mu]; omega)
  generalize runN BOut.go BOut.next 64 s0 = s at hend hdone ⊢
  obtain ⟨k1, _, _, _, k3⟩ := hend
  have h' : s.i.toNat ≤ 64 := k1
  rw [BOut.go, ltB_nat (by omega) (by decide), decide_eq_false_iff_not] at hdone
  have hdone : ¬ s.i.toNat < 64 := hdone
  have hlt : j < s.i.toNat := by omega
  rw [k3, if_pos hlt]

theorem mk_cases {t : Tn} (h : may t = true) (j : Nat) : (t.m.getLsbD j = true ∧ t.v.getLsbD j = false ∧ mrk t j = 3#64) ∨ (t.m.getLsbD j = false ∧ t.v.getLsbD j = true ∧ mrk t j = 2#64) ∨ (t.m.getLsbD j = false ∧ t.v.getLsbD j = false ∧ mrk t j = 1#64) := by
  have := may_bit h j
  unfold mrk
  cases hm : t.m.getLsbD j <;> cases hv : t.v.getLsbD j <;> simp_all

theorem ref_and {a b : Tn} (ha : may a = true) (hb : may b = true) : made (bitsL 0#64 a b) = tAnd a b := by
  refine tn_ext fun j hj => ?_
  rw [(made_bits _ j hj).1, (made_bits _ j hj).2, bitsL_eq _ _ _ j hj]
  simp only [tAnd, BitVec.getLsbD_and, BitVec.getLsbD_or, BitVec.getLsbD_not, hj, decide_true, Bool.true_and]
  rcases mk_cases ha j with ⟨h1, h2, h3⟩ | ⟨h1, h2, h3⟩ | ⟨h1, h2, h3⟩ <;> rcases mk_cases hb j with ⟨h4, h5, h6⟩ | ⟨h4, h5, h6⟩ | ⟨h4, h5, h6⟩ <;>
    rw [h1, h2, h3, h4, h5, h6] <;> exact ⟨by kernel_rfl, by kernel_rfl⟩

theorem ref_or {a b : Tn} (ha : may a = true) (hb : may b = true) : made (bitsL 1#64 a b) = tOr a b := by
  refine tn_ext fun j hj => ?_
  rw [(made_bits _ j hj).1, (made_bits _ j hj).2, bitsL_eq _ _ _ j hj]
  simp only [tOr, BitVec.getLsbD_and, BitVec.getLsbD_or, BitVec.getLsbD_not, hj, decide_true, Bool.true_and]
  rcases mk_cases ha j with ⟨h1, h2, h3⟩ | ⟨h1, h2, h3⟩ | ⟨h1, h2, h3⟩ <;> rcases mk_cases hb j with ⟨h4, h5, h6⟩ | ⟨h4, h5, h6⟩ | ⟨h4, h5, h6⟩ <;>
    rw [h1, h2, h3, h4, h5, h6] <;> exact ⟨by kernel_rfl, by kernel_rfl⟩

theorem ref_xor {a b : Tn} (ha : may a = true) (hb : may b = true) : made (bitsL 2#64 a b) = tXor a b := by
  refine tn_ext fun j hj => ?_
  rw [(made_bits _ j hj).1, (made_bits _ j hj).2, bitsL_eq _ _ _ j hj]
  simp only [tXor, fit, BitVec.getLsbD_and, BitVec.getLsbD_or, BitVec.getLsbD_xor, BitVec.getLsbD_not, hj, decide_true, Bool.true_and]
  rcases mk_cases ha j with ⟨h1, h2, h3⟩ | ⟨h1, h2, h3⟩ | ⟨h1, h2, h3⟩ <;> rcases mk_cases hb j with ⟨h4, h5, h6⟩ | ⟨h4, h5, h6⟩ | ⟨h4, h5, h6⟩ <;>
    rw [h1, h2, h3, h4, h5, h6] <;> exact ⟨by kernel_rfl, by kernel_rfl⟩

/-! Carries. -/

/-- One round of Carried, on one cell: what the bit may be, what the next carry may be. -/
def cskip (p q c n : W) : Bool := (p &&& bitN (remB .i64 n 2#64) == 0#64) || (q &&& bitN (remB .i64 (quoB .i64 n 2#64) 2#64) == 0#64) || (c &&& bitN (quoB .i64 n 4#64) == 0#64)
def cx (n : W) : W := remB .i64 n 2#64
def cy (n : W) : W := remB .i64 (quoB .i64 n 2#64) 2#64
def cc (n : W) : W := quoB .i64 n 4#64
def cover (less : Bool) (n : W) : W := if less then (if ltB .i64 (cx n) (cy n + cc n) then 1#64 else 0#64) else quoB .i64 (cx n + cy n + cc n) 2#64
def cstep (less : Bool) (p q c n : W) (x : W × W) : W × W :=
  if cskip p q c n then x else (x.1 ||| bitN (cx n + cy n + cc n), x.2 ||| bitN (cover less n))
def ccell (less : Bool) (p q c : W) : W × W :=
  cstep less p q c 7#64 (cstep less p q c 6#64 (cstep less p q c 5#64 (cstep less p q c 4#64 (cstep less p q c 3#64 (cstep less p q c 2#64 (cstep less p q c 1#64 (cstep less p q c 0#64 (0#64, 0#64))))))))

theorem cin_next (a b : Tn) (less : Bool) (c i n : W) (l : Nat → W) (x : W × W) :
    CIn.nxt ⟨a, b, less, c, i, x.2, n, upd l (ixN i) x.1⟩ = ⟨a, b, less, c, i, (cstep less (markB a i) (markB b i) c n x).2, n + 1#64, upd l (ixN i) (cstep less (markB a i) (markB b i) c n x).1⟩ := by
  have hs : CIn.skip ⟨a, b, less, c, i, x.2, n, upd l (ixN i) x.1⟩ = cskip (markB a i) (markB b i) c n := rfl
  unfold CIn.nxt cstep
  rw [hs]
  by_cases h : cskip (markB a i) (markB b i) c n = true
  · simp only [if_pos h]
  · simp only [if_neg h, CIn.put, upd_same, upd_upd]
    rfl

theorem cin_run (a b : Tn) (less : Bool) (c i : W) (l : Nat → W) (h0 : l (ixN i) = 0#64) :
    (runN CIn.go CIn.nxt 8 ⟨a, b, less, c, i, 0#64, 0#64, l⟩).l = upd l (ixN i) (ccell less (markB a i) (markB b i) c).1 ∧
    (runN CIn.go CIn.nxt 8 ⟨a, b, less, c, i, 0#64, 0#64, l⟩).next = (ccell less (markB a i) (markB b i) c).2 := by
  have e : (⟨a, b, less, c, i, 0#64, 0#64, l⟩ : CIn) = ⟨a, b, less, c, i, ((0#64, 0#64) : W × W).2, 0#64, upd l (ixN i) ((0#64, 0#64) : W × W).1⟩ := by
    simp only [← h0, upd_self]
  have g : ∀ (n y : W) (m : Nat → W), ltB .i64 n 8#64 = true → CIn.go ⟨a, b, less, c, i, y, n, m⟩ = true := fun n y m h => h
  rw [e]
  rw [runN_go (g 0#64 _ _ (by decide)), cin_next, runN_go (g _ _ _ (by decide)), cin_next, runN_go (g _ _ _ (by decide)), cin_next, runN_go (g _ _ _ (by decide)), cin_next,
    runN_go (g _ _ _ (by decide)), cin_next, runN_go (g _ _ _ (by decide)), cin_next, runN_go (g _ _ _ (by decide)), cin_next, runN_go (g _ _ _ (by decide)), cin_next]
  exact ⟨rfl, rfl⟩

/-- The least and the greatest carry, as a mark. -/
def cmk (lo hi : Bool) : W := if lo then 2#64 else if hi then 3#64 else 1#64

def mkB (m v : Bool) : W := if m then 3#64 else if v then 2#64 else 1#64
def alt (x y z : Bool) : Bool := x && y || x && z || y && z

theorem car_add : ∀ am av bm bv lo hi : Bool, (av && am) = false → (bv && bm) = false → (lo && !hi) = false →
    ccell false (mkB am av) (mkB bm bv) (cmk lo hi) = (mkB (am || bm || (lo ^^ hi)) (av ^^ (bv ^^ lo)), cmk (alt av bv lo) (alt (av || am) (bv || bm) hi)) := by
  intro am av bm bv lo hi h1 h2 h3
  cases am <;> cases av <;> first | (simp at h1; done) | skip
  all_goals (cases bm <;> cases bv <;> first | (simp at h2; done) | skip)
  all_goals (cases lo <;> cases hi <;> first | (simp at h3; done) | skip)
  all_goals kernel_rfl

theorem car_sub : ∀ am av bm bv lo hi : Bool, (av && am) = false → (bv && bm) = false → (lo && !hi) = false →
    ccell true (mkB am av) (mkB bm bv) (cmk lo hi) = (mkB (am || bm || (lo ^^ hi)) (av ^^ (bv ^^ lo)), cmk (alt (!(av || am)) bv lo) (alt (!av) (bv || bm) hi)) := by
  intro am av bm bv lo hi h1 h2 h3
  cases am <;> cases av <;> first | (simp at h1; done) | skip
  all_goals (cases bm <;> cases bv <;> first | (simp at h2; done) | skip)
  all_goals (cases lo <;> cases hi <;> first | (simp at h3; done) | skip)
  all_goals kernel_rfl

/-- The least and the greatest carries of a sum, or a difference. -/
structure Cars (less : Bool) (a b : Tn) (lo hi : Nat → Bool) : Prop where
  l0 : lo 0 = false
  h0 : hi 0 = false
  le : ∀ j, (lo j && !hi j) = false
  sl : ∀ j, lo (j + 1) = if less then alt (!(a.v.getLsbD j || a.m.getLsbD j)) (b.v.getLsbD j) (lo j) else alt (a.v.getLsbD j) (b.v.getLsbD j) (lo j)
  sh : ∀ j, hi (j + 1) = if less then alt (!a.v.getLsbD j) (b.v.getLsbD j || b.m.getLsbD j) (hi j) else alt (a.v.getLsbD j || a.m.getLsbD j) (b.v.getLsbD j || b.m.getLsbD j) (hi j)

theorem Cars.cell {less : Bool} {a b : Tn} {lo hi : Nat → Bool} (h : Cars less a b lo hi) (ha : may a = true) (hb : may b = true) (j : Nat) :
    ccell less (mrk a j) (mrk b j) (cmk (lo j) (hi j)) = (mkB (a.m.getLsbD j || b.m.getLsbD j || (lo j ^^ hi j)) (a.v.getLsbD j ^^ (b.v.getLsbD j ^^ lo j)), cmk (lo (j + 1)) (hi (j + 1))) := by
  rw [h.sl, h.sh]
  cases less with
  | false => exact car_add _ _ _ _ _ _ (may_bit ha j) (may_bit hb j) (h.le j)
  | true => exact car_sub _ _ _ _ _ _ (may_bit ha j) (may_bit hb j) (h.le j)

def COut.P (less : Bool) (a b : Tn) (lo hi : Nat → Bool) (s : COut) : Prop :=
  s.inv ∧ s.a = a ∧ s.b = b ∧ s.less = less ∧ s.carry = cmk (lo s.i.toNat) (hi s.i.toNat) ∧
    ∀ j, s.l j = if j < s.i.toNat then mkB (a.m.getLsbD j || b.m.getLsbD j || (lo j ^^ hi j)) (a.v.getLsbD j ^^ (b.v.getLsbD j ^^ lo j)) else 0#64

theorem COut.P_next {less : Bool} {a b : Tn} {lo hi : Nat → Bool} (hc : Cars less a b lo hi) (ha : may a = true) (hb : may b = true) (s : COut) (hP : s.P less a b lo hi) (hg : s.go = true) : s.nxt.P less a b lo hi := by
  obtain ⟨hi', rfl, rfl, rfl, hcar, hl⟩ := hP
  have hd := COut.dec s hi' hg
  have h' : s.i.toNat ≤ 64 := hi'
  rw [COut.go, ltB_nat (by omega) (by decide), decide_eq_true_eq] at hg
  have hg : s.i.toNat < 64 := hg
  obtain ⟨k1, k2, k3, _, k4⟩ := CIn.keep 8 ⟨s.a, s.b, s.less, s.carry, s.i, 0#64, 0#64, s.l⟩
  have hix : ixN s.i = s.i.toNat := ixN_nat (by omega)
  have hrun := cin_run s.a s.b s.less s.carry s.i s.l (by rw [hix, hl]; simp)
  rw [markB_eq, markB_eq, hcar, hc.cell ha hb] at hrun
  have e : s.nxt.i = s.i + 1#64 := by unfold COut.nxt COut.inn; simp only [k4]
  have e2 : s.nxt.i.toNat = s.i.toNat + 1 := by rw [e]; exact succ_nat (by omega)
  refine ⟨hd.1, k1, k2, k3, ?_, fun j => ?_⟩
  · rw [e2]
    show (COut.inn s).next = _
    unfold COut.inn
    rw [hcar]
    exact hrun.2
  · have e3 : s.nxt.l = upd s.l (ixN s.i) (mkB (s.a.m.getLsbD s.i.toNat || s.b.m.getLsbD s.i.toNat || (lo s.i.toNat ^^ hi s.i.toNat)) (s.a.v.getLsbD s.i.toNat ^^ (s.b.v.getLsbD s.i.toNat ^^ lo s.i.toNat))) := by
      show (COut.inn s).l = _
      unfold COut.inn
      rw [hcar]
      exact hrun.1
    rw [e3, e2, hix]
    simp only [upd, hl]
    by_cases h1 : j = s.i.toNat
    · subst h1; simp
    · by_cases h2 : j < s.i.toNat
      · have h3 : j < s.i.toNat + 1 := by omega
        simp [h1, h2, h3]
      · have h3 : ¬ j < s.i.toNat + 1 := by omega
        simp [h1, h2, h3]

theorem carL_eq {less : Bool} {a b : Tn} {lo hi : Nat → Bool} (hc : Cars less a b lo hi) (ha : may a = true) (hb : may b = true) (j : Nat) (hj : j < 64) :
    carL a b less j = mkB (a.m.getLsbD j || b.m.getLsbD j || (lo j ^^ hi j)) (a.v.getLsbD j ^^ (b.v.getLsbD j ^^ lo j)) := by
  unfold carL
  have h0 : COut.P less a b lo hi ⟨a, b, less, 1#64, 0#64, fun _ => 0#64⟩ := ⟨by show (0#64 : W).toNat ≤ 64; decide, rfl, rfl, rfl, by
    have e : (0#64 : W).toNat = 0 := rfl
    simp only [e, hc.l0, hc.h0]; rfl, fun j => by
    have e : (0#64 : W).toNat = 0 := rfl
    simp [e]⟩
  generalize (⟨a, b, less, 1#64, 0#64, fun _ => 0#64⟩ : COut) = s0 at h0 ⊢
  have hend := runN_inv (go := COut.go) (next := COut.nxt) (COut.P less a b lo hi) (COut.P_next hc ha hb) 64 s0 h0
  have hdone := runN_done (go := COut.go) (next := COut.nxt) (inv := COut.inv) (μ := COut.mu) COut.dec 64 s0 h0.1 (by simp only [COut.mu]; omega)
  generalize runN COut.go COut.nxt 64 s0 = s at hend hdone ⊢
  obtain ⟨k1, _, _, _, _, k3⟩ := hend
  have h' : s.i.toNat ≤ 64 := k1
  rw [COut.go, ltB_nat (by omega) (by decide), decide_eq_false_iff_not] at hdone
  have hdone : ¬ s.i.toNat < 64 := hdone
  have hlt : j < s.i.toNat := by omega
  rw [k3, if_pos hlt]

theorem mkB_is (m v : Bool) : (mkB m v == 2#64) = (!m && v) ∧ (mkB m v == 3#64) = m := by cases m <;> cases v <;> exact ⟨by decide, by decide⟩

theorem carry_s (x y : W) (j : Nat) : BitVec.carry (j + 1) x y false = alt (x.getLsbD j) (y.getLsbD j) (BitVec.carry j x y false) := by
  rw [BitVec.carry_succ]
  cases x.getLsbD j <;> cases y.getLsbD j <;> cases BitVec.carry j x y false <;> rfl

theorem bor_s (x y : W) (j : Nat) : bor (j + 1) x y = alt (!x.getLsbD j) (y.getLsbD j) (bor j x y) := by
  have key : ∀ z : W, z.toNat % 2 ^ (j + 1) = z.toNat % 2 ^ j + 2 ^ j * (z.getLsbD j).toNat := by
    intro z
    rw [Nat.mod_pow_succ]
    have hb : z.getLsbD j = decide (z.toNat / 2 ^ j % 2 = 1) := Nat.testBit_eq_decide_div_mod_eq
    rw [hb]
    rcases Nat.mod_two_eq_zero_or_one (z.toNat / 2 ^ j) with h | h <;> simp [h]
  have h1 := Nat.mod_lt x.toNat (Nat.two_pow_pos j)
  have h2 := Nat.mod_lt y.toNat (Nat.two_pow_pos j)
  simp only [bor, key]
  generalize x.toNat % 2 ^ j = p at *
  generalize y.toNat % 2 ^ j = q at *
  generalize 2 ^ j = m at *
  cases x.getLsbD j <;> cases y.getLsbD j <;> simp [alt] <;> omega

theorem ref_add {a b : Tn} (ha : may a = true) (hb : may b = true) : made (carL a b false) = tAdd a b := by
  have hc : Cars false a b (fun j => BitVec.carry j a.v b.v false) (fun j => BitVec.carry j (a.v ||| a.m) (b.v ||| b.m) false) := by
    refine ⟨by simp [BitVec.carry_zero], by simp [BitVec.carry_zero], fun j => ?_, fun j => by simpa using carry_s _ _ _, fun j => by simpa using carry_s (a.v ||| a.m) (b.v ||| b.m) j⟩
    have := carry_mono (x := a.v) (x' := a.v ||| a.m) (y := b.v) (y' := b.v ||| b.m) (fun i h => by simp [h]) (fun i h => by simp [h]) j
    cases h1 : BitVec.carry j a.v b.v false <;> simp_all
  have e : a.v + b.v + a.m + b.m = (a.v ||| a.m) + (b.v ||| b.m) := by
    rw [← may_add ha, ← may_add hb]; ac_rfl
  refine tn_ext fun j hj => ?_
  rw [(made_bits _ j hj).1, (made_bits _ j hj).2, carL_eq hc ha hb j hj, (mkB_is _ _).1, (mkB_is _ _).2]
  simp only [tAdd, fit, BitVec.getLsbD_and, BitVec.getLsbD_or, BitVec.getLsbD_xor, BitVec.getLsbD_not, hj, decide_true, Bool.true_and, e, bit_add _ _ j hj]
  generalize BitVec.carry j a.v b.v false = p
  generalize BitVec.carry j (a.v ||| a.m) (b.v ||| b.m) false = q
  cases a.v.getLsbD j <;> cases a.m.getLsbD j <;> cases b.v.getLsbD j <;> cases b.m.getLsbD j <;> cases p <;> cases q <;> exact ⟨rfl, rfl⟩

theorem ref_sub {a b : Tn} (ha : may a = true) (hb : may b = true) : made (carL a b true) = tSub a b := by
  have hc : Cars true a b (fun j => bor j (a.v ||| a.m) b.v) (fun j => bor j a.v (b.v ||| b.m)) := by
    refine ⟨by simp [bor, Nat.mod_one], by simp [bor, Nat.mod_one], fun j => ?_, fun j => by simpa using bor_s (a.v ||| a.m) b.v j, fun j => by simpa using bor_s a.v (b.v ||| b.m) j⟩
    have := bor_mono (x := a.v ||| a.m) (x' := a.v) (y := b.v) (y' := b.v ||| b.m) (fun i h => by simp [h]) (fun i h => by simp [h]) j
    cases h1 : bor j (a.v ||| a.m) b.v <;> simp_all
  have e1 : a.v - b.v + a.m = (a.v ||| a.m) - b.v := by
    rw [← may_add ha, BitVec.sub_add_comm]
  have e2 : a.v - b.v - b.m = a.v - (b.v ||| b.m) := by
    rw [← may_add hb, BitVec.sub_sub]
  refine tn_ext fun j hj => ?_
  rw [(made_bits _ j hj).1, (made_bits _ j hj).2, carL_eq hc ha hb j hj, (mkB_is _ _).1, (mkB_is _ _).2]
  have c3 := bor_mono (x := a.v ||| a.m) (x' := a.v) (y := b.v) (y' := b.v) (fun j hj => by simp [hj]) (fun _ h => h) j
  have c4 := bor_mono (x := a.v) (x' := a.v) (y := b.v) (y' := b.v ||| b.m) (fun _ h => h) (fun j hj => by simp [hj]) j
  simp only [tSub, fit, BitVec.getLsbD_and, BitVec.getLsbD_or, BitVec.getLsbD_xor, BitVec.getLsbD_not, hj, decide_true, Bool.true_and, e1, e2, bit_sub _ _ j hj]
  generalize bor j (a.v ||| a.m) b.v = p at *
  generalize bor j a.v (b.v ||| b.m) = q at *
  generalize bor j a.v b.v = r at *
  cases a.v.getLsbD j <;> cases a.m.getLsbD j <;> cases b.v.getLsbD j <;> cases b.m.getLsbD j <;> cases p <;> cases q <;> cases r <;> first | exact ⟨rfl, rfl⟩ | (simp at c3 c4; done)

end Go.Rf.T

/- Laws of bits: what is shifted and cut is the document's; products, too. -/
namespace Go.Rf.T

theorem lt_int (x y : W) : ltB .i64 x y = decide (x.toInt < y.toInt) := by
  have e : ltB .i64 x y = x.slt y := rfl
  rw [e, BitVec.slt_eq_decide]
theorem le_int (x y : W) : leB .i64 x y = decide (x.toInt ≤ y.toInt) := by
  have e : leB .i64 x y = x.sle y := rfl
  rw [e, BitVec.sle_eq_decide]

theorem add_int {x y : W} (h1 : -4611686018427387904 ≤ x.toInt + y.toInt) (h2 : x.toInt + y.toInt ≤ 4611686018427387904) : (x + y).toInt = x.toInt + y.toInt := by
  rw [BitVec.toInt_add]
  exact Int.bmod_eq_of_le (by omega) (by omega)

theorem neg_int {x : W} (h1 : -4611686018427387904 ≤ x.toInt) (h2 : x.toInt ≤ 4611686018427387904) : (-x).toInt = -x.toInt := by
  rw [BitVec.toInt_neg]
  exact Int.bmod_eq_of_le (by omega) (by omega)

theorem ofNat_int (j : Nat) (hj : j ≤ 64) : (BitVec.ofNat 64 j : W).toInt = j := by
  rw [BitVec.toInt_eq_toNat_of_lt] <;> simp <;> omega

theorem nat_of_int {x : W} {n : Nat} (h : x.toInt = (n : Int)) : x.toNat = n := by
  rw [BitVec.toInt_eq_toNat_cond] at h
  have := x.isLt
  split at h <;> omega

theorem int_of_nat {x : W} (h : x.toNat ≤ 64) : x.toInt = (x.toNat : Int) := BitVec.toInt_eq_toNat_of_lt (by omega)

def mvcell (t : Tn) (b z m i : W) : W :=
  let a := if leB .i64 0#64 m && ltB .i64 m (i + b) then m else i + b
  if ltB .i64 i z && leB .i64 0#64 a && ltB .i64 a 64#64 then markB t a else 1#64

theorem mv_next (s : MvS) : s.nxt.l = upd s.l (ixN s.i) (mvcell s.t s.by' s.size s.most s.i) := by
  unfold MvS.nxt MvS.put mvcell
  have e : s.at' = if leB .i64 0#64 s.most && ltB .i64 s.most (s.i + s.by') then s.most else s.i + s.by' := rfl
  simp only [← e]
  have e2 : s.fits s.at' = (ltB .i64 s.i s.size && leB .i64 0#64 s.at' && ltB .i64 s.at' 64#64) := rfl
  rw [← e2]
  by_cases h : s.fits s.at' = true
  · simp only [if_pos h, MvS.mk2, MvS.one, upd_upd]
  · simp only [if_neg h, MvS.one]

def MvS.P (t : Tn) (b z m : W) (s : MvS) : Prop :=
  s.inv ∧ s.t = t ∧ s.by' = b ∧ s.size = z ∧ s.most = m ∧ ∀ j, s.l j = if j < s.i.toNat then mvcell t b z m (BitVec.ofNat 64 j) else 0#64

theorem MvS.P_next (t : Tn) (b z m : W) (s : MvS) (hP : s.P t b z m) (hg : s.go = true) : s.nxt.P t b z m := by
  obtain ⟨hi, rfl, rfl, rfl, rfl, hl⟩ := hP
  have hd := MvS.dec s hi hg
  have h' : s.i.toNat ≤ 64 := hi
  rw [MvS.go, ltB_nat (by omega) (by decide), decide_eq_true_eq] at hg
  have hg : s.i.toNat < 64 := hg
  have hix : ixN s.i = s.i.toNat := ixN_nat (by omega)
  have e2 : s.nxt.i.toNat = s.i.toNat + 1 := succ_nat (by omega)
  refine ⟨hd.1, rfl, rfl, rfl, rfl, fun j => ?_⟩
  rw [mv_next, e2, hix]
  simp only [upd, hl]
  by_cases h1 : j = s.i.toNat
  · subst h1; simp
  · by_cases h2 : j < s.i.toNat
    · have h3 : j < s.i.toNat + 1 := by omega
      simp [h1, h2, h3]
    · have h3 : ¬ j < s.i.toNat + 1 := by omega
      simp [h1, h2, h3]

theorem mvL_eq (t : Tn) (b z m : W) (j : Nat) (hj : j < 64) : mvL t b z m j = mvcell t b z m (BitVec.ofNat 64 j) := by
  unfold mvL
  have h0 : MvS.P t b z m ⟨t, b, z, m, 0#64, fun _ => 0#64⟩ := ⟨by show (0#64 : W).toNat ≤ 64; decide, rfl, rfl, rfl, rfl, fun j => by
    have e : (0#64 : W).toNat = 0 := rfl
    simp [e]⟩
  generalize (⟨t, b, z, m, 0#64, fun _ => 0#64⟩ : MvS) = s0 at h0 ⊢
  have hend := runN_inv (go := MvS.go) (next := MvS.nxt) (MvS.P t b z m) (MvS.P_next t b z m) 64 s0 h0
  have hdone := runN_done (go := MvS.go) (next := MvS.nxt) (inv := MvS.inv) (μ := MvS.mu) MvS.dec 64 s0 h0.1 (by simp only [MvS.mu]; omega)
  generalize runN MvS.go MvS.nxt 64 s0 = s at hend hdone ⊢
  obtain ⟨k1, _, _, _, _, k3⟩ := hend
  have h' : s.i.toNat ≤ 64 := k1
  rw [MvS.go, ltB_nat (by omega) (by decide), decide_eq_false_iff_not] at hdone
  have hdone : ¬ s.i.toNat < 64 := hdone
  have hlt : j < s.i.toNat := by omega
  rw [k3, if_pos hlt]

/-- The bits of what is made of marks, each off some bit of t, or 0. -/
theorem made_off {t : Tn} (ht : may t = true) (l : Nat → W) (k : Nat → Option Nat) (h : ∀ j, j < 64 → l j = match k j with | some i => mrk t i | none => 1#64) (j : Nat) (hj : j < 64) :
    (made l).v.getLsbD j = (match k j with | some i => t.v.getLsbD i | none => false) ∧ (made l).m.getLsbD j = (match k j with | some i => t.m.getLsbD i | none => false) := by
  rw [(made_bits _ j hj).1, (made_bits _ j hj).2, h j hj]
  cases k j with
  | none => exact ⟨by simp, by simp⟩
  | some i => rcases mk_cases ht i with ⟨h1, h2, h3⟩ | ⟨h1, h2, h3⟩ | ⟨h1, h2, h3⟩ <;> simp only [h1, h2, h3] <;> exact ⟨by decide, by decide⟩

theorem low_cell (t : Tn) (b z : W) (j : Nat) (hj : j < 64) (hb : -64 ≤ b.toInt ∧ b.toInt ≤ 64) :
    mvcell t b z (-1#64) (BitVec.ofNat 64 j) = if (j : Int) < z.toInt ∧ 0 ≤ (j : Int) + b.toInt ∧ (j : Int) + b.toInt < 64 then mrk t ((j : Int) + b.toInt).toNat else 1#64 := by
  have hj' := ofNat_int j (by omega)
  have e : (BitVec.ofNat 64 j + b).toInt = j + b.toInt := by rw [add_int] <;> rw [hj'] <;> omega
  have c0 : leB .i64 0#64 (-1#64) = false := by decide
  have z0 : (0#64 : W).toInt = 0 := rfl
  have z64 : (64#64 : W).toInt = 64 := rfl
  simp only [mvcell, c0, Bool.false_and, Bool.false_eq_true, if_false, lt_int, le_int, hj', e, z0, z64, Bool.and_eq_true, decide_eq_true_eq]
  by_cases h : (j : Int) < z.toInt ∧ 0 ≤ (j : Int) + b.toInt ∧ (j : Int) + b.toInt < 64
  · rw [if_pos ⟨⟨h.1, h.2.1⟩, h.2.2⟩, if_pos h, markB_eq]
    congr 1
    exact nat_of_int (by rw [e]; omega)
  · rw [if_neg (fun k => h ⟨k.1.1, k.1.2, k.2⟩), if_neg h]

theorem shr_eq (x : W) (n : Nat) : shrB .u64 x n = x >>> n := rfl

theorem ref_lsh {t : Tn} {n : W} (ht : may t = true) (h0 : 0 ≤ n.toInt) (h63 : n.toInt ≤ 63) : made (mvL t (-n) 64#64 (-1#64)) = tLsh t n := by
  have hn : n.toInt = (n.toNat : Int) := by
    have := nat_of_int (x := n) (n := n.toInt.toNat) (by omega); omega
  have hneg := neg_int (x := n) (by omega) (by omega)
  have z64 : (64#64 : W).toInt = 64 := rfl
  refine tn_ext fun j hj => ?_
  have := made_off ht (mvL t (-n) 64#64 (-1#64)) (fun j => if n.toNat ≤ j then some (j - n.toNat) else none) (fun j hj => by
    rw [mvL_eq _ _ _ _ j hj, low_cell t (-n) 64#64 j hj (by omega), hneg, z64]
    by_cases h : n.toNat ≤ j
    · rw [if_pos (by omega), if_pos h]
      have : ((j : Int) + -n.toInt).toNat = j - n.toNat := by omega
      rw [this]
    · rw [if_neg (by omega), if_neg h]) j hj
  rw [this.1, this.2]
  simp only [tLsh, shn, shn_eq, BitVec.getLsbD_shiftLeft, hj, decide_true, Bool.true_and]
  by_cases h : n.toNat ≤ j
  · have h2 : ¬ j < n.toNat := by omega
    simp [h, h2]
  · have h2 : j < n.toNat := by omega
    simp [h, h2]

theorem ref_rsh {t : Tn} {n : W} (ht : may t = true) (h0 : 0 ≤ n.toInt) (h63 : n.toInt ≤ 63) : made (mvL t n 64#64 (-1#64)) = tRsh t n := by
  have hn : n.toInt = (n.toNat : Int) := by
    have := nat_of_int (x := n) (n := n.toInt.toNat) (by omega); omega
  have z64 : (64#64 : W).toInt = 64 := rfl
  refine tn_ext fun j hj => ?_
  have := made_off ht (mvL t n 64#64 (-1#64)) (fun j => if j + n.toNat < 64 then some (j + n.toNat) else none) (fun j hj => by
    rw [mvL_eq _ _ _ _ j hj, low_cell t n 64#64 j hj (by omega), z64]
    by_cases h : j + n.toNat < 64
    · rw [if_pos (by omega), if_pos h]
      have : ((j : Int) + n.toInt).toNat = j + n.toNat := by omega
      rw [this]
    · rw [if_neg (by omega), if_neg h]) j hj
  rw [this.1, this.2]
  simp only [tRsh, shn, shn_eq, shr_eq, BitVec.getLsbD_ushiftRight]
  by_cases h : j + n.toNat < 64
  · simp [h, Nat.add_comm]
  · have e : ∀ x : W, x.getLsbD (n.toNat + j) = false := fun x => BitVec.getLsbD_of_ge _ _ (by omega)
    simp [h, e]

theorem low_bit (s : W) (hs : s.toNat < 64) (j : Nat) (hj : j < 64) : (low s).getLsbD j = decide (j < s.toNat) := by
  have e : low s = BitVec.ofNat 64 (2 ^ s.toNat - 1) := by
    unfold low shn
    rw [shn_eq]
    apply BitVec.eq_of_toNat_eq
    have hp : 2 ^ s.toNat < 2 ^ 64 := Nat.pow_lt_pow_right (by decide) hs
    have h1 : (1#64 <<< s.toNat : W).toNat = 2 ^ s.toNat := by
      rw [BitVec.toNat_shiftLeft]
      simp only [Nat.shiftLeft_eq]
      have : (1#64 : W).toNat = 1 := rfl
      rw [this, Nat.one_mul, Nat.mod_eq_of_lt hp]
    have h0 : 0 < 2 ^ s.toNat := Nat.two_pow_pos _
    rw [BitVec.toNat_sub_of_le (by rw [BitVec.le_def, h1]; exact h0), h1]
    simp only [BitVec.toNat_ofNat]
    have : (1#64 : W).toNat = 1 := rfl
    omega
  rw [e, BitVec.getLsbD_ofNat, Nat.testBit_two_pow_sub_one]
  simp [hj]

theorem ref_cut {t : Tn} {s : W} (ht : may t = true) (hs : s = 8#64 ∨ s = 16#64 ∨ s = 32#64 ∨ s = 64#64) : made (mvL t 0#64 s (-1#64)) = tCut t s := by
  have z0 : (0#64 : W).toInt = 0 := rfl
  have hsz : s.toInt = (s.toNat : Int) := by rcases hs with rfl | rfl | rfl | rfl <;> rfl
  refine tn_ext fun j hj => ?_
  have := made_off ht (mvL t 0#64 s (-1#64)) (fun j => if j < s.toNat then some j else none) (fun j hj => by
    rw [mvL_eq _ _ _ _ j hj, low_cell t 0#64 s j hj (by rw [z0]; omega), z0]
    by_cases h : j < s.toNat
    · rw [if_pos (by omega), if_pos h]
      simp
    · rw [if_neg (by omega), if_neg h]) j hj
  rw [this.1, this.2]
  have n1 : (!may t) = false := by rw [ht]; rfl
  by_cases h64 : s = 64#64
  · subst h64
    have e : tCut t 64#64 = t := by simp [tCut, Tn.mux, n1]
    have : (64#64 : W).toNat = 64 := rfl
    rw [e, this]
    simp [hj]
  · have sm : small s = true := by rcases hs with rfl | rfl | rfl | rfl <;> first | rfl | exact absurd rfl h64
    have n64 : (s == 64#64) = false := by simpa using h64
    have e : tCut t s = ⟨t.v &&& low s, t.m &&& low s⟩ := by simp only [tCut, Tn.mux, n1, n64, sm, cond_true, cond_false]
    have hlt : s.toNat < 64 := by rcases hs with rfl | rfl | rfl | rfl <;> first | decide | exact absurd rfl h64
    rw [e]
    simp only [BitVec.getLsbD_and, low_bit s hlt j hj]
    by_cases h : j < s.toNat <;> simp [h]

theorem sar32_bit (x : W) (n j : Nat) : (sar32 x n).getLsbD j = (decide (j < 32) && x.getLsbD (if n + j < 32 then n + j else 31)) := by
  have e : sar32 x n = (((x.setWidth 32).sshiftRight n).setWidth 64 : BitVec 64) := by
    show ((((x.setWidth 32).setWidth 32).sshiftRight n).signExtend 32).setWidth 64 = _
    rw [BitVec.setWidth_eq, BitVec.signExtend_eq]
  rw [e]
  simp only [BitVec.getLsbD_setWidth, BitVec.getLsbD_sshiftRight, BitVec.msb_eq_getLsbD_last]
  by_cases h : j < 32
  · have h1 : ¬ 32 ≤ j := by omega
    have h2 : j < 64 := by omega
    by_cases h3 : n + j < 32 <;> simp [h, h1, h2, h3]
  · have h1 : 32 ≤ j := by omega
    simp [h, h1]

theorem sar64_bit (x : W) (n j : Nat) (hj : j < 64) : (sar64 x n).getLsbD j = x.getLsbD (if n + j < 64 then n + j else 63) := by
  have e : sar64 x n = (x.sshiftRight n : BitVec 64) := by
    show ((x.setWidth 64).sshiftRight n).signExtend 64 = _
    rw [BitVec.setWidth_eq, BitVec.signExtend_eq]
  rw [e]
  simp only [BitVec.getLsbD_sshiftRight, BitVec.msb_eq_getLsbD_last]
  have h1 : ¬ 64 ≤ j := by omega
  by_cases h3 : n + j < 64 <;> simp [h1, h3]

theorem ref_arsh {t : Tn} {n s : W} (ht : may t = true) (hs : s = 32#64 ∨ s = 64#64) (h0 : 0 ≤ n.toInt) (h63 : n.toInt < s.toInt) : made (mvL t n s (s - 1#64)) = tArsh t n s := by
  have hsz : s.toInt = (s.toNat : Int) ∧ 1 ≤ s.toNat ∧ s.toNat ≤ 64 ∧ (s - 1#64).toInt = (s.toNat : Int) - 1 := by rcases hs with rfl | rfl <;> exact ⟨rfl, by decide, by decide, rfl⟩
  obtain ⟨q1, q2, q3, q4⟩ := hsz
  have hn : n.toInt = (n.toNat : Int) := by
    have := nat_of_int (x := n) (n := n.toInt.toNat) (by omega); omega
  have z0 : (0#64 : W).toInt = 0 := rfl
  have z64 : (64#64 : W).toInt = 64 := rfl
  refine tn_ext fun j hj => ?_
  have := made_off ht (mvL t n s (s - 1#64)) (fun j => if j < s.toNat then some (if n.toNat + j < s.toNat then n.toNat + j else s.toNat - 1) else none) (fun j hj => by
    rw [mvL_eq _ _ _ _ j hj]
    have hj' := ofNat_int j (by omega)
    have e : (BitVec.ofNat 64 j + n).toInt = j + n.toInt := by rw [add_int] <;> rw [hj'] <;> omega
    simp only [mvcell, lt_int, le_int, hj', e, z0, z64, q4, Bool.and_eq_true, decide_eq_true_eq]
    by_cases hp : n.toNat + j < s.toNat
    · rw [if_neg (by omega : ¬ (0 ≤ (s.toNat : Int) - 1 ∧ (s.toNat : Int) - 1 < (j : Int) + n.toInt)), e]
      rw [if_pos (by omega), if_pos (by omega : j < s.toNat), if_pos hp, markB_eq]
      congr 1
      exact nat_of_int (by rw [e]; omega)
    · rw [if_pos (by omega : (0 ≤ (s.toNat : Int) - 1 ∧ (s.toNat : Int) - 1 < (j : Int) + n.toInt)), q4]
      by_cases h : j < s.toNat
      · rw [if_pos (by omega), if_pos h, if_neg hp, markB_eq]
        congr 1
        exact nat_of_int (by rw [q4]; omega)
      · rw [if_neg (by omega), if_neg h]) j hj
  rw [this.1, this.2]
  rcases hs with rfl | rfl
  · have n1 : ((32#64 : W) == 32#64) = true := rfl
    have n2 : (32#64 : W).toNat = 32 := rfl
    simp only [tArsh, Tn.mux, n1, cond_true, sar32_bit, shn, shn_eq, n2]
    by_cases h : j < 32 <;> simp [h]
  · have n1 : ((64#64 : W) == 32#64) = false := rfl
    have n2 : (64#64 : W).toNat = 64 := rfl
    simp only [tArsh, Tn.mux, n1, cond_false, sar64_bit _ _ j hj, shn, shn_eq, n2]
    simp [hj]

/-! Products. -/

theorem refAdd_ok {a b : Tn} (ha : may a = true) (hb : may b = true) : refAdd a b = tAdd a b := by
  simp only [refAdd, Tn.mux, bad2_false ha hb, cond_false, ref_add ha hb]

theorem may_lsh {t : Tn} (ht : may t = true) (k : Nat) : may ⟨t.v <<< k, t.m <<< k⟩ = true := by
  simp only [may, beq_iff_eq]
  rw [← BitVec.shiftLeft_and_distrib, may_and ht]
  simp

theorem may_any (x : W) : may ⟨0#64, x⟩ = true := by simp [may]

theorem badSh_false {t : Tn} {n : W} (ht : may t = true) (h0 : 0 ≤ n.toInt) (h63 : n.toInt ≤ 63) : badSh t n = false := by
  have z0 : (0#64 : W).toInt = 0 := rfl
  have z63 : (63#64 : W).toInt = 63 := rfl
  simp only [badSh, ht, lt_int, z0, z63, Bool.not_true, Bool.false_or, Bool.or_eq_false_iff, decide_eq_false_iff_not]
  omega

theorem mus_up {s : MuS} (hb : may s.b = true) (hi : s.i.toNat < 64) : s.up = ⟨s.b.v <<< s.i.toNat, s.b.m <<< s.i.toNat⟩ := by
  have h := int_of_nat (x := s.i) (by omega)
  have bs := badSh_false (t := s.b) (n := s.i) hb (by omega) (by omega)
  unfold MuS.up
  simp only [Tn.mux, bs, cond_false]
  rw [ref_lsh hb (by omega) (by omega)]
  simp only [tLsh, shn, shn_eq]

theorem mu_next {a b : Tn} (ha : may a = true) (hb : may b = true) (s : Tn) (hs : may s = true) (k : Nat) (hk : k < 64) :
    MuS.nxt ⟨a, b, s, BitVec.ofNat 64 k⟩ = ⟨a, b, (MulS.next ⟨⟨a.v >>> k, a.m >>> k⟩, ⟨b.v <<< k, b.m <<< k⟩, s⟩).s, BitVec.ofNat 64 k + 1#64⟩ ∧
    MulS.next ⟨⟨a.v >>> k, a.m >>> k⟩, ⟨b.v <<< k, b.m <<< k⟩, s⟩ = ⟨⟨a.v >>> (k + 1), a.m >>> (k + 1)⟩, ⟨b.v <<< (k + 1), b.m <<< (k + 1)⟩, (MulS.next ⟨⟨a.v >>> k, a.m >>> k⟩, ⟨b.v <<< k, b.m <<< k⟩, s⟩).s⟩ := by
  have hkn : (BitVec.ofNat 64 k : W).toNat = k := by simp; omega
  have one : ∀ x : W, (x >>> k) &&& 1#64 = if x.getLsbD k then 1#64 else 0#64 := by
    intro x
    apply BitVec.eq_of_getLsbD_eq
    intro j hj
    simp only [BitVec.getLsbD_and, BitVec.getLsbD_ushiftRight, BitVec.getLsbD_one]
    by_cases h : j = 0
    · subst h; cases x.getLsbD k <;> simp
    · have : ¬ 0 = j := fun e => h e.symm
      cases x.getLsbD k <;> simp [h]
  have hany : MulS.any ⟨⟨a.v >>> k, a.m >>> k⟩, ⟨b.v <<< k, b.m <<< k⟩, s⟩ = a.m.getLsbD k := by
    show ((a.m >>> k) &&& 1#64 == 1#64) = _
    rw [one]; cases a.m.getLsbD k <;> rfl
  have hzero : MulS.zero ⟨⟨a.v >>> k, a.m >>> k⟩, ⟨b.v <<< k, b.m <<< k⟩, s⟩ = !a.v.getLsbD k := by
    show ((a.v >>> k) &&& 1#64 == 0#64) = _
    rw [one]; cases a.v.getLsbD k <;> rfl
  have hup : ∀ t, MulS.up ⟨⟨a.v >>> k, a.m >>> k⟩, ⟨b.v <<< k, b.m <<< k⟩, s⟩ t = ⟨⟨a.v >>> (k + 1), a.m >>> (k + 1)⟩, ⟨b.v <<< (k + 1), b.m <<< (k + 1)⟩, t⟩ := by
    intro t
    simp only [MulS.up, shr1, BitVec.shiftRight_add, BitVec.shiftLeft_add]
  have hU : MuS.up ⟨a, b, s, BitVec.ofNat 64 k⟩ = ⟨b.v <<< k, b.m <<< k⟩ := by
    have := mus_up (s := ⟨a, b, s, BitVec.ofNat 64 k⟩) hb (by show (BitVec.ofNat 64 k : W).toNat < 64; omega)
    rw [this]
    simp only [hkn]
  have hm : MuS.m ⟨a, b, s, BitVec.ofNat 64 k⟩ = mrk a k := by
    show markB a (BitVec.ofNat 64 k) = _
    rw [markB_eq, hkn]
  have mup := may_lsh hb k
  constructor
  · rw [MulS.next_eq, hany, hzero]
    unfold MuS.nxt MuS.s1 MuS.is2 MuS.is3 MuS.anyUp MuS.put
    simp only [hm, hU]
    rcases mk_cases ha k with ⟨h1, h2, h3⟩ | ⟨h1, h2, h3⟩ | ⟨h1, h2, h3⟩
    · have c1 : ((3#64 : W) == 2#64) = false := rfl
      have c2 : ((3#64 : W) == 3#64) = true := rfl
      rw [h1, h2, h3, c1, c2]
      simp only [Bool.false_eq_true, if_false, if_true, hup]
      rw [refAdd_ok hs (may_any _), addN_ok hs (may_any _)]
    · have c1 : ((2#64 : W) == 2#64) = true := rfl
      have c2 : ((2#64 : W) == 3#64) = false := rfl
      rw [h1, h2, h3, c1, c2]
      simp only [Bool.false_eq_true, Bool.not_true, if_false, if_true, hup]
      rw [refAdd_ok hs mup, addN_ok hs mup]
    · have c1 : ((1#64 : W) == 2#64) = false := rfl
      have c2 : ((1#64 : W) == 3#64) = false := rfl
      rw [h1, h2, h3, c1, c2]
      simp only [Bool.false_eq_true, Bool.not_false, if_false, if_true, hup]
  · rw [MulS.next_eq, hany, hzero]
    split
    · rw [hup]
    · split <;> rw [hup]

theorem may_next {s : MulS} (hs : may s.s = true) (hb : may s.b = true) : may s.next.s = true := by
  rw [MulS.next_eq]
  split
  · show may (addN _ _) = true
    rw [addN_ok hs (may_any _)]; exact may_tAdd _ _
  · split
    · exact hs
    · show may (addN _ _) = true
      rw [addN_ok hs hb]; exact may_tAdd _ _

theorem mul_same {a b : Tn} (ha : may a = true) (hb : may b = true) : ∀ (m k : Nat) (s : Tn), k + m = 64 → may s = true →
    (MulS.fin m ⟨⟨a.v >>> k, a.m >>> k⟩, ⟨b.v <<< k, b.m <<< k⟩, s⟩).s = (runN MuS.go MuS.nxt m ⟨a, b, s, BitVec.ofNat 64 k⟩).s := by
  intro m
  induction m with
  | zero => intro k s _ _; rfl
  | succ m ih =>
    intro k s hk hs
    have hk64 : k < 64 := by omega
    have hkn : (BitVec.ofNat 64 k : W).toNat = k := by simp; omega
    have hgo : MuS.go ⟨a, b, s, BitVec.ofNat 64 k⟩ = true := by
      show ltB .i64 (BitVec.ofNat 64 k) 64#64 = true
      have z64 : (64#64 : W).toInt = 64 := rfl
      rw [lt_int, ofNat_int k (by omega), z64, decide_eq_true_eq]; omega
    obtain ⟨n1, n2⟩ := mu_next ha hb s hs k hk64
    have hs' := may_next (s := ⟨⟨a.v >>> k, a.m >>> k⟩, ⟨b.v <<< k, b.m <<< k⟩, s⟩) hs (may_lsh hb k)
    have hsucc : (BitVec.ofNat 64 k + 1#64 : W) = BitVec.ofNat 64 (k + 1) := by
      apply BitVec.eq_of_toNat_eq
      rw [succ_nat (by omega), hkn]; simp; omega
    rw [runN_go hgo, n1, hsucc, ← ih (k + 1) _ (by omega) hs', MulS.fin]
    cases hg : MulS.go ⟨⟨a.v >>> k, a.m >>> k⟩, ⟨b.v <<< k, b.m <<< k⟩, s⟩ with
    | true => simp only [cond_true]; rw [← n2]
    | false =>
      -- nothing is left of a: the sum stays
      simp only [cond_false]
      have hz : (a.v >>> k) ||| (a.m >>> k) = 0#64 := by
        simpa [MulS.go] using hg
      have hv : a.v >>> k = 0#64 := by
        apply BitVec.eq_of_getLsbD_eq; intro i hi
        have := congrArg (fun x : W => x.getLsbD i) hz
        simp only [BitVec.getLsbD_or, BitVec.getLsbD_zero, Bool.or_eq_false_iff] at this
        rw [this.1]; simp
      have hm : a.m >>> k = 0#64 := by
        apply BitVec.eq_of_getLsbD_eq; intro i hi
        have := congrArg (fun x : W => x.getLsbD i) hz
        simp only [BitVec.getLsbD_or, BitVec.getLsbD_zero, Bool.or_eq_false_iff] at this
        rw [this.2]; simp
      have st : (MulS.next ⟨⟨a.v >>> k, a.m >>> k⟩, ⟨b.v <<< k, b.m <<< k⟩, s⟩).s = s := by
        rw [MulS.next_eq]
        have e1 : MulS.any ⟨⟨a.v >>> k, a.m >>> k⟩, ⟨b.v <<< k, b.m <<< k⟩, s⟩ = false := by
          show ((a.m >>> k) &&& 1#64 == 1#64) = false
          rw [hm]; decide
        have e2 : MulS.zero ⟨⟨a.v >>> k, a.m >>> k⟩, ⟨b.v <<< k, b.m <<< k⟩, s⟩ = true := by
          show ((a.v >>> k) &&& 1#64 == 0#64) = true
          rw [hv]; decide
        rw [e1, e2]; rfl
      have stop : MulS.go ⟨⟨a.v >>> (k + 1), a.m >>> (k + 1)⟩, ⟨b.v <<< (k + 1), b.m <<< (k + 1)⟩, s⟩ = false := by
        show ((a.v >>> (k + 1)) ||| (a.m >>> (k + 1)) != 0#64) = false
        rw [BitVec.shiftRight_add, BitVec.shiftRight_add, hv, hm]; decide
      rw [st]
      cases m with
      | zero => rfl
      | succ m => rw [MulS.fin, stop]; rfl

theorem ref_mul {a b : Tn} (ha : may a = true) (hb : may b = true) : refMul a b = tMul a b := by
  have := mul_same ha hb 64 0 ⟨0#64, 0#64⟩ (by omega) (may_of _)
  simp only [BitVec.ushiftRight_zero, BitVec.shiftLeft_zero] at this
  exact this.symm

end Go.Rf.T

/- The document's stretches. -/
namespace Go.Rf.T

structure RgS where
  lo : W
  hi : W
  un : Bool
  i : W
  l : Nat → W

def pRg : List Nat := [1, 1, 1, 1, 0, 1, 4]

def bitR (x i : W) : W := remB .u64 (shrB .u64 x (amt .u64 (convB .i64 .u64 i))) 2#64
def RgS.go (s : RgS) : Bool := leB .i64 0#64 s.i
def RgS.x (s : RgS) : Bool := bitR s.lo s.i == 1#64
def RgS.ne (s : RgS) : Bool := s.un || (bitR s.lo s.i != bitR s.hi s.i)
def RgS.put (s : RgS) (l : Nat → W) : RgS := ⟨s.lo, s.hi, s.ne, s.i - 1#64, l⟩
def RgS.l1 (s : RgS) : Nat → W := upd s.l (ixN s.i) 1#64
def RgS.step (s : RgS) : Rd RgS :=
  .br s.go (.br s.x (.br s.ne (.norm (s.put (upd (upd s.l1 (ixN s.i) 2#64) (ixN s.i) 3#64))) (.norm (s.put (upd s.l1 (ixN s.i) 2#64))))
    (.br s.ne (.norm (s.put (upd s.l1 (ixN s.i) 3#64))) (.norm (s.put s.l1)))) (.exit 0 s)
def RgS.nxt (s : RgS) : RgS := s.put (upd s.l (ixN s.i) (if s.ne then 3#64 else if s.x then 2#64 else 1#64))
def RgS.inv (s : RgS) : Prop := -1 ≤ s.i.toInt ∧ s.i.toInt ≤ 63
def RgS.mu (s : RgS) : Nat := (s.i.toInt + 1).toNat

theorem RgS.go_iff (s : RgS) : s.go = decide (0 ≤ s.i.toInt) := by
  have z0 : (0#64 : W).toInt = 0 := rfl
  rw [RgS.go, le_int, z0]

theorem RgS.pred {s : RgS} (h : s.inv) : (s.i - 1#64).toInt = s.i.toInt - 1 := by
  have e : s.i - 1#64 = s.i + (-1#64) := BitVec.sub_eq_add_neg _ _
  have e1 : (-1#64 : W).toInt = -1 := rfl
  have h1 := h.1
  have h2 := h.2
  rw [e, add_int] <;> rw [e1] <;> omega

theorem RgS.dec (s : RgS) (h : s.inv) (hg : s.go = true) : s.nxt.inv ∧ s.nxt.mu < s.mu := by
  rw [RgS.go_iff, decide_eq_true_eq] at hg
  have e : s.nxt.i.toInt = s.i.toInt - 1 := RgS.pred h
  have h2 := h.2
  simp only [RgS.inv, RgS.mu, e]
  omega

def rgLoop (s : RgS) : Rd RgS := .exit 0 (runN RgS.go RgS.nxt 64 s)

def rgL (lo hi : W) : Nat → W := (runN RgS.go RgS.nxt 64 ⟨lo, hi, false, 63#64, fun _ => 0#64⟩).l

noncomputable def lE : List (FuncId × Con) := (45, con2 cW cW fun lo hi => resTE (badRg lo hi) (rgT lo hi)) :: (46, con2 cW cW fun lo hi => resTE (badRg lo hi) (made (rgL lo hi))) :: lD
/-! They are the program's. -/

theorem mod2 (y : W) : y % 2#64 = 0#64 ∨ y % 2#64 = 1#64 := by
  have : (y % 2#64).toNat = 0 ∨ (y % 2#64).toNat = 1 := by
    have h2 : (2#64 : W).toNat = 2 := rfl
    rw [BitVec.toNat_umod, h2]
    omega
  rcases this with h | h
  · left; exact BitVec.eq_of_toNat_eq h
  · right; exact BitVec.eq_of_toNat_eq h

theorem bitR_eq (x i : W) : bitR x i = if x.getLsbD i.toNat then 1#64 else 0#64 := by
  have h := bitB_eq x i
  unfold bitB at h
  have e : bitR x i = remB .u64 (shrB .u64 x (amt .u64 (convB .i64 .u64 i))) 2#64 := rfl
  rw [← e] at h
  have two : bitR x i = 0#64 ∨ bitR x i = 1#64 := by
    exact mod2 (x >>> (amt .u64 (convB .i64 .u64 i)))
  rcases two with h2 | h2 <;> rw [h2] at h ⊢ <;> simp at h <;> simp [← h]

/-- Some bit from i on is unlike. -/
def unl (lo hi : W) (i : Nat) : Bool := decide ((lo ^^^ hi).toNat / 2 ^ i ≠ 0)

theorem unl_step (lo hi : W) (i : Nat) : unl lo hi i = (unl lo hi (i + 1) || (lo.getLsbD i != hi.getLsbD i)) := by
  have hb : (lo ^^^ hi).getLsbD i = decide ((lo ^^^ hi).toNat / 2 ^ i % 2 = 1) := Nat.testBit_eq_decide_div_mod_eq
  rw [BitVec.getLsbD_xor] at hb
  have hx : (lo.getLsbD i != hi.getLsbD i) = (lo.getLsbD i ^^ hi.getLsbD i) := by cases lo.getLsbD i <;> cases hi.getLsbD i <;> rfl
  rw [hx, hb]
  unfold unl
  have e : (lo ^^^ hi).toNat / 2 ^ (i + 1) = (lo ^^^ hi).toNat / 2 ^ i / 2 := by rw [Nat.pow_succ, Nat.div_div_eq_div_mul]
  rw [e]
  generalize (lo ^^^ hi).toNat / 2 ^ i = n
  rcases Nat.mod_two_eq_zero_or_one n with h | h
  · by_cases h0 : n / 2 = 0
    · have : n = 0 := by omega
      simp [h, h0, this]
    · have : n ≠ 0 := by omega
      simp [h, h0, this]
  · have : n ≠ 0 := by omega
    simp [h, this]

def RgS.P (lo hi : W) (s : RgS) : Prop :=
  s.inv ∧ s.lo = lo ∧ s.hi = hi ∧ s.un = unl lo hi (s.i.toInt + 1).toNat ∧ ∀ j, s.l j = if s.i.toInt < (j : Int) ∧ j < 64 then mkB (unl lo hi j) (lo.getLsbD j) else 0#64

theorem RgS.P_next (lo hi : W) (s : RgS) (hP : s.P lo hi) (hg : s.go = true) : s.nxt.P lo hi := by
  obtain ⟨hi', rfl, rfl, hu, hl⟩ := hP
  have hd := RgS.dec s hi' hg
  rw [RgS.go_iff, decide_eq_true_eq] at hg
  have e : s.nxt.i.toInt = s.i.toInt - 1 := RgS.pred hi'
  have hle := hi'.2
  have hnat := nat_of_int (x := s.i) (n := s.i.toInt.toNat) (by omega)
  have hix : ixN s.i = s.i.toNat := ixN_nat (by omega)
  have hx : s.x = s.lo.getLsbD s.i.toNat := by
    unfold RgS.x
    rw [bitR_eq]; cases s.lo.getLsbD s.i.toNat <;> rfl
  have hn : s.ne = unl s.lo s.hi s.i.toNat := by
    unfold RgS.ne
    have : (s.i.toInt + 1).toNat = s.i.toNat + 1 := by omega
    rw [bitR_eq, bitR_eq, hu, this, unl_step s.lo s.hi s.i.toNat]
    cases s.lo.getLsbD s.i.toNat <;> cases s.hi.getLsbD s.i.toNat <;> cases unl s.lo s.hi (s.i.toNat + 1) <;> rfl
  refine ⟨hd.1, rfl, rfl, ?_, fun j => ?_⟩
  · show s.ne = _
    rw [e, hn]; congr 1; omega
  · have e3 : s.nxt.l = upd s.l (ixN s.i) (if s.ne then 3#64 else if s.x then 2#64 else 1#64) := rfl
    rw [e3, e, hix]
    simp only [upd]
    by_cases h1 : j = s.i.toNat
    · have hin : s.i.toInt - 1 < (j : Int) ∧ j < 64 := by omega
      rw [if_pos h1, if_pos hin, hn, hx, h1]; rfl
    · rw [if_neg h1, hl]
      by_cases h2 : s.i.toInt < (j : Int) ∧ j < 64
      · rw [if_pos h2, if_pos (by omega)]
      · rw [if_neg h2, if_neg (by omega)]

theorem rgL_eq (lo hi : W) (j : Nat) (hj : j < 64) : rgL lo hi j = mkB (unl lo hi j) (lo.getLsbD j) := by
  unfold rgL
  have i63 : (63#64 : W).toInt = 63 := rfl
  have h0 : RgS.P lo hi ⟨lo, hi, false, 63#64, fun _ => 0#64⟩ := by
    refine ⟨⟨by show -1 ≤ (63#64 : W).toInt; decide, by show (63#64 : W).toInt ≤ 63; decide⟩, rfl, rfl, ?_, fun j => ?_⟩
    · show false = unl lo hi ((63#64 : W).toInt + 1).toNat
      have e : ((63#64 : W).toInt + 1).toNat = 64 := rfl
      rw [e]
      unfold unl
      have := (lo ^^^ hi).isLt
      rw [Nat.div_eq_of_lt this]; simp
    · show (0#64 : W) = if (63#64 : W).toInt < (j : Int) ∧ j < 64 then _ else _
      rw [i63, if_neg (by omega)]
  generalize (⟨lo, hi, false, 63#64, fun _ => 0#64⟩ : RgS) = s0 at h0 ⊢
  have hend := runN_inv (go := RgS.go) (next := RgS.nxt) (RgS.P lo hi) (RgS.P_next lo hi) 64 s0 h0
  have hdone := runN_done (go := RgS.go) (next := RgS.nxt) (inv := RgS.inv) (μ := RgS.mu) RgS.dec 64 s0 h0.1 (by have := h0.1.2; simp only [RgS.mu]; omega)
  generalize runN RgS.go RgS.nxt 64 s0 = s at hend hdone ⊢
  obtain ⟨k1, _, _, _, k3⟩ := hend
  rw [RgS.go_iff, decide_eq_false_iff_not] at hdone
  rw [k3, if_pos (by omega)]

theorem bl_lt (n i : Nat) : decide (n / 2 ^ i ≠ 0) = decide (i < bl n) := by
  rw [decide_eq_decide]
  have h0 := Nat.two_pow_pos i
  by_cases hn : n = 0
  · subst hn; simp [bl]
  · simp only [bl, hn, if_false]
    rw [ne_eq, Nat.div_eq_zero_iff_lt h0]
    have := Nat.le_log2 hn (k := i)
    omega

theorem low_mask (n : Nat) (hn : n < 64) (j : Nat) (hj : j < 64) : ((1#64 <<< n) - 1#64 : W).getLsbD j = decide (j < n) := by
  have e : (BitVec.ofNat 64 n : W).toNat = n := by simp; omega
  have := low_bit (BitVec.ofNat 64 n) (by omega) j hj
  unfold low shn at this
  rw [shn_eq, e] at this
  exact this

theorem rgT_bits (lo hi : W) (j : Nat) (hj : j < 64) : (rgT lo hi).m.getLsbD j = unl lo hi j ∧ (rgT lo hi).v.getLsbD j = (!unl lo hi j && lo.getLsbD j) := by
  have hu : unl lo hi j = decide (j < bl (lo ^^^ hi).toNat) := bl_lt _ _
  have hle : bl (lo ^^^ hi).toNat ≤ 64 := bl_le _ 64 (lo ^^^ hi).isLt
  have hN : rgN lo hi = BitVec.ofNat 64 (bl (lo ^^^ hi).toNat) := lenW_eq _
  have hNn : (rgN lo hi).toNat = bl (lo ^^^ hi).toNat := by rw [hN, BitVec.toNat_ofNat]; exact Nat.mod_eq_of_lt (by omega)
  rw [hu]
  by_cases h64 : bl (lo ^^^ hi).toNat = 64
  · have e : (rgN lo hi == 64#64) = true := by rw [hN, h64]; rfl
    have : decide (j < bl (lo ^^^ hi).toNat) = true := by rw [h64]; simpa using hj
    unfold rgT Tn.mux
    rw [e, this]
    simp only [cond_true]
    have hall : (18446744073709551615#64 : W) = BitVec.allOnes 64 := rfl
    refine ⟨?_, by simp⟩
    rw [hall, BitVec.getLsbD_allOnes]
    simpa using hj
  · have e : (rgN lo hi == 64#64) = false := by
      rw [beq_eq_false_iff_ne]
      intro h
      have := congrArg BitVec.toNat h
      rw [hNn] at this
      exact h64 this
    unfold rgT Tn.mux
    rw [e]
    simp only [cond_false, fit, shn_eq, hNn, BitVec.getLsbD_and, BitVec.getLsbD_not, hj, decide_true, Bool.true_and, low_mask _ (by omega : bl (lo ^^^ hi).toNat < 64) j hj]
    refine ⟨trivial, ?_⟩
    cases lo.getLsbD j <;> cases decide (j < bl (lo ^^^ hi).toNat) <;> rfl

theorem ref_range (lo hi : W) : made (rgL lo hi) = rgT lo hi := by
  refine tn_ext fun j hj => ?_
  rw [(made_bits _ j hj).1, (made_bits _ j hj).2, rgL_eq _ _ j hj, (mkB_is _ _).1, (mkB_is _ _).2, (rgT_bits lo hi j hj).1, (rgT_bits lo hi j hj).2]
  exact ⟨rfl, rfl⟩

end Go.Rf.T

/- How many bits are any. -/
namespace Go.Rf.T

def pop1 (x : W) : W := (shrW x 1 &&& 6148914691236517205#64) + (x &&& 6148914691236517205#64)
def pop2 (x : W) : W := (shrW x 2 &&& 3689348814741910323#64) + (x &&& 3689348814741910323#64)
def pop3 (x : W) : W := (shrW x 4 + x) &&& 1085102592571150095#64
def popS (k : Nat) (x : W) : W := x + shrW x k
def toI (x : W) : W := convB .u64 .i64 x
def popW (x : W) : W := toI (popS 32 (popS 16 (popS 8 (pop3 (pop2 (pop1 x)))))) &&& 127#64

noncomputable def lF : List (FuncId × Con) := (73, con1 cW fun x => eI (popW x)) :: lE
def freeW (t : Tn) : W := bif !may t then (-1#64) else popW t.m
noncomputable def lG : List (FuncId × Con) := (52, con1 cTn fun t => eI (freeW t)) :: lF
end Go.Rf.T

/- Laws of bits: meetings, joinings, stretches. -/
namespace Go.Rf.T

theorem mem_iff_bits {t : Tn} {n : W} : Mem t n ↔ ∀ i, i < 64 → t.v.getLsbD i = (n.getLsbD i && !t.m.getLsbD i) := by
  constructor
  · intro h i hi; exact h.bit i hi
  · intro h
    apply BitVec.eq_of_getLsbD_eq
    intro i hi
    rw [h i hi]
    simp [hi]

theorem noMeet_iff {a b : Tn} (ha : may a = true) (hb : may b = true) : noMeet a b = false ↔ ∀ i, i < 64 → (a.m.getLsbD i || b.m.getLsbD i || (a.v.getLsbD i == b.v.getLsbD i)) = true := by
  unfold noMeet
  rw [ha, hb]
  simp only [Bool.not_true, Bool.false_or, bne_eq_false_iff_eq]
  constructor
  · intro h i hi
    have := congrArg (fun x : W => x.getLsbD i) h
    simp only [BitVec.getLsbD_and, BitVec.getLsbD_xor, BitVec.getLsbD_not, hi, decide_true, Bool.true_and, BitVec.getLsbD_or, BitVec.getLsbD_zero] at this
    revert this
    cases a.m.getLsbD i <;> cases b.m.getLsbD i <;> cases a.v.getLsbD i <;> cases b.v.getLsbD i <;> simp
  · intro h
    apply BitVec.eq_of_getLsbD_eq
    intro i hi
    have := h i hi
    simp only [BitVec.getLsbD_and, BitVec.getLsbD_xor, BitVec.getLsbD_not, hi, decide_true, Bool.true_and, BitVec.getLsbD_or, BitVec.getLsbD_zero]
    revert this
    cases a.m.getLsbD i <;> cases b.m.getLsbD i <;> cases a.v.getLsbD i <;> cases b.v.getLsbD i <;> simp

theorem meet_mem {a b : Tn} (ha : may a = true) (hb : may b = true) (hn : noMeet a b = false) (x : W) : Mem (tMeet a b) x ↔ Mem a x ∧ Mem b x := by
  rw [mem_iff_bits, mem_iff_bits, mem_iff_bits]
  have hnn := (noMeet_iff ha hb).1 hn
  have bits : ∀ i, i < 64 → ((tMeet a b).v.getLsbD i = (x.getLsbD i && !(tMeet a b).m.getLsbD i) ↔ (a.v.getLsbD i = (x.getLsbD i && !a.m.getLsbD i) ∧ b.v.getLsbD i = (x.getLsbD i && !b.m.getLsbD i))) := by
    intro i hi
    have h1 := may_bit ha i
    have h2 := may_bit hb i
    have h3 := hnn i hi
    simp only [tMeet, fit, BitVec.getLsbD_and, BitVec.getLsbD_not, hi, decide_true, Bool.true_and, BitVec.getLsbD_or]
    revert h1 h2 h3
    cases a.m.getLsbD i <;> cases b.m.getLsbD i <;> cases a.v.getLsbD i <;> cases b.v.getLsbD i <;> cases x.getLsbD i <;> simp
  constructor
  · intro h
    exact ⟨fun i hi => ((bits i hi).1 (h i hi)).1, fun i hi => ((bits i hi).1 (h i hi)).2⟩
  · rintro ⟨h1, h2⟩ i hi
    exact (bits i hi).2 ⟨h1 i hi, h2 i hi⟩

theorem no_meet_mem {a b : Tn} (ha : may a = true) (hb : may b = true) {x : W} (h1 : Mem a x) (h2 : Mem b x) : noMeet a b = false := by
  rw [noMeet_iff ha hb]
  intro i hi
  rw [h1.bit i hi, h2.bit i hi]
  cases a.m.getLsbD i <;> cases b.m.getLsbD i <;> cases x.getLsbD i <;> rfl

theorem join_mem_l {a b : Tn} {x : W} (h : Mem a x) : Mem (tJoin a b) x := by
  rw [mem_iff_bits]
  intro i hi
  have := h.bit i hi
  simp only [tJoin, fit, BitVec.getLsbD_and, BitVec.getLsbD_not, hi, decide_true, Bool.true_and, BitVec.getLsbD_or, BitVec.getLsbD_xor, this]
  cases a.m.getLsbD i <;> cases b.m.getLsbD i <;> cases b.v.getLsbD i <;> cases x.getLsbD i <;> rfl

theorem join_mem_r {a b : Tn} {x : W} (h : Mem b x) : Mem (tJoin a b) x := by
  rw [mem_iff_bits]
  intro i hi
  have := h.bit i hi
  simp only [tJoin, fit, BitVec.getLsbD_and, BitVec.getLsbD_not, hi, decide_true, Bool.true_and, BitVec.getLsbD_or, BitVec.getLsbD_xor, this]
  cases a.m.getLsbD i <;> cases b.m.getLsbD i <;> cases a.v.getLsbD i <;> cases x.getLsbD i <;> rfl

/-! Stretches. -/

theorem bit_eq_div (x : W) (i : Nat) : x.getLsbD i = decide (x.toNat / 2 ^ i % 2 = 1) := Nat.testBit_eq_decide_div_mod_eq

theorem nxor (a b : Nat) : a ^^^ b = 0 ↔ a = b := by
  constructor
  · intro h
    apply Nat.eq_of_testBit_eq
    intro i
    have := congrArg (fun n => n.testBit i) h
    simp only [Nat.testBit_xor, Nat.zero_testBit] at this
    revert this
    cases a.testBit i <;> cases b.testBit i <;> simp
  · intro h; subst h; exact Nat.xor_self a

theorem unl_false {lo hi : W} {i : Nat} : unl lo hi i = false ↔ lo.toNat / 2 ^ i = hi.toNat / 2 ^ i := by
  unfold unl
  rw [decide_eq_false_iff_not, Classical.not_not]
  have e : (lo ^^^ hi).toNat / 2 ^ i = (lo.toNat / 2 ^ i) ^^^ (hi.toNat / 2 ^ i) := by
    rw [BitVec.toNat_xor, ← Nat.shiftRight_eq_div_pow, ← Nat.shiftRight_eq_div_pow, ← Nat.shiftRight_eq_div_pow, Nat.shiftRight_xor_distrib]
  rw [e]
  exact nxor _ _

theorem rg_mem {lo hi x : W} (h1 : lo.toNat ≤ x.toNat) (h2 : x.toNat ≤ hi.toNat) : Mem (rgT lo hi) x := by
  rw [mem_iff_bits]
  intro i hi'
  obtain ⟨e1, e2⟩ := rgT_bits lo hi i hi'
  rw [e1, e2]
  cases hu : unl lo hi i with
  | true => simp
  | false =>
    have h3 := unl_false.1 hu
    have a1 : lo.toNat / 2 ^ i ≤ x.toNat / 2 ^ i := Nat.div_le_div_right h1
    have a2 : x.toNat / 2 ^ i ≤ hi.toNat / 2 ^ i := Nat.div_le_div_right h2
    have : x.toNat / 2 ^ i = lo.toNat / 2 ^ i := by omega
    rw [bit_eq_div lo, bit_eq_div x, this]
    simp

theorem rg_m (lo hi : W) : (rgT lo hi).m.toNat = 2 ^ bl (lo ^^^ hi).toNat - 1 ∧ bl (lo ^^^ hi).toNat ≤ 64 := by
  have hle : bl (lo ^^^ hi).toNat ≤ 64 := bl_le _ 64 (lo ^^^ hi).isLt
  refine ⟨?_, hle⟩
  have e : (rgT lo hi).m = BitVec.ofNat 64 (2 ^ bl (lo ^^^ hi).toNat - 1) := by
    apply BitVec.eq_of_getLsbD_eq
    intro j hj
    rw [(rgT_bits lo hi j hj).1, BitVec.getLsbD_ofNat, Nat.testBit_two_pow_sub_one]
    have : unl lo hi j = decide (j < bl (lo ^^^ hi).toNat) := bl_lt _ _
    rw [this]
    simp [hj]
  rw [e, BitVec.toNat_ofNat]
  have : 2 ^ bl (lo ^^^ hi).toNat ≤ 2 ^ 64 := Nat.pow_le_pow_right (by decide) hle
  exact Nat.mod_eq_of_lt (by have := Nat.two_pow_pos (bl (lo ^^^ hi).toNat); omega)

theorem rg_and (lo hi : W) : (rgT lo hi).m &&& ((rgT lo hi).m + 1#64) = 0#64 := by
  obtain ⟨h1, h2⟩ := rg_m lo hi
  have hp := Nat.two_pow_pos (bl (lo ^^^ hi).toNat)
  apply BitVec.eq_of_getLsbD_eq
  intro j hj
  have hm : (rgT lo hi).m.getLsbD j = decide (j < bl (lo ^^^ hi).toNat) := by
    rw [(rgT_bits lo hi j hj).1]; exact bl_lt _ _
  have hs : ((rgT lo hi).m + 1#64).getLsbD j = decide (bl (lo ^^^ hi).toNat = j) := by
    have e : (rgT lo hi).m + 1#64 = BitVec.ofNat 64 (2 ^ bl (lo ^^^ hi).toNat) := by
      apply BitVec.eq_of_toNat_eq
      rw [BitVec.toNat_add, h1]
      simp only [BitVec.toNat_ofNat]
      congr 1; omega
    rw [e, BitVec.getLsbD_ofNat, Nat.testBit_two_pow]
    simp [hj]
  rw [BitVec.getLsbD_and, hm, hs, BitVec.getLsbD_zero]
  clear hm hs h1 h2 hp
  generalize bl (lo ^^^ hi).toNat = b
  by_cases h : b = j
  · have : ¬ j < b := by omega
    simp [this]
  · simp [h]

theorem rg_zero (lo hi : W) : ((rgT lo hi).m == 0#64) = (lo == hi) := by
  obtain ⟨h1, h2⟩ := rg_m lo hi
  have hp := Nat.two_pow_pos (bl (lo ^^^ hi).toNat)
  by_cases h : lo = hi
  · subst h
    have hb : bl (lo ^^^ lo).toNat = 0 := by rw [BitVec.xor_self]; rfl
    rw [hb] at h1
    have : (rgT lo lo).m = 0#64 := BitVec.eq_of_toNat_eq (by rw [h1]; rfl)
    rw [this]; simp
  · have hx : (lo ^^^ hi).toNat ≠ 0 := by
      intro e
      have : lo ^^^ hi = 0#64 := BitVec.eq_of_toNat_eq (by rw [e]; rfl)
      exact h (BitVec.xor_eq_zero_iff.1 this)
    have hb : 1 ≤ bl (lo ^^^ hi).toNat := by simp only [bl, hx, if_false]; omega
    have : 2 ≤ 2 ^ bl (lo ^^^ hi).toNat := by
      have := Nat.pow_le_pow_right (n := 2) (by decide) hb
      simpa using this
    have hm : (rgT lo hi).m ≠ 0#64 := by
      intro e
      rw [e] at h1
      have : (0#64 : W).toNat = 0 := rfl
      omega
    rw [beq_eq_false_iff_ne.2 hm, beq_eq_false_iff_ne.2 h]

theorem rg_out (lo hi : W) : (lo ^^^ hi) &&& ~~~(rgT lo hi).m = 0#64 := by
  apply BitVec.eq_of_getLsbD_eq
  intro j hj
  rw [BitVec.getLsbD_and, BitVec.getLsbD_not, (rgT_bits lo hi j hj).1, BitVec.getLsbD_zero, unl_step, BitVec.getLsbD_xor]
  simp only [hj, decide_true, Bool.true_and]
  cases unl lo hi (j + 1) <;> cases lo.getLsbD j <;> cases hi.getLsbD j <;> rfl

theorem rg_top (lo hi : W) (h : lo ≠ hi) : (shrW (rgT lo hi).m 1).toNat < (lo ^^^ hi).toNat := by
  obtain ⟨h1, h2⟩ := rg_m lo hi
  have hx : (lo ^^^ hi).toNat ≠ 0 := by
    intro e
    have : lo ^^^ hi = 0#64 := BitVec.eq_of_toNat_eq (by rw [e]; rfl)
    exact h (BitVec.xor_eq_zero_iff.1 this)
  have hb : bl (lo ^^^ hi).toNat = (lo ^^^ hi).toNat.log2 + 1 := by simp only [bl, hx, if_false]
  have hl := (Nat.le_log2 hx (k := (lo ^^^ hi).toNat.log2)).1 (Nat.le_refl _)
  rw [shr_nat, h1, hb, Nat.pow_succ]
  have hp := Nat.two_pow_pos (lo ^^^ hi).toNat.log2
  omega

end Go.Rf.T

/- Laws of bits: how many bits a number has that are 1. -/
namespace Go.Rf.T

/-- A number of n digits of w bits. -/
def dig (w : Nat) : Nat → (Nat → Nat) → Nat
  | 0, _ => 0
  | n + 1, f => f 0 + 2 ^ w * dig w n (fun i => f (i + 1))

theorem dig_lt (w : Nat) : ∀ (n : Nat) (f : Nat → Nat), (∀ i, f i < 2 ^ w) → dig w n f < 2 ^ (w * n)
  | 0, f, h => by simp [dig]
  | n + 1, f, h => by
    have ih := dig_lt w n (fun i => f (i + 1)) (fun i => h _)
    have h0 := h 0
    rw [dig, Nat.mul_succ, Nat.pow_add, Nat.mul_comm (2 ^ (w * n))]
    have : 2 ^ w * dig w n (fun i => f (i + 1)) + 2 ^ w ≤ 2 ^ w * 2 ^ (w * n) := by
      rw [← Nat.mul_succ]; exact Nat.mul_le_mul_left _ ih
    omega

theorem and_parts {k a b c d : Nat} (ha : a < 2 ^ k) (hc : c < 2 ^ k) : (a + 2 ^ k * b) &&& (c + 2 ^ k * d) = (a &&& c) + 2 ^ k * (b &&& d) := by
  have hac : a &&& c < 2 ^ k := Nat.lt_of_le_of_lt Nat.and_le_left ha
  apply Nat.eq_of_testBit_eq
  intro i
  rw [Nat.testBit_and]
  rw [Nat.add_comm a, Nat.add_comm c, Nat.add_comm (a &&& c)]
  rw [Nat.testBit_two_pow_mul_add _ ha, Nat.testBit_two_pow_mul_add _ hc, Nat.testBit_two_pow_mul_add _ hac]
  split
  · rw [Nat.testBit_and]
  · rw [Nat.testBit_and]

/-- The mask of every other digit. -/
def evens (w : Nat) : Nat → Nat
  | 0 => 0
  | n + 1 => (2 ^ w - 1) + 2 ^ (2 * w) * evens w n

theorem dig_evens (w : Nat) : ∀ (n : Nat) (f : Nat → Nat), (∀ i, f i < 2 ^ w) → dig w (2 * n) f &&& evens w n = dig (2 * w) n (fun i => f (2 * i))
  | 0, f, h => by simp [dig, evens]
  | n + 1, f, h => by
    have ih := dig_evens w n (fun i => f (i + 2)) (fun i => h _)
    have e : dig w (2 * (n + 1)) f = (f 0 + 2 ^ w * f 1) + 2 ^ (2 * w) * dig w (2 * n) (fun i => f (i + 2)) := by
      have : 2 * (n + 1) = 2 * n + 1 + 1 := by omega
      rw [this, dig, dig, Nat.mul_add, ← Nat.mul_assoc, ← Nat.pow_add, Nat.add_assoc]
      have : w + w = 2 * w := by omega
      rw [this]
    have h0 := h 0
    have h1 := h 1
    have hp : 2 ^ (2 * w) = 2 ^ w * 2 ^ w := by rw [← Nat.pow_add]; congr 1; omega
    have ha : f 0 + 2 ^ w * f 1 < 2 ^ (2 * w) := by
      rw [hp]
      have : 2 ^ w * f 1 + 2 ^ w ≤ 2 ^ w * 2 ^ w := by rw [← Nat.mul_succ]; exact Nat.mul_le_mul_left _ h1
      omega
    have hw := Nat.two_pow_pos w
    have hc : 2 ^ w - 1 < 2 ^ (2 * w) := by
      rw [hp]
      have : 2 ^ w * 1 ≤ 2 ^ w * 2 ^ w := Nat.mul_le_mul_left _ hw
      omega
    rw [e, evens, and_parts ha hc, ih, Nat.and_two_pow_sub_one_eq_mod, Nat.add_mul_mod_self_left, Nat.mod_eq_of_lt h0]
    rfl

theorem dig_shift (w n : Nat) (f : Nat → Nat) (h : ∀ i, f i < 2 ^ w) : dig w (n + 1) f / 2 ^ w = dig w n (fun i => f (i + 1)) := by
  rw [dig, Nat.add_mul_div_left _ _ (Nat.two_pow_pos w), Nat.div_eq_of_lt (h 0), Nat.zero_add]

theorem dig_add (w : Nat) : ∀ (n : Nat) (f g : Nat → Nat), dig w n f + dig w n g = dig w n (fun i => f i + g i)
  | 0, f, g => rfl
  | n + 1, f, g => by
    have := dig_add w n (fun i => f (i + 1)) (fun i => g (i + 1))
    simp only [dig]
    rw [← this, Nat.mul_add]
    omega

theorem dig_more (w : Nat) : ∀ (n : Nat) (f : Nat → Nat), f n = 0 → dig w (n + 1) f = dig w n f
  | 0, f, h => by simp [dig, h]
  | n + 1, f, h => by
    rw [dig, dig_more w n (fun i => f (i + 1)) h]; rfl

theorem dig_congr (w : Nat) : ∀ (n : Nat) (f g : Nat → Nat), (∀ i, i < n → f i = g i) → dig w n f = dig w n g
  | 0, f, g, h => rfl
  | n + 1, f, g, h => by
    rw [dig, dig, h 0 (by omega), dig_congr w n (fun i => f (i + 1)) (fun i => g (i + 1)) (fun i hi => h (i + 1) (by omega))]

/-- A number by its bits. -/
theorem bits_dig : ∀ (n x : Nat), x < 2 ^ n → dig 1 n (fun i => x / 2 ^ i % 2) = x
  | 0, x, h => by simp at h; subst h; rfl
  | n + 1, x, h => by
    have ih := bits_dig n (x / 2) (by rw [Nat.pow_succ] at h; omega)
    have e : (fun i => x / 2 ^ (i + 1) % 2) = (fun i => x / 2 / 2 ^ i % 2) := by
      funext i
      rw [Nat.div_div_eq_div_mul, ← Nat.pow_succ']
    simp only [dig, e, ih]
    simp
    omega

/-- Shifted by one digit, in as many digits. -/
theorem dig_down (w n : Nat) (f : Nat → Nat) (h : ∀ i, f i < 2 ^ w) (h0 : f (n + 1) = 0) : dig w (n + 1) f / 2 ^ w = dig w (n + 1) (fun i => f (i + 1)) := by
  rw [dig_shift w n f h, dig_more w n (fun i => f (i + 1)) h0]

def xb (x : W) (i : Nat) : Nat := x.toNat / 2 ^ i % 2
theorem xb_lt (x : W) (i : Nat) : xb x i ≤ 1 := by unfold xb; omega
theorem xb_hi (x : W) (i : Nat) (h : 64 ≤ i) : xb x i = 0 := by
  unfold xb
  have : x.toNat < 2 ^ i := Nat.lt_of_lt_of_le x.isLt (Nat.pow_le_pow_right (by decide) h)
  rw [Nat.div_eq_of_lt this]
theorem xb_bit (x : W) (i : Nat) : xb x i = (x.getLsbD i).toNat := by
  unfold xb
  rw [bit_eq_div]
  rcases Nat.mod_two_eq_zero_or_one (x.toNat / 2 ^ i) with h | h <;> simp [h]

def q1 (x : W) (i : Nat) : Nat := xb x (2 * i) + xb x (2 * i + 1)
def q2 (x : W) (i : Nat) : Nat := q1 x (2 * i) + q1 x (2 * i + 1)
def q3 (x : W) (i : Nat) : Nat := q2 x (2 * i) + q2 x (2 * i + 1)
theorem q1_le (x : W) (i : Nat) : q1 x i ≤ 2 := by unfold q1; have := xb_lt x (2 * i); have := xb_lt x (2 * i + 1); omega
theorem q2_le (x : W) (i : Nat) : q2 x i ≤ 4 := by unfold q2; have := q1_le x (2 * i); have := q1_le x (2 * i + 1); omega
theorem q3_le (x : W) (i : Nat) : q3 x i ≤ 8 := by unfold q3; have := q2_le x (2 * i); have := q2_le x (2 * i + 1); omega
theorem q1_hi (x : W) (i : Nat) (h : 32 ≤ i) : q1 x i = 0 := by unfold q1; rw [xb_hi x _ (by omega), xb_hi x _ (by omega)]
theorem q2_hi (x : W) (i : Nat) (h : 16 ≤ i) : q2 x i = 0 := by unfold q2; rw [q1_hi x _ (by omega), q1_hi x _ (by omega)]
theorem q3_hi (x : W) (i : Nat) (h : 8 ≤ i) : q3 x i = 0 := by unfold q3; rw [q2_hi x _ (by omega), q2_hi x _ (by omega)]

theorem pop1_nat (x : W) : (pop1 x).toNat = dig 2 32 (q1 x) := by
  have e : x.toNat = dig 1 64 (xb x) := (bits_dig 64 x.toNat x.isLt).symm
  have hm : (6148914691236517205#64 : W).toNat = evens 1 32 := by decide
  have lt : ∀ i, xb x i < 2 ^ 1 := fun i => by have := xb_lt x i; omega
  unfold pop1
  rw [BitVec.toNat_add, BitVec.toNat_and, BitVec.toNat_and, hm, shr_nat, e]
  rw [dig_down 1 63 (xb x) lt (xb_hi x 64 (by omega)), dig_evens 1 32 (fun i => xb x (i + 1)) (fun i => lt _), dig_evens 1 32 (xb x) lt, dig_add]
  rw [Nat.mod_eq_of_lt]
  · exact dig_congr _ _ _ _ fun i _ => by unfold q1; omega
  · exact dig_lt 2 32 _ fun i => by have := xb_lt x (2 * i); have := xb_lt x (2 * i + 1); simp; omega

theorem pop2_nat (x : W) : (pop2 (pop1 x)).toNat = dig 4 16 (q2 x) := by
  have e := pop1_nat x
  have hm : (3689348814741910323#64 : W).toNat = evens 2 16 := by decide
  have lt : ∀ i, q1 x i < 2 ^ 2 := fun i => by have := q1_le x i; omega
  unfold pop2
  rw [BitVec.toNat_add, BitVec.toNat_and, BitVec.toNat_and, hm, shr_nat, e]
  rw [dig_down 2 31 (q1 x) lt (q1_hi x 32 (by omega)), dig_evens 2 16 (fun i => q1 x (i + 1)) (fun i => lt _), dig_evens 2 16 (q1 x) lt, dig_add]
  rw [Nat.mod_eq_of_lt]
  · exact dig_congr _ _ _ _ fun i _ => by unfold q2; omega
  · exact dig_lt 4 16 _ fun i => by have := q1_le x (2 * i); have := q1_le x (2 * i + 1); simp; omega

theorem pop3_nat (x : W) : (pop3 (pop2 (pop1 x))).toNat = dig 8 8 (q3 x) := by
  have e := pop2_nat x
  have hm : (1085102592571150095#64 : W).toNat = evens 4 8 := by decide
  have lt : ∀ i, q2 x i < 2 ^ 4 := fun i => by have := q2_le x i; omega
  unfold pop3
  rw [BitVec.toNat_and, BitVec.toNat_add, hm, shr_nat, e]
  rw [dig_down 4 15 (q2 x) lt (q2_hi x 16 (by omega)), dig_add]
  have lt2 : ∀ i, q2 x (i + 1) + q2 x i < 2 ^ 4 := fun i => by have := q2_le x i; have := q2_le x (i + 1); omega
  rw [Nat.mod_eq_of_lt (dig_lt 4 16 _ lt2), dig_evens 4 8 _ lt2]
  exact dig_congr _ _ _ _ fun i _ => by unfold q3; omega

/-- The sum of so many. -/
def sumN : Nat → (Nat → Nat) → Nat
  | 0, _ => 0
  | n + 1, f => sumN n f + f n

def ones (x : W) : Nat := sumN 64 fun i => (x.getLsbD i).toNat

theorem sumN_pairs : ∀ (n : Nat) (f : Nat → Nat), sumN (2 * n) f = sumN n (fun i => f (2 * i) + f (2 * i + 1))
  | 0, f => rfl
  | n + 1, f => by
    have e : 2 * (n + 1) = 2 * n + 1 + 1 := by omega
    rw [e, sumN, sumN, sumN_pairs n f, sumN]
    omega

theorem ones_q (x : W) : ones x = q3 x 0 + q3 x 1 + q3 x 2 + q3 x 3 + q3 x 4 + q3 x 5 + q3 x 6 + q3 x 7 := by
  have e0 : ones x = sumN (2 * 32) (xb x) := by
    unfold ones
    have : (fun i => (x.getLsbD i).toNat) = xb x := by funext i; exact (xb_bit x i).symm
    rw [this]
  have e1 : sumN (2 * 32) (xb x) = sumN (2 * 16) (q1 x) := sumN_pairs 32 (xb x)
  have e2 : sumN (2 * 16) (q1 x) = sumN (2 * 8) (q2 x) := sumN_pairs 16 (q1 x)
  have e3 : sumN (2 * 8) (q2 x) = sumN 8 (q3 x) := sumN_pairs 8 (q2 x)
  rw [e0, e1, e2, e3]
  simp only [sumN, Nat.zero_add]

theorem popS_dig {k : Nat} {u : W} {f : Nat → Nat} {m : Nat} (hu : u.toNat = dig 8 8 f) (hf : ∀ i, f i + f (i + m) < 2 ^ 8) (hd : dig 8 8 f / 2 ^ k = dig 8 8 (fun i => f (i + m))) : (popS k u).toNat = dig 8 8 (fun i => f i + f (i + m)) := by
  unfold popS
  rw [BitVec.toNat_add, shr_nat, hu, hd, dig_add, Nat.mod_eq_of_lt (dig_lt 8 8 _ hf)]

theorem dig_down8 (f : Nat → Nat) (h : ∀ i, f i < 2 ^ 8) (h0 : ∀ i, 8 ≤ i → f i = 0) : ∀ m, dig 8 8 f / 2 ^ (8 * m) = dig 8 8 (fun i => f (i + m))
  | 0 => by simp
  | m + 1 => by
    have e : 8 * (m + 1) = 8 * m + 8 := by omega
    rw [e, Nat.pow_add, ← Nat.div_div_eq_div_mul, dig_down8 f h h0 m, dig_down 8 7 (fun i => f (i + m)) (fun i => h _) (h0 _ (by omega))]
    exact dig_congr _ _ _ _ fun i _ => by congr 1; omega

theorem popW_eq (x : W) : popW x = BitVec.ofNat 64 (ones x) ∧ ones x ≤ 64 := by
  have hs := ones_q x
  have b : ∀ i, q3 x i ≤ 8 := q3_le x
  have z : ∀ i, 8 ≤ i → q3 x i = 0 := q3_hi x
  have hle : ones x ≤ 64 := by
    have b0 := b 0
    have b1 := b 1
    have b2 := b 2
    have b3 := b 3
    have b4 := b 4
    have b5 := b 5
    have b6 := b 6
    have b7 := b 7
    omega
  refine ⟨?_, hle⟩
  have hI : ∀ y : W, toI y = y := fun y => by
    show (y.setWidth 64 : W) = y
    exact BitVec.setWidth_eq y
  have s1 := popS_dig (k := 8) (m := 1) (pop3_nat x) (fun i => by have := b i; have := b (i + 1); omega) (dig_down8 (q3 x) (fun i => by have := b i; omega) z 1)
  have s2 := popS_dig (k := 16) (m := 2) s1 (fun i => by have := b i; have := b (i + 1); have := b (i + 2); have := b (i + 2 + 1); omega)
    (dig_down8 (fun i => q3 x i + q3 x (i + 1)) (fun i => by have := b i; have := b (i + 1); omega) (fun i hi => by rw [z i hi, z (i + 1) (by omega)]) 2)
  have s3 := popS_dig (k := 32) (m := 4) s2 (fun i => by have := b i; have := b (i + 1); have := b (i + 2); have := b (i + 2 + 1); have := b (i + 4); have := b (i + 4 + 1); have := b (i + 4 + 2); have := b (i + 4 + 2 + 1); omega)
    (dig_down8 (fun i => q3 x i + q3 x (i + 1) + (q3 x (i + 2) + q3 x (i + 2 + 1))) (fun i => by have := b i; have := b (i + 1); have := b (i + 2); have := b (i + 2 + 1); omega) (fun i hi => by rw [z i hi, z (i + 1) (by omega), z (i + 2) (by omega), z (i + 2 + 1) (by omega)]) 4)
  apply BitVec.eq_of_toNat_eq
  unfold popW
  rw [hI, BitVec.toNat_and]
  have h127 : (127#64 : W).toNat = 2 ^ 7 - 1 := by decide
  rw [h127, Nat.and_two_pow_sub_one_eq_mod, BitVec.toNat_ofNat, s3]
  have hd : ∀ f : Nat → Nat, dig 8 8 f = f 0 + 2 ^ 8 * dig 8 7 (fun i => f (i + 1)) := fun f => rfl
  rw [hd]
  generalize dig 8 7 _ = r
  simp only [Nat.zero_add, Nat.reduceAdd]
  omega

theorem sumN_le : ∀ (n : Nat) (f g : Nat → Nat), (∀ i, i < n → f i ≤ g i) → sumN n f ≤ sumN n g
  | 0, f, g, h => Nat.le_refl _
  | n + 1, f, g, h => by
    have := sumN_le n f g (fun i hi => h i (by omega))
    have := h n (by omega)
    simp only [sumN]; omega

theorem sumN_zero : ∀ (n : Nat) (f : Nat → Nat), sumN n f = 0 ↔ ∀ i, i < n → f i = 0
  | 0, f => by simp [sumN]
  | n + 1, f => by
    have ih := sumN_zero n f
    simp only [sumN]
    constructor
    · intro h i hi
      by_cases e : i = n
      · subst e; omega
      · exact ih.1 (by omega) i (by omega)
    · intro h
      have := ih.2 fun i hi => h i (by omega)
      have := h n (by omega)
      omega

theorem ones_zero (x : W) : ones x = 0 ↔ x = 0#64 := by
  unfold ones
  rw [sumN_zero]
  constructor
  · intro h
    apply BitVec.eq_of_getLsbD_eq
    intro i hi
    have := h i hi
    rw [BitVec.getLsbD_zero]
    cases hx : x.getLsbD i
    · rfl
    · rw [hx] at this; simp at this
  · intro h i _
    subst h; simp

theorem sumN_drop : ∀ (k n : Nat) (f : Nat → Nat), sumN n (fun i => f (k + i)) ≤ sumN (k + n) f
  | k, 0, f => Nat.zero_le _
  | k, n + 1, f => by
    have := sumN_drop k n f
    have e : k + (n + 1) = (k + n) + 1 := by omega
    rw [e]
    simp only [sumN]
    omega

theorem sumN_hi : ∀ (k n : Nat) (f : Nat → Nat), (∀ i, n ≤ i → f i = 0) → sumN (n + k) f = sumN n f
  | 0, n, f, h => rfl
  | k + 1, n, f, h => by
    have := sumN_hi k n f h
    have e : n + (k + 1) = (n + k) + 1 := by omega
    rw [e, sumN, this, h _ (by omega)]; rfl

theorem ones_shr (x : W) (k : Nat) : ones (x >>> k) ≤ ones x := by
  unfold ones
  have e : (fun i => ((x >>> k).getLsbD i).toNat) = fun i => (x.getLsbD (k + i)).toNat := by
    funext i; rw [BitVec.getLsbD_ushiftRight]
  rw [e]
  refine Nat.le_trans (sumN_drop k 64 fun i => (x.getLsbD i).toNat) ?_
  rw [Nat.add_comm, sumN_hi k 64 _ fun i hi => by rw [BitVec.getLsbD_of_ge _ _ hi]; rfl]
  exact Nat.le_refl _

theorem sumN_up : ∀ (k n : Nat) (f : Nat → Nat), sumN n (fun i => if i < k then 0 else f (i - k)) ≤ sumN n f
  | k, 0, f => Nat.le_refl _
  | 0, n + 1, f => by simp
  | k + 1, n + 1, f => by
    have ih := sumN_up k n f
    have e : sumN (n + 1) (fun i => if i < k + 1 then 0 else f (i - (k + 1))) = sumN n (fun i => if i < k then 0 else f (i - k)) := by
      have gen : ∀ m (g h : Nat → Nat), g 0 = 0 → (∀ i, g (i + 1) = h i) → sumN (m + 1) g = sumN m h := by
        intro m g h h0 hs
        induction m with
        | zero => simp [sumN, h0]
        | succ m ihm => rw [sumN, ihm, sumN, hs]
      refine gen n _ _ (by simp) fun i => ?_
      by_cases hi : i < k
      · simp [hi]
      · have : ¬ i + 1 < k + 1 := by omega
        simp only [this, hi, if_false]
        congr 1; omega
    rw [e]
    simp only [sumN]
    omega

theorem ones_shl (x : W) (k : Nat) : ones (x <<< k) ≤ ones x := by
  unfold ones
  refine Nat.le_trans (sumN_le 64 _ (fun i => if i < k then 0 else (x.getLsbD (i - k)).toNat) fun i hi => ?_) (sumN_up k 64 fun i => (x.getLsbD i).toNat)
  rw [BitVec.getLsbD_shiftLeft]
  by_cases h : i < k <;> simp [h, hi]

end Go.Rf.T

/- Tnums: the document's sets. -/
namespace Go.Rf.T

theorem le64 {i : W} (h : i.toNat ≤ 64) : ltB .i64 i 64#64 = decide (i.toNat < 64) := by
  rw [ltB_nat (by omega) (by decide)]; rfl

/-! In. -/
structure InS where
  a : Tn
  b : Tn
  res : Bool
  i : W

def pIn : List Nat := [1, 1, 0, 1, 4]

def InS.more (s : InS) : Bool := ltB .i64 s.i 64#64
def InS.bad (s : InS) : Bool := (markB s.a s.i ||| markB s.b s.i) != markB s.b s.i
def InS.go (s : InS) : Bool := s.more && !s.bad
def InS.nxt (s : InS) : InS := ⟨s.a, s.b, s.res, s.i + 1#64⟩
def InS.rt (s : InS) : InS := ⟨s.a, s.b, false, s.i⟩
def InS.step (s : InS) : Rd InS := .br s.more (.br s.bad (.ret s.rt) (.norm s.nxt)) (.exit 0 s)
def InS.inv (s : InS) : Prop := s.i.toNat ≤ 64
def InS.mu (s : InS) : Nat := 64 - s.i.toNat

theorem InS.dec (s : InS) (h : s.inv) (hg : s.go = true) : s.nxt.inv ∧ s.nxt.mu < s.mu := by
  have h' : s.i.toNat ≤ 64 := h
  simp only [InS.go, InS.more, Bool.and_eq_true, le64 h', decide_eq_true_eq] at hg
  have e : s.nxt.i.toNat = s.i.toNat + 1 := succ_nat (by omega)
  simp only [InS.inv, InS.mu, e]
  omega

def inT (s : InS) : Rd InS := .br (runN InS.go InS.nxt 64 s).more (.ret (runN InS.go InS.nxt 64 s).rt) (.exit 0 (runN InS.go InS.nxt 64 s))

def inRun (a b : Tn) : Bool := (runN InS.go InS.nxt 64 ⟨a, b, false, 0#64⟩).more
def inD (a b : Tn) : Bool := bif bad2 a b then false else bif inRun a b then false else true
end Go.Rf.T

/- Tnums: the document's sets: how many, Join, Meet. -/
namespace Go.Rf.T

/-! Free. -/
structure FrS where
  t : Tn
  n : W
  i : W

def pFr : List Nat := [1, 1, 1, 0, 1, 4]

def FrS.go (s : FrS) : Bool := ltB .i64 s.i 64#64
def FrS.is (s : FrS) : Bool := markB s.t s.i == 3#64
def FrS.nxt (s : FrS) : FrS := if s.is then ⟨s.t, s.n + 1#64, s.i + 1#64⟩ else ⟨s.t, s.n, s.i + 1#64⟩
def FrS.step (s : FrS) : Rd FrS := .br s.go (.br s.is (.norm ⟨s.t, s.n + 1#64, s.i + 1#64⟩) (.norm ⟨s.t, s.n, s.i + 1#64⟩)) (.exit 0 s)
def FrS.inv (s : FrS) : Prop := s.i.toNat ≤ 64
def FrS.mu (s : FrS) : Nat := 64 - s.i.toNat

theorem FrS.dec (s : FrS) (h : s.inv) (hg : s.go = true) : s.nxt.inv ∧ s.nxt.mu < s.mu := by
  have h' : s.i.toNat ≤ 64 := h
  simp only [FrS.go, le64 h', decide_eq_true_eq] at hg
  have k : s.nxt.i = s.i + 1#64 := by unfold FrS.nxt; split <;> rfl
  have e : s.nxt.i.toNat = s.i.toNat + 1 := by rw [k]; exact succ_nat (by omega)
  simp only [FrS.inv, FrS.mu, e]
  omega

def frT (s : FrS) : Rd FrS := .exit 0 (runN FrS.go FrS.nxt 64 s)

def freeD (t : Tn) : W := bif !may t then (-1#64) else (runN FrS.go FrS.nxt 64 ⟨t, 0#64, 0#64⟩).n
/-! Join. -/
structure JoS where
  a : Tn
  b : Tn
  i : W
  l : Nat → W

def JoS.go (s : JoS) : Bool := ltB .i64 s.i 64#64
def JoS.nxt (s : JoS) : JoS := ⟨s.a, s.b, s.i + 1#64, upd s.l (ixN s.i) (markB s.a s.i ||| markB s.b s.i)⟩
def JoS.step (s : JoS) : Rd JoS := .br s.go (.norm s.nxt) (.exit 0 s)
def JoS.inv (s : JoS) : Prop := s.i.toNat ≤ 64
def JoS.mu (s : JoS) : Nat := 64 - s.i.toNat

theorem JoS.dec (s : JoS) (h : s.inv) (hg : s.go = true) : s.nxt.inv ∧ s.nxt.mu < s.mu := by
  have h' : s.i.toNat ≤ 64 := h
  simp only [JoS.go, le64 h', decide_eq_true_eq] at hg
  have e : s.nxt.i.toNat = s.i.toNat + 1 := succ_nat (by omega)
  simp only [JoS.inv, JoS.mu, e]
  omega

def joT (s : JoS) : Rd JoS := .exit 0 (runN JoS.go JoS.nxt 64 s)

def joL (a b : Tn) : Nat → W := (runN JoS.go JoS.nxt 64 ⟨a, b, 0#64, fun _ => 0#64⟩).l
end Go.Rf.T

/- Tnums: the document's Meet. -/
namespace Go.Rf.T

structure MeS where
  a : Tn
  b : Tn
  r : Tn
  res : Bool
  i : W
  l : Nat → W

def MeS.more (s : MeS) : Bool := ltB .i64 s.i 64#64
def MeS.l' (s : MeS) : Nat → W := upd s.l (ixN s.i) (markB s.a s.i &&& markB s.b s.i)
def MeS.bad (s : MeS) : Bool := s.l' (ixN s.i) == 0#64
def MeS.go (s : MeS) : Bool := s.more && !s.bad
def MeS.nxt (s : MeS) : MeS := ⟨s.a, s.b, s.r, s.res, s.i + 1#64, s.l'⟩
def MeS.rt (s : MeS) : MeS := ⟨s.a, s.b, nil, false, s.i, s.l'⟩
def MeS.step (s : MeS) : Rd MeS := .br s.more (.br s.bad (.ret s.rt) (.norm s.nxt)) (.exit 0 s)
def MeS.inv (s : MeS) : Prop := s.i.toNat ≤ 64
def MeS.mu (s : MeS) : Nat := 64 - s.i.toNat

theorem MeS.dec (s : MeS) (h : s.inv) (hg : s.go = true) : s.nxt.inv ∧ s.nxt.mu < s.mu := by
  have h' : s.i.toNat ≤ 64 := h
  simp only [MeS.go, MeS.more, Bool.and_eq_true, le64 h', decide_eq_true_eq] at hg
  have e : s.nxt.i.toNat = s.i.toNat + 1 := succ_nat (by omega)
  simp only [MeS.inv, MeS.mu, e]
  omega

def meT (s : MeS) : Rd MeS := .br (runN MeS.go MeS.nxt 64 s).more (.ret (runN MeS.go MeS.nxt 64 s).rt) (.exit 0 (runN MeS.go MeS.nxt 64 s))

def meRun (a b : Tn) : MeS := runN MeS.go MeS.nxt 64 ⟨a, b, nil, false, 0#64, fun _ => 0#64⟩
def meetD (a b : Tn) : Tn := Tn.mux (bad2 a b) nil (Tn.mux (meRun a b).more nil (made (meRun a b).l))
def meetDB (a b : Tn) : Bool := bif bad2 a b then false else bif (meRun a b).more then false else true
/-! Has. -/
structure HaS where
  t : Tn
  n : W
  res : Bool
  i : W

def HaS.more (s : HaS) : Bool := ltB .i64 s.i 64#64
def HaS.one (s : HaS) : Bool := bitB s.n s.i
def HaS.off (s : HaS) (z : W) : Bool := (markB s.t s.i &&& z) == 0#64
def HaS.bad (s : HaS) : Bool := if s.one then s.off 2#64 else s.off 1#64
def HaS.go (s : HaS) : Bool := s.more && !s.bad
def HaS.nxt (s : HaS) : HaS := ⟨s.t, s.n, s.res, s.i + 1#64⟩
def HaS.rt (s : HaS) : HaS := ⟨s.t, s.n, false, s.i⟩
def HaS.step (s : HaS) : Rd HaS := .br s.more (.br s.one (.br (s.off 2#64) (.ret s.rt) (.norm s.nxt)) (.br (s.off 1#64) (.ret s.rt) (.norm s.nxt))) (.exit 0 s)
def HaS.inv (s : HaS) : Prop := s.i.toNat ≤ 64
def HaS.mu (s : HaS) : Nat := 64 - s.i.toNat

theorem HaS.dec (s : HaS) (h : s.inv) (hg : s.go = true) : s.nxt.inv ∧ s.nxt.mu < s.mu := by
  have h' : s.i.toNat ≤ 64 := h
  simp only [HaS.go, HaS.more, Bool.and_eq_true, le64 h', decide_eq_true_eq] at hg
  have e : s.nxt.i.toNat = s.i.toNat + 1 := succ_nat (by omega)
  simp only [HaS.inv, HaS.mu, e]
  omega

def haT (s : HaS) : Rd HaS := .br (runN HaS.go HaS.nxt 64 s).more (.ret (runN HaS.go HaS.nxt 64 s).rt) (.exit 0 (runN HaS.go HaS.nxt 64 s))

def haRun (t : Tn) (n : W) : Bool := (runN HaS.go HaS.nxt 64 ⟨t, n, false, 0#64⟩).more
def hasD (t : Tn) (n : W) : Bool := bif !may t then false else bif haRun t n then false else true
noncomputable def lH : List (FuncId × Con) :=
  (51, con2 cTn cW fun a b => eB (hasD a b)) ::
  (49, con2 cTn cTn fun a b => pair (eTn (meetD a b)) (eB (meetDB a b))) ::
  (35, con2 cTn cTn fun a b => resTE (bad2 a b) (made (joL a b))) ::
  (53, con1 cTn fun t => eI (freeD t)) ::
  (36, con2 cTn cTn fun a b => eB (inD a b)) :: lG
end Go.Rf.T

/- Tnums: what the statements' proofs share. -/
namespace Go.Rf.T

def addR (a b : Tn) : Tn := Tn.mux (bad2 a b) nil (tAdd a b)
def subR (a b : Tn) : Tn := Tn.mux (bad2 a b) nil (tSub a b)
def mulR (a b : Tn) : Tn := Tn.mux (bad2 a b) nil (tMul a b)
def err2 (a b : Tn) : W := bif bad2 a b then 1#64 else 0#64
def eqT (a b : Tn) : Bool := a.v == b.v && a.m == b.m
def of (n : W) : Tn := ⟨n, 0#64⟩
theorem eqT_self (a : Tn) : eqT a a = true := by simp [eqT]
end Go.Rf.T

/- Proved: the law TnumOrder answers true at every input: being in is an order, Join the least above both, Meet the greatest below both. No condition. -/
namespace Go.Rf.T

def meetR (a b : Tn) : Tn := Tn.mux (noMeet a b) nil (tMeet a b)
def joinR (a b : Tn) : Tn := Tn.mux (bad2 a b) nil (tJoin a b)
def allT : Tn := ⟨0#64, 18446744073709551615#64⟩
def isM (a b : Tn) : Bool := bif noMeet a b then false else true
def order (a b c : Tn) : Bool :=
  bif !true then false
  else bif !may a || !may b || !may c then may a || (!isIn a a && freeW a == -1#64)
  else bif err2 a b != 0#64 || !isIn a a || !isIn a allT || (isIn a b && isIn b a && !eqT a b) || (isIn a b && isIn b c && !isIn a c) then false
  else bif !isIn a (joinR a b) || !isIn b (joinR a b) || (isIn a c && isIn b c && !isIn (joinR a b) c) then false
  else bif (isM a b && (!isIn (meetR a b) a || !isIn (meetR a b) b)) || (isIn c a && isIn c b && (!isM a b || !isIn c (meetR a b))) then false
  else has a a.v && has a (a.v ||| a.m) && ((freeW a == 0#64) == (a.m == 0#64))

/-- Bit by bit. -/
def inB (am av bm bv : Bool) : Bool := !(am && !bm) && (bv == (av && !bm))

theorem isIn_iff {a b : Tn} (ha : may a = true) : isIn a b = true ↔ ∀ i, i < 64 → inB (a.m.getLsbD i) (a.v.getLsbD i) (b.m.getLsbD i) (b.v.getLsbD i) = true := by
  unfold isIn
  simp only [ha, Bool.true_and, Bool.and_eq_true, has_iff, beq_iff_eq, mem_iff_bits]
  constructor
  · rintro ⟨h1, h2⟩ i hi
    have h3 := congrArg (fun x : W => x.getLsbD i) h2
    simp only [BitVec.getLsbD_and, BitVec.getLsbD_not, hi, decide_true, Bool.true_and, BitVec.getLsbD_zero] at h3
    have := h1 i hi
    unfold inB
    rw [this, h3]; simp
  · intro h
    refine ⟨fun i hi => ?_, ?_⟩
    · have := h i hi
      simp only [inB, Bool.and_eq_true, beq_iff_eq] at this
      exact this.2
    · apply BitVec.eq_of_getLsbD_eq
      intro i hi
      have := h i hi
      simp only [inB, Bool.and_eq_true, Bool.not_eq_true'] at this
      simp only [BitVec.getLsbD_and, BitVec.getLsbD_not, hi, decide_true, Bool.true_and, BitVec.getLsbD_zero]
      exact this.1

theorem in_refl {a : Tn} (ha : may a = true) : isIn a a = true := by
  rw [isIn_iff ha]
  intro i hi
  have := may_bit ha i
  revert this
  cases a.m.getLsbD i <;> cases a.v.getLsbD i <;> simp [inB]

theorem in_all {a : Tn} (ha : may a = true) : isIn a allT = true := by
  rw [isIn_iff ha]
  intro i hi
  have e1 : allT.m.getLsbD i = true := by
    show (18446744073709551615#64 : W).getLsbD i = true
    have : (18446744073709551615#64 : W) = BitVec.allOnes 64 := rfl
    rw [this, BitVec.getLsbD_allOnes]; simpa using hi
  have e2 : allT.v.getLsbD i = false := by show (0#64 : W).getLsbD i = false; simp
  rw [e1, e2]
  cases a.m.getLsbD i <;> cases a.v.getLsbD i <;> rfl

theorem in_anti {a b : Tn} (ha : may a = true) (hb : may b = true) (h1 : isIn a b = true) (h2 : isIn b a = true) : eqT a b = true := by
  rw [isIn_iff ha] at h1
  rw [isIn_iff hb] at h2
  have : a = b := tn_ext fun i hi => by
    have k1 := h1 i hi
    have k2 := h2 i hi
    have k3 := may_bit ha i
    have k4 := may_bit hb i
    revert k1 k2 k3 k4
    cases a.m.getLsbD i <;> cases a.v.getLsbD i <;> cases b.m.getLsbD i <;> cases b.v.getLsbD i <;> simp [inB]
  rw [this, eqT_self]

theorem in_trans {a b c : Tn} (ha : may a = true) (hb : may b = true) (h1 : isIn a b = true) (h2 : isIn b c = true) : isIn a c = true := by
  rw [isIn_iff ha] at h1 ⊢
  rw [isIn_iff hb] at h2
  intro i hi
  have k1 := h1 i hi
  have k2 := h2 i hi
  revert k1 k2
  cases a.m.getLsbD i <;> cases a.v.getLsbD i <;> cases b.m.getLsbD i <;> cases b.v.getLsbD i <;> cases c.m.getLsbD i <;> cases c.v.getLsbD i <;> simp [inB]

theorem join_v (a b : Tn) (i : Nat) (hi : i < 64) : (tJoin a b).m.getLsbD i = ((a.v.getLsbD i ^^ b.v.getLsbD i) || a.m.getLsbD i || b.m.getLsbD i) ∧ (tJoin a b).v.getLsbD i = (a.v.getLsbD i && !((a.v.getLsbD i ^^ b.v.getLsbD i) || a.m.getLsbD i || b.m.getLsbD i)) := by
  simp only [tJoin, fit, BitVec.getLsbD_and, BitVec.getLsbD_or, BitVec.getLsbD_xor, BitVec.getLsbD_not, hi, decide_true, Bool.true_and]
  exact ⟨trivial, trivial⟩

theorem meet_v (a b : Tn) (i : Nat) (hi : i < 64) : (tMeet a b).m.getLsbD i = (a.m.getLsbD i && b.m.getLsbD i) ∧ (tMeet a b).v.getLsbD i = ((a.v.getLsbD i || b.v.getLsbD i) && !(a.m.getLsbD i && b.m.getLsbD i)) := by
  simp only [tMeet, fit, BitVec.getLsbD_and, BitVec.getLsbD_or, BitVec.getLsbD_not, hi, decide_true, Bool.true_and]
  exact ⟨trivial, trivial⟩

theorem in_join_l {a b : Tn} (ha : may a = true) (hb : may b = true) : isIn a (tJoin a b) = true := by
  rw [isIn_iff ha]
  intro i hi
  rw [(join_v a b i hi).1, (join_v a b i hi).2]
  cases a.m.getLsbD i <;> cases a.v.getLsbD i <;> cases b.m.getLsbD i <;> cases b.v.getLsbD i <;> rfl

theorem in_join_r {a b : Tn} (ha : may a = true) (hb : may b = true) : isIn b (tJoin a b) = true := by
  rw [isIn_iff hb]
  intro i hi
  rw [(join_v a b i hi).1, (join_v a b i hi).2]
  cases a.m.getLsbD i <;> cases a.v.getLsbD i <;> cases b.m.getLsbD i <;> cases b.v.getLsbD i <;> rfl

theorem join_least {a b c : Tn} (ha : may a = true) (hb : may b = true) (h1 : isIn a c = true) (h2 : isIn b c = true) : isIn (tJoin a b) c = true := by
  rw [isIn_iff (show may (tJoin a b) = true from may_fit _ _)]
  rw [isIn_iff ha] at h1
  rw [isIn_iff hb] at h2
  intro i hi
  have k1 := h1 i hi
  have k2 := h2 i hi
  rw [(join_v a b i hi).1, (join_v a b i hi).2]
  revert k1 k2
  cases a.m.getLsbD i <;> cases a.v.getLsbD i <;> cases b.m.getLsbD i <;> cases b.v.getLsbD i <;> cases c.m.getLsbD i <;> cases c.v.getLsbD i <;> simp [inB]

theorem meet_l {a b : Tn} (ha : may a = true) (hb : may b = true) (hn : noMeet a b = false) : isIn (tMeet a b) a = true ∧ isIn (tMeet a b) b = true := by
  have hnn := (noMeet_iff ha hb).1 hn
  constructor
  · rw [isIn_iff (show may (tMeet a b) = true from may_fit _ _)]
    intro i hi
    have k1 := hnn i hi
    have k2 := may_bit ha i
    have k3 := may_bit hb i
    rw [(meet_v a b i hi).1, (meet_v a b i hi).2]
    revert k1 k2 k3
    cases a.m.getLsbD i <;> cases a.v.getLsbD i <;> cases b.m.getLsbD i <;> cases b.v.getLsbD i <;> simp [inB]
  · rw [isIn_iff (show may (tMeet a b) = true from may_fit _ _)]
    intro i hi
    have k1 := hnn i hi
    have k2 := may_bit ha i
    have k3 := may_bit hb i
    rw [(meet_v a b i hi).1, (meet_v a b i hi).2]
    revert k1 k2 k3
    cases a.m.getLsbD i <;> cases a.v.getLsbD i <;> cases b.m.getLsbD i <;> cases b.v.getLsbD i <;> simp [inB]

theorem meet_great {a b c : Tn} (ha : may a = true) (hb : may b = true) (hc : may c = true) (h1 : isIn c a = true) (h2 : isIn c b = true) : noMeet a b = false ∧ isIn c (tMeet a b) = true := by
  rw [isIn_iff hc] at h1 h2
  constructor
  · rw [noMeet_iff ha hb]
    intro i hi
    have k1 := h1 i hi
    have k2 := h2 i hi
    revert k1 k2
    cases a.m.getLsbD i <;> cases a.v.getLsbD i <;> cases b.m.getLsbD i <;> cases b.v.getLsbD i <;> cases c.m.getLsbD i <;> cases c.v.getLsbD i <;> simp [inB]
  · rw [isIn_iff hc]
    intro i hi
    have k1 := h1 i hi
    have k2 := h2 i hi
    rw [(meet_v a b i hi).1, (meet_v a b i hi).2]
    revert k1 k2
    cases a.m.getLsbD i <;> cases a.v.getLsbD i <;> cases b.m.getLsbD i <;> cases b.v.getLsbD i <;> cases c.m.getLsbD i <;> cases c.v.getLsbD i <;> simp [inB]

theorem free_zero {a : Tn} (ha : may a = true) : (freeW a == 0#64) = (a.m == 0#64) := by
  unfold freeW
  rw [ha]
  obtain ⟨h1, h2⟩ := popW_eq a.m
  simp only [Bool.not_true, cond_false, h1]
  by_cases h : a.m = 0#64
  · have : ones a.m = 0 := (ones_zero a.m).2 h
    rw [this, h]
  · have h0 : ones a.m ≠ 0 := fun e => h ((ones_zero a.m).1 e)
    have : BitVec.ofNat 64 (ones a.m) ≠ 0#64 := by
      intro e
      have := congrArg BitVec.toNat e
      rw [BitVec.toNat_ofNat] at this
      have z : (0#64 : W).toNat = 0 := rfl
      rw [z] at this
      omega
    rw [beq_eq_false_iff_ne.2 this, beq_eq_false_iff_ne.2 h]

theorem hi_mem {t : Tn} (h : may t = true) : has t (t.v ||| t.m) = true := by
  rw [has_iff, mem_iff_bits]
  intro i hi
  have := may_bit h i
  rw [BitVec.getLsbD_or]
  revert this
  cases t.m.getLsbD i <;> cases t.v.getLsbD i <;> simp

theorem imp_false {p q : Bool} (h : p = true → q = true) : (p && !q) = false := by
  cases p <;> cases q <;> simp_all

theorem order_true (a b c : Tn) : order a b c = true := by
  unfold order
  simp only [Bool.not_true, cond_false]
  cases ha : may a with
  | false => 
    have : isIn a a = false := by simp [isIn, ha]
    have hf : freeW a = -1#64 := by simp [freeW, ha]
    rw [this, hf]; rfl
  | true =>
    cases hb : may b with
    | false => rfl
    | true =>
      cases hc : may c with
      | false => rfl
      | true =>
        have hj : joinR a b = tJoin a b := by unfold joinR Tn.mux; rw [bad2_false ha hb]; rfl
        have he : (err2 a b != 0#64) = false := by simp [err2, bad2_false ha hb]
        have c1 : (isIn a b && isIn b a && !eqT a b) = false := imp_false fun h => by
          rw [Bool.and_eq_true] at h; exact in_anti ha hb h.1 h.2
        have c2 : (isIn a b && isIn b c && !isIn a c) = false := imp_false fun h => by
          rw [Bool.and_eq_true] at h; exact in_trans ha hb h.1 h.2
        have c3 : (isIn a c && isIn b c && !isIn (tJoin a b) c) = false := imp_false fun h => by
          rw [Bool.and_eq_true] at h; exact join_least ha hb h.1 h.2
        have c4 : ((isM a b && (!isIn (meetR a b) a || !isIn (meetR a b) b)) || (isIn c a && isIn c b && (!isM a b || !isIn c (meetR a b)))) = false := by
          cases hn : noMeet a b with
          | false =>
            have hm : meetR a b = tMeet a b := by unfold meetR Tn.mux; rw [hn]; rfl
            have his : isM a b = true := by unfold isM; rw [hn]; rfl
            obtain ⟨k1, k2⟩ := meet_l ha hb hn
            rw [hm, his, k1, k2]
            simp only [Bool.not_true, Bool.or_self, Bool.and_false, Bool.false_or]
            exact imp_false fun h => by
              rw [Bool.and_eq_true] at h; exact (meet_great ha hb hc h.1 h.2).2
          | true =>
            have his : isM a b = false := by unfold isM; rw [hn]; rfl
            have : (isIn c a && isIn c b) = false := by
              cases h1 : isIn c a with
              | false => rfl
              | true =>
                cases h2 : isIn c b with
                | false => rfl
                | true =>
                  have := (meet_great ha hb hc h1 h2).1
                  rw [hn] at this; simp at this
            rw [his, this]; rfl
        rw [hj, he, in_refl ha, in_all ha, c1, c2, in_join_l ha hb, in_join_r ha hb, c3, c4, has_iff.2 (may_mem ha), hi_mem ha, free_zero ha]
        simp

end Go.Rf.T

namespace Go.Proofs.Ytkfgohhmicfnhaa
end Go.Proofs.Ytkfgohhmicfnhaa

/- Proved: the law TnumSets answers true at every input: which numbers tnums hold, which is in which, what joins and meets them, are the document's. No condition. -/
namespace Go.Rf.T

def inBad (a b : Tn) (i : Nat) : Bool := (mrk a i ||| mrk b i) != mrk b i
def inAt (a b : Tn) (i : Nat) : InS := ⟨a, b, false, BitVec.ofNat 64 i⟩
theorem in_go (a b : Tn) (i : Nat) (hi : i ≤ 64) : (inAt a b i).go = (decide (i < 64) && !inBad a b i) := by
  have h1 : (inAt a b i).more = decide (i < 64) := ltB_ofNat (by omega) (by decide)
  have h2 : (inAt a b i).bad = inBad a b i := by
    unfold InS.bad inBad
    rw [markB_eq, markB_eq]
    show ((mrk a (BitVec.ofNat 64 i).toNat ||| mrk b (BitVec.ofNat 64 i).toNat) != mrk b (BitVec.ofNat 64 i).toNat) = _
    rw [ofNat_toNat (by omega)]
  rw [InS.go, h1, h2]
theorem in_nxt (a b : Tn) (i : Nat) : (inAt a b i).nxt = inAt a b (i + 1) := by
  unfold InS.nxt inAt
  rw [ofNat_succ]

theorem both_may {a b : Tn} (h : bad2 a b = false) : may a = true ∧ may b = true := by
  unfold bad2 at h
  revert h
  cases may a <;> cases may b <;> simp
theorem not_both {a b : Tn} (h : bad2 a b = true) : may a = false ∨ may b = false := by
  unfold bad2 at h
  revert h
  cases may a <;> cases may b <;> simp

theorem inBad_eq {a b : Tn} (ha : may a = true) (hb : may b = true) (i : Nat) : inBad a b i = !inB (a.m.getLsbD i) (a.v.getLsbD i) (b.m.getLsbD i) (b.v.getLsbD i) := by
  unfold inBad
  rcases mk_cases ha i with ⟨h1, h2, h3⟩ | ⟨h1, h2, h3⟩ | ⟨h1, h2, h3⟩ <;> rcases mk_cases hb i with ⟨h4, h5, h6⟩ | ⟨h4, h5, h6⟩ | ⟨h4, h5, h6⟩ <;>
    rw [h1, h2, h3, h4, h5, h6] <;> rfl

theorem inD_eq (a b : Tn) : inD a b = isIn a b := by
  unfold inD
  cases hb2 : bad2 a b with
  | true =>
    show false = isIn a b
    unfold isIn has
    rcases not_both hb2 with h | h <;> rw [h] <;> simp
  | false =>
    obtain ⟨ha, hb⟩ := both_may hb2
    show (bif inRun a b then false else true) = _
    rcases runN_find (go := InS.go) (next := InS.nxt) (inAt a b) (inBad a b) 64 (in_go a b) (fun i _ _ => in_nxt a b i) 64 0 (by omega) with ⟨j, _, hj, hbad, e⟩ | ⟨hall, e⟩
    · have h1 : inRun a b = true := by
        unfold inRun
        show (runN InS.go InS.nxt 64 (inAt a b 0)).more = true
        rw [e]
        show ltB .i64 (BitVec.ofNat 64 j) (BitVec.ofNat 64 64) = true
        rw [ltB_ofNat (by omega) (by decide)]; exact decide_eq_true hj
      rw [h1]
      have h2 : isIn a b ≠ true := by
        rw [Ne, isIn_iff ha]
        intro h
        have := h j hj
        rw [inBad_eq ha hb] at hbad
        rw [this] at hbad
        cases hbad
      cases h3 : isIn a b with
      | true => exact absurd h3 h2
      | false => rfl
    · have h1 : inRun a b = false := by
        unfold inRun
        show (runN InS.go InS.nxt 64 (inAt a b 0)).more = false
        rw [e]
        show ltB .i64 (BitVec.ofNat 64 64) (BitVec.ofNat 64 64) = false
        rw [ltB_ofNat (by omega) (by decide)]; rfl
      rw [h1]
      symm
      rw [cond_false, isIn_iff ha]
      intro i hi
      have := hall i (by omega) hi
      rw [inBad_eq ha hb] at this
      simpa using this

/-! Free. -/
def frAt (t : Tn) (i : Nat) : FrS := ⟨t, BitVec.ofNat 64 (sumN i fun j => (t.m.getLsbD j).toNat), BitVec.ofNat 64 i⟩
theorem fr_nxt (t : Tn) (i : Nat) (hi : i < 64) : (frAt t i).nxt = frAt t (i + 1) := by
  have h : (frAt t i).is = t.m.getLsbD i := by
    unfold FrS.is
    rw [markB_eq]
    show (mrk t (BitVec.ofNat 64 i).toNat == 3#64) = _
    rw [ofNat_toNat (by omega)]
    unfold mrk
    cases t.m.getLsbD i <;> cases t.v.getLsbD i <;> rfl
  unfold FrS.nxt
  rw [h]
  unfold frAt
  rw [sumN]
  cases t.m.getLsbD i with
  | true => simp only [if_true, Bool.toNat_true]; rw [ofNat_succ, ofNat_succ]
  | false => simp only [Bool.false_eq_true, if_false, Bool.toNat_false, Nat.add_zero]; rw [ofNat_succ]

theorem freeD_eq (t : Tn) : freeD t = freeW t := by
  unfold freeD freeW
  cases may t with
  | false => rfl
  | true =>
    simp only [Bool.not_true, cond_false]
    have e := runN_count (go := FrS.go) (next := FrS.nxt) (frAt t) 64 (fun i hi => ltB_ofNat (by omega) (by decide)) (fr_nxt t)
    show (runN FrS.go FrS.nxt 64 (frAt t 0)).n = _
    rw [e, (popW_eq t.m).1]
    rfl

/-! Join. -/
def joAt (a b : Tn) (i : Nat) : JoS := ⟨a, b, BitVec.ofNat 64 i, fun j => if j < i then mrk a j ||| mrk b j else 0#64⟩
theorem upd_next (f : Nat → W) (i : Nat) : upd (fun j => if j < i then f j else 0#64) i (f i) = fun j => if j < i + 1 then f j else 0#64 := by
  funext j
  unfold upd
  by_cases h : j = i
  · subst h; simp
  · rw [if_neg h]
    by_cases h2 : j < i
    · show (if j < i then f j else 0#64) = _
      rw [if_pos h2, if_pos (by omega)]
    · show (if j < i then f j else 0#64) = _
      rw [if_neg h2, if_neg (by omega)]
theorem jo_nxt (a b : Tn) (i : Nat) (hi : i < 64) : (joAt a b i).nxt = joAt a b (i + 1) := by
  unfold JoS.nxt
  rw [markB_eq, markB_eq]
  show (⟨a, b, BitVec.ofNat 64 i + 1#64, upd _ (ixN (BitVec.ofNat 64 i)) (mrk a (BitVec.ofNat 64 i).toNat ||| mrk b (BitVec.ofNat 64 i).toNat)⟩ : JoS) = _
  rw [ofNat_toNat (by omega), ixN_ofNat (by omega), ofNat_succ]
  unfold joAt
  congr 1
  exact upd_next (fun j => mrk a j ||| mrk b j) i

theorem joL_eq (a b : Tn) (j : Nat) (hj : j < 64) : joL a b j = mrk a j ||| mrk b j := by
  unfold joL
  have e0 : (⟨a, b, 0#64, fun _ => 0#64⟩ : JoS) = joAt a b 0 := by
    unfold joAt; congr 1
  rw [e0, runN_count (go := JoS.go) (next := JoS.nxt) (joAt a b) 64 (fun i hi => ltB_ofNat (by omega) (by decide)) (jo_nxt a b)]
  show (if j < 64 then mrk a j ||| mrk b j else 0#64) = _
  rw [if_pos hj]

theorem join_eq {a b : Tn} (ha : may a = true) (hb : may b = true) : made (joL a b) = tJoin a b := by
  refine tn_ext fun j hj => ?_
  rw [(made_bits _ j hj).1, (made_bits _ j hj).2, joL_eq a b j hj, (join_v a b j hj).1, (join_v a b j hj).2]
  rcases mk_cases ha j with ⟨h1, h2, h3⟩ | ⟨h1, h2, h3⟩ | ⟨h1, h2, h3⟩ <;> rcases mk_cases hb j with ⟨h4, h5, h6⟩ | ⟨h4, h5, h6⟩ | ⟨h4, h5, h6⟩ <;>
    rw [h1, h2, h3, h4, h5, h6] <;> exact ⟨by kernel_rfl, by kernel_rfl⟩

/-! Meet. -/
def meBad (a b : Tn) (i : Nat) : Bool := (mrk a i &&& mrk b i) == 0#64
def meAt (a b : Tn) (i : Nat) : MeS := ⟨a, b, nil, false, BitVec.ofNat 64 i, fun j => if j < i then mrk a j &&& mrk b j else 0#64⟩
theorem me_l (a b : Tn) (i : Nat) (hi : i ≤ 64) : (meAt a b i).l' = fun j => if j < i + 1 then mrk a j &&& mrk b j else 0#64 := by
  unfold MeS.l'
  rw [markB_eq, markB_eq]
  show upd _ (ixN (BitVec.ofNat 64 i)) (mrk a (BitVec.ofNat 64 i).toNat &&& mrk b (BitVec.ofNat 64 i).toNat) = _
  rw [ofNat_toNat (by omega), ixN_ofNat (by omega)]
  exact upd_next (fun j => mrk a j &&& mrk b j) i
theorem me_go (a b : Tn) (i : Nat) (hi : i ≤ 64) : (meAt a b i).go = (decide (i < 64) && !meBad a b i) := by
  have h1 : (meAt a b i).more = decide (i < 64) := ltB_ofNat (by omega) (by decide)
  have h2 : (meAt a b i).bad = meBad a b i := by
    unfold MeS.bad meBad
    rw [me_l a b i hi]
    show ((if ixN (BitVec.ofNat 64 i) < i + 1 then mrk a (ixN (BitVec.ofNat 64 i)) &&& mrk b (ixN (BitVec.ofNat 64 i)) else 0#64) == 0#64) = _
    rw [ixN_ofNat (by omega), if_pos (by omega)]
  rw [MeS.go, h1, h2]
theorem me_nxt (a b : Tn) (i : Nat) (hi : i < 64) : (meAt a b i).nxt = meAt a b (i + 1) := by
  unfold MeS.nxt
  rw [me_l a b i (by omega)]
  show (⟨a, b, nil, false, BitVec.ofNat 64 i + 1#64, _⟩ : MeS) = _
  rw [ofNat_succ]
  rfl

theorem meBad_eq {a b : Tn} (ha : may a = true) (hb : may b = true) (i : Nat) : meBad a b i = !(a.m.getLsbD i || b.m.getLsbD i || (a.v.getLsbD i == b.v.getLsbD i)) := by
  unfold meBad
  rcases mk_cases ha i with ⟨h1, h2, h3⟩ | ⟨h1, h2, h3⟩ | ⟨h1, h2, h3⟩ <;> rcases mk_cases hb i with ⟨h4, h5, h6⟩ | ⟨h4, h5, h6⟩ | ⟨h4, h5, h6⟩ <;>
    rw [h1, h2, h3, h4, h5, h6] <;> rfl

theorem meRun_eq {a b : Tn} (ha : may a = true) (hb : may b = true) :
    (noMeet a b = true ∧ (meRun a b).more = true) ∨ (noMeet a b = false ∧ (meRun a b).more = false ∧ made (meRun a b).l = tMeet a b) := by
  have e0 : (⟨a, b, nil, false, 0#64, fun _ => 0#64⟩ : MeS) = meAt a b 0 := by
    unfold meAt; congr 1
  unfold meRun
  rw [e0]
  rcases runN_find (go := MeS.go) (next := MeS.nxt) (meAt a b) (meBad a b) 64 (me_go a b) (fun i hi _ => me_nxt a b i hi) 64 0 (by omega) with ⟨j, _, hj, hbad, e⟩ | ⟨hall, e⟩
  · left
    refine ⟨?_, ?_⟩
    · cases h : noMeet a b with
      | true => rfl
      | false =>
        have := (noMeet_iff ha hb).1 h j hj
        rw [meBad_eq ha hb, this] at hbad
        cases hbad
    · rw [e]
      show ltB .i64 (BitVec.ofNat 64 j) (BitVec.ofNat 64 64) = true
      rw [ltB_ofNat (by omega) (by decide)]; exact decide_eq_true hj
  · right
    refine ⟨?_, ?_, ?_⟩
    · rw [noMeet_iff ha hb]
      intro i hi
      have := hall i (by omega) hi
      rw [meBad_eq ha hb] at this
      simpa only [Bool.not_eq_false'] using this
    · rw [e]
      show ltB .i64 (BitVec.ofNat 64 64) (BitVec.ofNat 64 64) = false
      rw [ltB_ofNat (by omega) (by decide)]; rfl
    · rw [e]
      refine tn_ext fun j hj => ?_
      have el : (meAt a b 64).l j = mrk a j &&& mrk b j := by
        show (if j < 64 then mrk a j &&& mrk b j else 0#64) = _
        rw [if_pos hj]
      have hb' := hall j (by omega) hj
      rw [(made_bits _ j hj).1, (made_bits _ j hj).2, el, (meet_v a b j hj).1, (meet_v a b j hj).2]
      unfold meBad at hb'
      revert hb'
      rcases mk_cases ha j with ⟨h1, h2, h3⟩ | ⟨h1, h2, h3⟩ | ⟨h1, h2, h3⟩ <;> rcases mk_cases hb j with ⟨h4, h5, h6⟩ | ⟨h4, h5, h6⟩ | ⟨h4, h5, h6⟩ <;>
        rw [h1, h2, h3, h4, h5, h6] <;> intro hb' <;> first | (exfalso; revert hb'; decide) | exact ⟨by kernel_rfl, by kernel_rfl⟩
/-! Has. -/
def haBad (t : Tn) (n : W) (i : Nat) : Bool := (mrk t i &&& (if n.getLsbD i then 2#64 else 1#64)) == 0#64
def haAt (t : Tn) (n : W) (i : Nat) : HaS := ⟨t, n, false, BitVec.ofNat 64 i⟩
theorem ha_go (t : Tn) (n : W) (i : Nat) (hi : i ≤ 64) : (haAt t n i).go = (decide (i < 64) && !haBad t n i) := by
  have h1 : (haAt t n i).more = decide (i < 64) := ltB_ofNat (by omega) (by decide)
  have h2 : (haAt t n i).bad = haBad t n i := by
    unfold HaS.bad HaS.off HaS.one haBad
    rw [markB_eq, bitB_eq]
    show (if n.getLsbD (BitVec.ofNat 64 i).toNat then (mrk t (BitVec.ofNat 64 i).toNat &&& 2#64) == 0#64 else (mrk t (BitVec.ofNat 64 i).toNat &&& 1#64) == 0#64) = _
    rw [ofNat_toNat (by omega)]
    cases n.getLsbD i <;> rfl
  rw [HaS.go, h1, h2]
theorem ha_nxt (t : Tn) (n : W) (i : Nat) : (haAt t n i).nxt = haAt t n (i + 1) := by
  unfold HaS.nxt haAt
  rw [ofNat_succ]
theorem haBad_eq {t : Tn} (h : may t = true) (n : W) (i : Nat) : haBad t n i = !(t.v.getLsbD i == (n.getLsbD i && !t.m.getLsbD i)) := by
  unfold haBad
  rcases mk_cases h i with ⟨h1, h2, h3⟩ | ⟨h1, h2, h3⟩ | ⟨h1, h2, h3⟩ <;> rw [h1, h2, h3] <;> cases n.getLsbD i <;> rfl

theorem hasD_eq (t : Tn) (n : W) : hasD t n = has t n := by
  unfold hasD
  cases ht : may t with
  | false => unfold has; rw [ht]; rfl
  | true =>
    show (bif haRun t n then false else true) = _
    rcases runN_find (go := HaS.go) (next := HaS.nxt) (haAt t n) (haBad t n) 64 (ha_go t n) (fun i _ _ => ha_nxt t n i) 64 0 (by omega) with ⟨j, _, hj, hbad, e⟩ | ⟨hall, e⟩
    · have h1 : haRun t n = true := by
        unfold haRun
        show (runN HaS.go HaS.nxt 64 (haAt t n 0)).more = true
        rw [e]
        show ltB .i64 (BitVec.ofNat 64 j) (BitVec.ofNat 64 64) = true
        rw [ltB_ofNat (by omega) (by decide)]; exact decide_eq_true hj
      rw [h1]
      cases h3 : has t n with
      | false => rfl
      | true =>
        have := mem_iff_bits.1 (has_iff.1 h3) j hj
        rw [haBad_eq ht, this] at hbad
        simp at hbad
    · have h1 : haRun t n = false := by
        unfold haRun
        show (runN HaS.go HaS.nxt 64 (haAt t n 0)).more = false
        rw [e]
        show ltB .i64 (BitVec.ofNat 64 64) (BitVec.ofNat 64 64) = false
        rw [ltB_ofNat (by omega) (by decide)]; rfl
      rw [h1]
      symm
      rw [cond_false, has_iff, mem_iff_bits]
      intro i hi
      have := hall i (by omega) hi
      rw [haBad_eq ht] at this
      simpa only [Bool.not_eq_false', beq_iff_eq] using this

def sets (a b : Tn) (n : W) : Bool :=
  bif !eqT (joinR a b) (Tn.mux (bad2 a b) nil (made (joL a b))) || err2 a b != err2 a b || !eqT (meetR a b) (meetD a b) || isM a b != meetDB a b then false
  else true && may a == may a && has a n == hasD a n && isIn a b == inD a b && freeW a == freeD a && eqT (of n) ⟨n, 0#64⟩ && eqT allT allT

theorem meet_same (a b : Tn) : meetR a b = meetD a b ∧ isM a b = meetDB a b := by
  unfold meetR meetD isM meetDB
  cases h : bad2 a b with
  | true =>
    have : noMeet a b = true := by
      unfold noMeet
      rcases not_both h with h | h <;> rw [h] <;> simp
    rw [this]
    exact ⟨rfl, rfl⟩
  | false =>
    obtain ⟨ha, hb⟩ := both_may h
    rcases meRun_eq ha hb with ⟨h1, h2⟩ | ⟨h1, h2, h3⟩
    · rw [h1, h2]; exact ⟨rfl, rfl⟩
    · rw [h1, h2, h3]; exact ⟨rfl, rfl⟩

theorem mux_true (x y : Tn) : Tn.mux true x y = x := rfl
theorem join_same (a b : Tn) : joinR a b = Tn.mux (bad2 a b) nil (made (joL a b)) := by
  unfold joinR
  cases h : bad2 a b with
  | true => rw [mux_true, mux_true]
  | false =>
    obtain ⟨ha, hb⟩ := both_may h
    rw [join_eq ha hb]

theorem sets_true (a b : Tn) (n : W) : sets a b n = true := by
  unfold sets
  rw [← join_same, ← (meet_same a b).1, ← (meet_same a b).2, hasD_eq, inD_eq, freeD_eq]
  simp [eqT, of, allT]

end Go.Rf.T

namespace Go.Proofs.Ytkfgohhmicfnhaa
end Go.Proofs.Ytkfgohhmicfnhaa
