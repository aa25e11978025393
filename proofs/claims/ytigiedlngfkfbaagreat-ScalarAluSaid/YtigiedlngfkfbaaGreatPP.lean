/- Plain laws, together. -/
import Derived.Test.YtigiedlngfkfbaaGreatUt
set_option linter.unusedVariables false
set_option linter.unusedSimpArgs false

/- Spans: the program's functions but for Alu. -/
namespace Go.Rf

structure Sp where
  lo : W
  hi : W

def fSp : FCod Sp := FCod.agg2 fW fW Sp.mk Sp.lo Sp.hi (fun _ _ => rfl) (fun _ _ => rfl)
def cSp : Cod Sp := fSp.one
def eSp (s : Sp) : AV := cSp.enc s
def Sp.mux (c : Bool) (x y : Sp) : Sp := ⟨bif c then x.lo else y.lo, bif c then x.hi else y.hi⟩
def nilS : Sp := ⟨0, 0⟩

def mayS (s : Sp) : Bool := leB .u64 s.lo s.hi
noncomputable def sl1 : List (FuncId × Con) := [(20, con1 cSp fun s => eB (mayS s)), (17, con1 cSp fun s => eB (mayS s))]
end Go.Rf

/- Spans: the walks down the bits. -/
namespace Go.Rf

structure DoS where
  a : Sp
  b : Sp
  x : W
  y : W
  m : W

/-- What one bit brings: is it over, x, y. -/
structure Fam where
  stop : DoS → Bool
  x : DoS → W
  y : DoS → W

def DoS.more (s : DoS) : Bool := ltB .u64 0#64 s.m
def Fam.go (F : Fam) (s : DoS) : Bool := s.more && !F.stop s
def Fam.nxt (F : Fam) (s : DoS) : DoS := ⟨s.a, s.b, F.x s, F.y s, s.m >>> 1⟩
def Fam.rt (F : Fam) (s : DoS) : DoS := ⟨s.a, s.b, F.x s, F.y s, s.m⟩
def Fam.step (F : Fam) (s : DoS) : Rd DoS := .br s.more (.br (F.stop s) (.ret (F.rt s)) (.norm (F.nxt s))) (.exit 0 s)
def Fam.step0 (F : Fam) (s : DoS) : Rd DoS := .br s.more (.norm (F.nxt s)) (.exit 0 s)
def Fam.run (F : Fam) (s : DoS) : DoS := runN F.go F.nxt 64 s
def Fam.T (F : Fam) (s : DoS) : Rd DoS := .br (F.run s).more (.ret (F.rt (F.run s))) (.exit 0 (F.run s))
def Fam.T0 (F : Fam) (s : DoS) : Rd DoS := .exit 0 (F.run s)
def bl (n : Nat) : Nat := if n = 0 then 0 else Nat.log2 n + 1
def DoS.mu (s : DoS) : Nat := bl s.m.toNat
def DoS.inv (_ : DoS) : Prop := True

theorem bl_half {n : Nat} (h : n ≠ 0) : bl (n / 2) < bl n := by
  unfold bl
  rw [if_neg h]
  by_cases h2 : n / 2 = 0
  · rw [if_pos h2]; omega
  · rw [if_neg h2]
    have : Nat.log2 n = Nat.log2 (n / 2) + 1 := by
      rw [Nat.log2_def, if_pos (by omega)]
    omega
theorem bl_le {n : Nat} (h : n < 2 ^ 64) : bl n ≤ 64 := by
  unfold bl
  by_cases h0 : n = 0
  · rw [if_pos h0]; omega
  · rw [if_neg h0]
    have := (Nat.log2_lt h0).2 h
    omega
theorem more_iff (s : DoS) : s.more = true ↔ s.m.toNat ≠ 0 := by
  unfold DoS.more ltB
  show BitVec.ult 0#64 s.m = true ↔ _
  unfold BitVec.ult
  simp
  omega

theorem Fam.dec (F : Fam) (s : DoS) (h : s.inv) (hg : F.go s = true) : (F.nxt s).inv ∧ (F.nxt s).mu < s.mu := by
  refine ⟨trivial, ?_⟩
  simp only [Fam.go, Bool.and_eq_true, more_iff] at hg
  have e : (F.nxt s).m.toNat = s.m.toNat / 2 := by
    show (s.m >>> 1).toNat = _
    rw [BitVec.toNat_ushiftRight, Nat.shiftRight_eq_div_pow]
  unfold DoS.mu
  rw [e]
  exact bl_half hg.1

theorem Fam.good (F : Fam) : ∀ s, DoS.inv s → Good DoS.inv DoS.mu F.T s (F.step s).sel := by
  refine good_ret (go := F.go) (next := F.nxt) (out := DoS.more) (rt := F.rt) F.dec (fun s h => bl_le s.m.isLt) ?_ ?_ ?_
  · intro s hi hg
    simp only [Fam.go, Bool.and_eq_true, Bool.not_eq_true'] at hg
    simp only [Fam.step, Rd.sel, hg.1, hg.2, if_true, Bool.false_eq_true, if_false]
  · intro s hi hg ho
    simp only [Fam.go, ho, Bool.true_and, Bool.not_eq_false'] at hg
    simp only [Fam.step, Rd.sel, ho, hg, if_true]
  · intro s hi hg ho
    simp only [Fam.step, Rd.sel, ho, Bool.false_eq_true, if_false]

theorem Fam.good0 (F : Fam) (hF : ∀ s, F.stop s = false) : ∀ s, DoS.inv s → Good DoS.inv DoS.mu F.T0 s (F.step0 s).sel := by
  refine good_run (go := F.go) (next := F.nxt) F.dec (fun s h => bl_le s.m.isLt) ?_ ?_
  · intro s hi hg
    simp only [Fam.go, hF, Bool.not_false, Bool.and_true] at hg
    simp only [Fam.step0, Rd.sel, hg, if_true]
  · intro s hi hg
    simp only [Fam.go, hF, Bool.not_false, Bool.and_true] at hg
    simp only [Fam.step0, Rd.sel, hg, Bool.false_eq_true, if_false]

def upW (x m : W) : W := (x ||| m) &&& (-m)
def wiW (x m : W) : W := (x &&& ~~~m) ||| (m - 1#64)

noncomputable def sl2 : List (FuncId × Con) := (54, con2 cW cW fun x m => eW (upW x m)) :: (56, con2 cW cW fun x m => eW (wiW x m)) :: sl1
def pDn : List Nat := [1, 4]
/-- Two tests, of which either ends the walk. -/
def famOf (c1 c2 : DoS → Bool) (u v : DoS → W) : Fam where
  stop s := bif c1 s then true else bif c2 s then true else false
  x s := bif c1 s then u s else s.x
  y s := bif c1 s then s.y else bif c2 s then v s else s.y

def isN (x : W) : Bool := x == 0#64
def isS (x : W) : Bool := x != 0#64
def DoS.ux (s : DoS) : W := upW s.x s.m
def DoS.uy (s : DoS) : W := upW s.y s.m
def DoS.wx (s : DoS) : W := wiW s.x s.m
def DoS.wy (s : DoS) : W := wiW s.y s.m

/-- One test ahead that lets the bit go by. -/
def famBy (c0 c1 c2 : DoS → Bool) (u v : DoS → W) : Fam where
  stop s := bif c0 s then false else bif c1 s then true else bif c2 s then true else false
  x s := bif c0 s then s.x else bif c1 s then u s else s.x
  y s := bif c0 s then s.y else bif c1 s then s.y else bif c2 s then v s else s.y
/-- The walk never ends ahead of the last bit. -/
def famX (c1 c2 : DoS → Bool) (u v : DoS → W) : Fam where
  stop _ := false
  x s := bif c1 s then u s else s.x
  y s := bif c1 s then s.y else bif c2 s then v s else s.y
def famBX (c0 c1 c2 : DoS → Bool) (u v : DoS → W) : Fam where
  stop _ := false
  x s := bif c0 s then s.x else bif c1 s then u s else s.x
  y s := bif c0 s then s.y else bif c1 s then s.y else bif c2 s then v s else s.y

def xOff (s : DoS) : Bool := isN (s.x &&& s.m)
def xOn (s : DoS) : Bool := isS (s.x &&& s.m)
def yOff (s : DoS) : Bool := isN (s.y &&& s.m)
def yOn (s : DoS) : Bool := isS (s.y &&& s.m)
def xUp (s : DoS) : Bool := leB .u64 s.ux s.a.hi
def yUp (s : DoS) : Bool := leB .u64 s.uy s.b.hi
def xIn (s : DoS) : Bool := leB .u64 s.a.lo s.wx
def yIn (s : DoS) : Bool := leB .u64 s.b.lo s.wy
def notBoth (s : DoS) : Bool := isN (s.x &&& s.y &&& s.m)
def someOn (s : DoS) : Bool := isS ((s.x ||| s.y) &&& s.m)
def fLO : Fam := famOf (fun s => xOff s && yOn s && xUp s) (fun s => xOn s && yOff s && yUp s) DoS.ux DoS.uy
def fMO : Fam := famBy notBoth xIn yIn DoS.wx DoS.wy
def fLA : Fam := famBy someOn xUp yUp DoS.ux DoS.uy
def fMA : Fam := famOf (fun s => xOn s && yOff s && xIn s) (fun s => xOff s && yOn s && yIn s) DoS.wx DoS.wy
def fLX : Fam := famX (fun s => xOff s && yOn s && xUp s) (fun s => xOn s && yOff s && yUp s) DoS.ux DoS.uy
def fMX : Fam := famBX notBoth xIn yIn DoS.wx DoS.wy

def top1 : W := 9223372036854775808#64
def sLo (a b : Sp) : DoS := ⟨a, b, a.lo, b.lo, top1⟩
def sHi (a b : Sp) : DoS := ⟨a, b, a.hi, b.hi, top1⟩
def Fam.fx (F : Fam) (s : DoS) : W := bif (F.run s).more then F.x (F.run s) else (F.run s).x
def Fam.fy (F : Fam) (s : DoS) : W := bif (F.run s).more then F.y (F.run s) else (F.run s).y
def leastOr (a b : Sp) : W := fLO.fx (sLo a b) ||| fLO.fy (sLo a b)
def mostOr (a b : Sp) : W := fMO.fx (sHi a b) ||| fMO.fy (sHi a b)
def leastAnd (a b : Sp) : W := fLA.fx (sLo a b) &&& fLA.fy (sLo a b)
def mostAnd (a b : Sp) : W := fMA.fx (sHi a b) &&& fMA.fy (sHi a b)
def leastXor (a b : Sp) : W := (fLX.run (sLo a b)).x ^^^ (fLX.run (sLo a b)).y
def mostXor (a b : Sp) : W := (fMX.run (sHi a b)).x ^^^ (fMX.run (sHi a b)).y

noncomputable def sl3 : List (FuncId × Con) :=
  (34, con2 cSp cSp fun a b => eW (leastOr a b)) :: (35, con2 cSp cSp fun a b => eW (mostOr a b)) ::
  (36, con2 cSp cSp fun a b => eW (leastAnd a b)) :: (37, con2 cSp cSp fun a b => eW (mostAnd a b)) ::
  (39, con2 cSp cSp fun a b => eW (leastXor a b)) :: (40, con2 cSp cSp fun a b => eW (mostXor a b)) :: sl2
end Go.Rf

/- Spans: the document's counting loops; small functions; the statements' awake test. -/
namespace Go.Rf

structure CtS where
  b : W
  n : W
  i : W

def pCt : List Nat := [1, 1, 0, 1, 4]
def CtS.go (s : CtS) : Bool := ltB .i64 s.i s.b
def CtS.nxt (f : W → W) (s : CtS) : CtS := ⟨s.b, f s.n, s.i + 1#64⟩
def CtS.step (f : W → W) (s : CtS) : Rd CtS := .br s.go (.norm (s.nxt f)) (.exit 0 s)
def CtS.inv (s : CtS) : Prop := 0 ≤ s.i.toInt
def CtS.mu (s : CtS) : Nat := (s.b.toInt - s.i.toInt).toNat

theorem ltI {x y : W} : ltB .i64 x y = decide (x.toInt < y.toInt) := by
  show x.slt y = _
  rfl
theorem succ_int {x y : W} (h : x.toInt < y.toInt) : (x + 1#64).toInt = x.toInt + 1 := by
  have h1 := y.toInt_lt
  have h2 := x.le_toInt
  have e : (1#64 : W).toInt = 1 := rfl
  rw [BitVec.toInt_add, e, Int.bmod_def]
  simp only [show (64 - 1 : Nat) = 63 from rfl] at h1 h2
  omega

theorem CtS.dec (f : W → W) (s : CtS) (h : s.inv) (hg : s.go = true) : (s.nxt f).inv ∧ (s.nxt f).mu < s.mu := by
  rw [CtS.go, ltI, decide_eq_true_eq] at hg
  have e : (s.nxt f).i.toInt = s.i.toInt + 1 := succ_int hg
  have e2 : (s.nxt f).b = s.b := rfl
  have h' : 0 ≤ s.i.toInt := h
  simp only [CtS.inv, CtS.mu, e, e2]
  omega

def CtS.run (f : W → W) (s : CtS) : CtS := runN CtS.go (CtS.nxt f) s.mu s
def CtS.T (f : W → W) (s : CtS) : Rd CtS := .exit 0 (s.run f)
theorem CtS.good (f : W → W) : ∀ s, CtS.inv s → Good CtS.inv CtS.mu (CtS.T f) s (s.step f).sel := by
  refine good_mu (go := CtS.go) (next := CtS.nxt f) (CtS.dec f) ?_ ?_
  · intro s hi hg
    simp only [CtS.step, Rd.sel, hg, if_true]
  · intro s hi hg
    simp only [CtS.step, Rd.sel, hg, Bool.false_eq_true, if_false]

def twice1 (n : W) : W := 2#64 * n + 1#64
def twice (n : W) : W := 2#64 * n

def topW (b : W) : W := (CtS.run twice1 ⟨b, 0#64, 0#64⟩).n
def powWr (b : W) : W := (CtS.run twice ⟨b, 1#64, 0#64⟩).n
/-! Small functions. -/
def minU (x y : W) : W := bif ltB .u64 y x then y else x
def maxU (x y : W) : W := bif ltB .u64 x y then y else x
def minI (x y : W) : W := bif ltB .i64 y x then y else x
def maxI (x y : W) : W := bif ltB .i64 x y then y else x
def hasS (s : Sp) (n : W) : Bool := leB .u64 s.lo n && leB .u64 n s.hi
def inS (a b : Sp) : Bool := mayS a && leB .u64 b.lo a.lo && leB .u64 a.hi b.hi
def ofS (n : W) : Sp := ⟨n, n⟩
def allS : Sp := ⟨0, 18446744073709551615#64⟩
def meetS (a b : Sp) : Sp := ⟨maxU a.lo b.lo, minU a.hi b.hi⟩
def noMeetS (a b : Sp) : Bool := !mayS a || !mayS b || !mayS (meetS a b)
def resSB (c : Bool) (s : Sp) : AV := pair (eSp (Sp.mux c nilS s)) (eB (bif c then false else true))
def resSE (c : Bool) (s : Sp) : AV := pair (eSp (Sp.mux c nilS s)) (eI (bif c then 1#64 else 0#64))
def joinS (a b : Sp) : Sp := Sp.mux (mayS a && mayS b) ⟨minU a.lo b.lo, maxU a.hi b.hi⟩ (Sp.mux (mayS a) a (Sp.mux (mayS b) b nilS))
def cutN (n : W) : W := maxI 0#64 (minI n 64#64)
def shI (x n : W) : W := shrB .u64 x (amt .i64 n)
def topK (k : W) : W := (1#64 <<< amt .i64 k) - 1#64
def cutS (s : Sp) (n : W) : Sp :=
  Sp.mux (!mayS s || cutN n == 64#64) (Sp.mux (mayS s) s nilS)
    (Sp.mux (shI s.lo (cutN n) != shI s.hi (cutN n)) ⟨0, topK (cutN n)⟩ ⟨s.lo &&& topK (cutN n), s.hi &&& topK (cutN n)⟩)

theorem maxI_int (x y : W) : (maxI x y).toInt = max x.toInt y.toInt := by
  unfold maxI
  rw [ltI]
  by_cases h : x.toInt < y.toInt
  · rw [decide_eq_true h]; show y.toInt = _; omega
  · rw [decide_eq_false h]; show x.toInt = _; omega
theorem minI_int (x y : W) : (minI x y).toInt = min x.toInt y.toInt := by
  unfold minI
  rw [ltI]
  by_cases h : y.toInt < x.toInt
  · rw [decide_eq_true h]; show y.toInt = _; omega
  · rw [decide_eq_false h]; show x.toInt = _; omega
theorem cutN_int (n : W) : (cutN n).toInt = max 0 (min n.toInt 64) := by
  unfold cutN
  rw [maxI_int, minI_int]; rfl
theorem cutN_pos (n : W) : 0 ≤ toZ .i64 (cutN n) := by
  show 0 ≤ (cutN n).toInt
  rw [cutN_int]; omega

/-! The document's. -/
def meetD (a b : Sp) : Sp := ⟨bif ltB .u64 a.lo b.lo then bif ltB .u64 b.hi a.hi then b.lo else b.lo else bif ltB .u64 b.hi a.hi then a.lo else a.lo,
  bif ltB .u64 a.lo b.lo then bif ltB .u64 b.hi a.hi then b.hi else a.hi else bif ltB .u64 b.hi a.hi then b.hi else a.hi⟩
def noMeetD (a b : Sp) : Bool := !mayS a || !mayS b || ltB .u64 a.hi b.lo || ltB .u64 b.hi a.lo
def joinD (a b : Sp) : Sp := Sp.mux (!mayS a && !mayS b) nilS (Sp.mux (!mayS a) b (Sp.mux (!mayS b) a
  ⟨bif ltB .u64 b.lo a.lo then bif ltB .u64 a.hi b.hi then b.lo else b.lo else bif ltB .u64 a.hi b.hi then a.lo else a.lo,
   bif ltB .u64 b.lo a.lo then bif ltB .u64 a.hi b.hi then b.hi else a.hi else bif ltB .u64 a.hi b.hi then b.hi else a.hi⟩))
noncomputable def sl4 : List (FuncId × Con) :=
  (29, con1 cI fun b => eW (topW b)) :: (48, con1 cI fun b => eW (powWr b)) :: (21, con2 cSp cW fun s n => eB (hasS s n)) ::
  (22, con2 cSp cSp fun a b => eB (inS a b)) :: (23, con1 cW fun n => eSp (ofS n)) :: (24, con0 (eSp allS)) ::
  (25, con2 cSp cSp fun a b => resSB (noMeetS a b) (meetS a b)) :: (27, con2 cSp cSp fun a b => eSp (joinS a b)) ::
  (12, con2 cSp cI fun s n => eSp (cutS s n)) :: (26, con2 cSp cSp fun a b => resSB (noMeetD a b) (meetD a b)) ::
  (28, con2 cSp cSp fun a b => eSp (joinD a b)) :: sl3
end Go.Rf

/- Spans: the awake test; the document's Cut. -/
namespace Go.Rf

def cutBad (s : Sp) (t : W) : Bool := ltB .u64 t (s.hi - s.lo) || ltB .u64 (s.hi &&& t) (s.lo &&& t)
def cutTo (s : Sp) (t : W) : Sp := Sp.mux (cutBad s t) ⟨0, t⟩ ⟨s.lo &&& t, s.hi &&& t⟩
def cutD (s : Sp) (n : W) : Sp :=
  Sp.mux (!mayS s) nilS (Sp.mux (ltB .i64 n 0#64) (cutTo s (topW 0#64)) (Sp.mux (leB .i64 64#64 n) s (cutTo s (topW n))))
noncomputable def sl5 : List (FuncId × Con) := (14, con0 (eB true)) :: (13, con2 cSp cI fun s n => eSp (cutD s n)) :: sl4
end Go.Rf

/- Laws of spans, plain. -/
namespace Go.Rf

theorem leU (x y : W) : leB .u64 x y = decide (x.toNat ≤ y.toNat) := rfl
theorem ltU (x y : W) : ltB .u64 x y = decide (x.toNat < y.toNat) := rfl
theorem leI (x y : W) : leB .i64 x y = decide (x.toInt ≤ y.toInt) := rfl
theorem minU_nat (x y : W) : (minU x y).toNat = min x.toNat y.toNat := by
  unfold minU
  rw [ltU]
  by_cases h : y.toNat < x.toNat
  · rw [decide_eq_true h]; show y.toNat = _; omega
  · rw [decide_eq_false h]; show x.toNat = _; omega
theorem maxU_nat (x y : W) : (maxU x y).toNat = max x.toNat y.toNat := by
  unfold maxU
  rw [ltU]
  by_cases h : x.toNat < y.toNat
  · rw [decide_eq_true h]; show y.toNat = _; omega
  · rw [decide_eq_false h]; show x.toNat = _; omega

theorem mayS_iff {s : Sp} : mayS s = true ↔ s.lo.toNat ≤ s.hi.toNat := by
  unfold mayS; rw [leU, decide_eq_true_eq]
theorem hasS_iff {s : Sp} {n : W} : hasS s n = true ↔ s.lo.toNat ≤ n.toNat ∧ n.toNat ≤ s.hi.toNat := by
  unfold hasS; rw [leU, leU, Bool.and_eq_true, decide_eq_true_eq, decide_eq_true_eq]

theorem has_same (s : Sp) (n : W) : hasS s n = (mayS s && leB .u64 s.lo n && leB .u64 n s.hi) := by
  rw [Bool.eq_iff_iff, hasS_iff]
  simp only [mayS, leU, Bool.and_eq_true, decide_eq_true_eq]
  omega
theorem in_same (a b : Sp) : inS a b = (mayS a && mayS b && leB .u64 b.lo a.lo && leB .u64 a.hi b.hi) := by
  rw [Bool.eq_iff_iff]
  simp only [inS, mayS, leU, Bool.and_eq_true, decide_eq_true_eq]
  omega

theorem join_same (a b : Sp) : joinS a b = joinD a b := by
  unfold joinS joinD minU maxU Sp.mux
  cases mayS a <;> cases mayS b <;> cases ltB .u64 b.lo a.lo <;> cases ltB .u64 a.hi b.hi <;> rfl
theorem meet_same (a b : Sp) : meetS a b = meetD a b := by
  unfold meetS meetD minU maxU
  cases ltB .u64 a.lo b.lo <;> cases ltB .u64 b.hi a.hi <;> rfl
theorem noMeet_same (a b : Sp) : noMeetS a b = noMeetD a b := by
  rw [Bool.eq_iff_iff]
  simp only [noMeetS, noMeetD, mayS, leU, ltU, meetS, maxU_nat, minU_nat, Bool.or_eq_true, Bool.not_eq_true', decide_eq_true_eq, decide_eq_false_iff_not]
  omega

/-! Cut. -/
def ones' (k : Nat) : W := BitVec.ofNat 64 (2 ^ k - 1)
theorem nat_of_int {n : W} (h0 : 0 ≤ n.toInt) : n.toInt = n.toNat := by
  rw [BitVec.toInt_eq_toNat_cond] at h0 ⊢
  split <;> rename_i h
  · rfl
  · rw [if_neg h] at h0
    have := n.isLt
    omega
theorem amtI {n : W} (h0 : 0 ≤ n.toInt) : amt .i64 n = n.toNat := by
  show n.toInt.toNat = _
  rw [nat_of_int h0]; rfl
theorem ofNat_self (n : W) : BitVec.ofNat 64 n.toNat = n := by simp

def ctAt (n : W) (f : Nat → Nat) (i : Nat) : CtS := ⟨n, BitVec.ofNat 64 (f i), BitVec.ofNat 64 i⟩
theorem ct_run {n : W} (h0 : 0 ≤ n.toInt) (g : W → W) (f : Nat → Nat) (hg : ∀ i, g (BitVec.ofNat 64 (f i)) = BitVec.ofNat 64 (f (i + 1))) :
    (CtS.run g ⟨n, BitVec.ofNat 64 (f 0), 0#64⟩).n = BitVec.ofNat 64 (f n.toNat) := by
  have hn := nat_of_int h0
  have hlt := n.toInt_lt
  simp only [show (64 - 1 : Nat) = 63 from rfl] at hlt
  have hm : (⟨n, BitVec.ofNat 64 (f 0), 0#64⟩ : CtS).mu = n.toNat := by
    show (n.toInt - (0#64 : W).toInt).toNat = _
    rw [hn, show ((0#64 : W).toInt) = 0 from rfl]
    omega
  unfold CtS.run
  rw [hm]
  have e := runN_count (go := CtS.go) (next := CtS.nxt g) (ctAt n f) n.toNat (fun i hi => by
    show ltB .i64 (BitVec.ofNat 64 i) n = _
    rw [← ofNat_self n, ltB_ofNat (by omega) (by omega), ofNat_self]) (fun i hi => by
    unfold CtS.nxt ctAt
    rw [hg, ofNat_succ])
  have e2 := congrArg CtS.n e
  exact e2

theorem ofNat_two (x : Nat) : (2#64 : W) * BitVec.ofNat 64 x = BitVec.ofNat 64 (2 * x) := by
  rw [BitVec.ofNat_mul]
theorem topW_eq {n : W} (h0 : 0 ≤ n.toInt) : topW n = ones' n.toNat := by
  refine ct_run h0 twice1 (fun i => 2 ^ i - 1) (fun i => ?_)
  show (2#64 : W) * BitVec.ofNat 64 (2 ^ i - 1) + 1#64 = _
  rw [ofNat_two, ofNat_succ]
  congr 1
  have := Nat.two_pow_pos i
  rw [Nat.pow_succ]; omega
theorem powWr_eq {n : W} (h0 : 0 ≤ n.toInt) : powWr n = BitVec.ofNat 64 (2 ^ n.toNat) := by
  refine ct_run h0 twice (fun i => 2 ^ i) (fun i => ?_)
  show (2#64 : W) * BitVec.ofNat 64 (2 ^ i) = _
  rw [ofNat_two, Nat.pow_succ, Nat.mul_comm]

theorem topK_eq {n : W} (h0 : 0 ≤ n.toInt) : topK n = ones' n.toNat := by
  unfold topK ones'
  rw [amtI h0]
  apply BitVec.eq_of_toNat_eq
  have := Nat.two_pow_pos n.toNat
  rw [BitVec.toNat_sub, BitVec.toNat_shiftLeft]
  have e1 : (1#64 : W).toNat = 1 := rfl
  simp only [e1, Nat.shiftLeft_eq, Nat.one_mul, BitVec.toNat_ofNat]
  by_cases h : n.toNat < 64
  · have : 2 ^ n.toNat < 2 ^ 64 := Nat.pow_lt_pow_right (by decide) h
    omega
  · have e : 2 ^ n.toNat % 2 ^ 64 = 0 := by
      have : n.toNat = 64 + (n.toNat - 64) := by omega
      rw [this, Nat.pow_add]; exact Nat.mul_mod_right _ _
    omega

theorem and_ones (x : W) {k : Nat} (hk : k ≤ 64) : (x &&& ones' k).toNat = x.toNat % 2 ^ k := by
  unfold ones'
  have : 2 ^ k ≤ 2 ^ 64 := Nat.pow_le_pow_right (by decide) hk
  have h0 := Nat.two_pow_pos k
  rw [BitVec.toNat_and, BitVec.toNat_ofNat, Nat.mod_eq_of_lt (by omega), Nat.and_two_pow_sub_one_eq_mod]

theorem ones_nat {k : Nat} (hk : k ≤ 64) : (ones' k).toNat = 2 ^ k - 1 := by
  unfold ones'
  have : 2 ^ k ≤ 2 ^ 64 := Nat.pow_le_pow_right (by decide) hk
  have h0 := Nat.two_pow_pos k
  rw [BitVec.toNat_ofNat, Nat.mod_eq_of_lt (by omega)]

theorem cut_core (lo hi m : Nat) (hm : 0 < m) (h : lo ≤ hi) : (lo / m ≠ hi / m) ↔ (m - 1 < hi - lo ∨ hi % m < lo % m) := by
  have e1 := Nat.div_add_mod lo m
  have e2 := Nat.div_add_mod hi m
  have r1 := Nat.mod_lt lo hm
  have r2 := Nat.mod_lt hi hm
  have hq : lo / m ≤ hi / m := Nat.div_le_div_right h
  constructor
  · intro hne
    have : lo / m + 1 ≤ hi / m := by omega
    have := Nat.mul_le_mul_left m this
    rw [Nat.mul_add] at this
    omega
  · intro hor heq
    rw [heq] at e1
    omega

theorem bif_eq {α : Type} (c : Bool) (x : α) : (bif c then x else x) = x := by cases c <;> rfl

theorem cut_same (s : Sp) (n : W) : cutS s n = cutD s n := by
  unfold cutS cutD
  cases hm : mayS s with
  | false => rfl
  | true =>
    have hle := mayS_iff.1 hm
    have z0 : (0#64 : W).toInt = 0 := rfl
    have z64 : (64#64 : W).toInt = 64 := rfl
    have hc := cutN_int n
    rw [ltI, leI, z0, z64]
    by_cases h1 : n.toInt < 0
    · have e : cutN n = 0#64 := by apply BitVec.eq_of_toInt_eq; rw [hc, z0]; omega
      have t0 : topW 0#64 = 0#64 := by rw [topW_eq (by rw [z0]; decide)]; rfl
      have t1 : topK 0#64 = 0#64 := rfl
      rw [e, decide_eq_true h1, t0, t1]
      have a1 : s.lo &&& 0#64 = 0#64 := BitVec.and_zero
      have a2 : s.hi &&& 0#64 = 0#64 := BitVec.and_zero
      have x1 : Sp.mux (shI s.lo 0#64 != shI s.hi 0#64) ⟨0, 0#64⟩ ⟨s.lo &&& 0#64, s.hi &&& 0#64⟩ = (⟨0#64, 0#64⟩ : Sp) := by
        rw [a1, a2]; unfold Sp.mux; simp only [show (0 : W) = 0#64 from rfl, bif_eq]
      have x2 : cutTo s 0#64 = (⟨0#64, 0#64⟩ : Sp) := by
        unfold cutTo; rw [a1, a2]; unfold Sp.mux; simp only [show (0 : W) = 0#64 from rfl, bif_eq]
      rw [x1, x2]
      rfl
    · by_cases h2 : 64 ≤ n.toInt
      · have e : cutN n = 64#64 := by apply BitVec.eq_of_toInt_eq; rw [hc, z64]; omega
        rw [e, decide_eq_false h1, decide_eq_true h2]
        rfl
      · have e : cutN n = n := by apply BitVec.eq_of_toInt_eq; rw [hc]; omega
        have h0 : 0 ≤ n.toInt := by omega
        have hn := nat_of_int h0
        have hk : n.toNat < 64 := by omega
        have ne : (n == 64#64) = false := by
          rw [beq_eq_false_iff_ne]
          intro e'; rw [e'] at hk; exact absurd hk (by decide)
        rw [e, decide_eq_false h1, decide_eq_false h2, ne, topK_eq h0, topW_eq h0]
        show Sp.mux (shI s.lo n != shI s.hi n) _ _ = cutTo s (ones' n.toNat)
        unfold cutTo
        have : (shI s.lo n != shI s.hi n) = cutBad s (ones' n.toNat) := by
          have hs : ∀ x : W, (shI x n).toNat = x.toNat / 2 ^ n.toNat := by
            intro x
            unfold shI
            rw [amtI h0]
            show (x >>> n.toNat).toNat = _
            rw [BitVec.toNat_ushiftRight, Nat.shiftRight_eq_div_pow]
          have key := cut_core s.lo.toNat s.hi.toNat (2 ^ n.toNat) (Nat.two_pow_pos _) hle
          have hsub : (s.hi - s.lo).toNat = s.hi.toNat - s.lo.toNat := by
            rw [BitVec.toNat_sub]
            have := s.hi.isLt
            omega
          rw [Bool.eq_iff_iff]
          unfold cutBad
          rw [ltU, ltU, and_ones _ (by omega), and_ones _ (by omega), ones_nat (by omega), hsub, bne_iff_ne, Ne, ← BitVec.toNat_inj, hs, hs, Bool.or_eq_true, decide_eq_true_eq, decide_eq_true_eq]
          exact key
        rw [this]

def spHas (a b : Sp) (n : W) : Bool :=
  mayS a == mayS a && hasS a n == (mayS a && leB .u64 a.lo n && leB .u64 n a.hi) && inS a b == (mayS a && mayS b && leB .u64 b.lo a.lo && leB .u64 a.hi b.hi) &&
    ((ofS n).lo == n && (ofS n).hi == n) && (allS.lo == 0#64 && allS.hi == 18446744073709551615#64) && true
theorem spHas_true (a b : Sp) (n : W) : spHas a b n = true := by
  unfold spHas
  rw [← has_same, ← in_same]
  simp [ofS, allS]

def eqS (a b : Sp) : Bool := a.lo == b.lo && a.hi == b.hi
theorem eqS_self (a : Sp) : eqS a a = true := by simp [eqS]
def spSets (a b : Sp) : Bool :=
  eqS (joinS a b) (joinD a b) && eqS (Sp.mux (noMeetS a b) nilS (meetS a b)) (Sp.mux (noMeetD a b) nilS (meetD a b)) &&
    (bif noMeetS a b then false else true) == (bif noMeetD a b then false else true) && true
theorem spSets_true (a b : Sp) : spSets a b = true := by
  unfold spSets
  rw [← join_same, ← meet_same, ← noMeet_same, eqS_self, eqS_self]
  simp
def spCuts (s : Sp) (n : W) : Bool := eqS (cutS s n) (cutD s n) && true
theorem spCuts_true (s : Sp) (n : W) : spCuts s n = true := by
  unfold spCuts
  rw [← cut_same, eqS_self]; rfl
end Go.Rf

/- Plain laws of bits: the least and the greatest Or, And of numbers of two stretches. -/
namespace Go.Rf

def mB (j : Nat) : W := 1#64 <<< j

theorem neg_mB (j : Nat) : -(mB j) = BitVec.allOnes 64 <<< j := by
  unfold mB
  rw [BitVec.shiftLeft_eq_mul_twoPow, BitVec.shiftLeft_eq_mul_twoPow, ← BitVec.neg_one_eq_allOnes, BitVec.neg_mul]
theorem mB_bit (j i : Nat) (hi : i < 64) : (mB j).getLsbD i = decide (i = j) := by
  unfold mB
  rw [← BitVec.twoPow_eq, BitVec.getLsbD_twoPow]
  by_cases h : j = i
  · subst h; simp [hi]
  · simp [h, Ne.symm h]
theorem up_bit (x : W) (j i : Nat) (hi : i < 64) : (upW x (mB j)).getLsbD i = (decide (i = j) || (decide (j < i) && x.getLsbD i)) := by
  unfold upW
  rw [neg_mB, BitVec.getLsbD_and, BitVec.getLsbD_or, mB_bit j i hi, BitVec.getLsbD_shiftLeft, BitVec.getLsbD_allOnes]
  by_cases h1 : i = j
  · subst h1; simp [hi]
  · by_cases h2 : i < j
    · have : ¬ j < i := by omega
      simp [h1, h2, this]
    · have : j < i := by omega
      have h3 : i - j < 64 := by omega
      simp [h1, h2, this, hi, h3]
theorem low_bit (j i : Nat) (hj : j < 64) (hi : i < 64) : (mB j - 1#64).getLsbD i = decide (i < j) := by
  have e : mB j - 1#64 = BitVec.ofNat 64 (2 ^ j - 1) := by
    unfold mB
    apply BitVec.eq_of_toNat_eq
    have := Nat.two_pow_pos j
    have h2 : 2 ^ j < 2 ^ 64 := Nat.pow_lt_pow_right (by decide) hj
    rw [BitVec.toNat_sub, BitVec.toNat_shiftLeft]
    have e1 : (1#64 : W).toNat = 1 := rfl
    simp only [e1, Nat.shiftLeft_eq, Nat.one_mul, BitVec.toNat_ofNat]
    omega
  rw [e, BitVec.getLsbD_ofNat, Nat.testBit_two_pow_sub_one]
  simp [hi]
theorem wi_bit (x : W) (j i : Nat) (hj : j < 64) (hi : i < 64) : (wiW x (mB j)).getLsbD i = (decide (i < j) || (decide (j < i) && x.getLsbD i)) := by
  unfold wiW
  rw [BitVec.getLsbD_or, BitVec.getLsbD_and, BitVec.getLsbD_not, mB_bit j i hi, low_bit j i hj hi]
  by_cases h1 : i = j
  · subst h1; simp
  · by_cases h2 : i < j
    · simp [h2]
    · have : j < i := by omega
      simp [h1, h2, this, hi]

theorem bit_lt {x y : W} {q : Nat} (h1 : x.getLsbD q = false) (h2 : y.getLsbD q = true) (h3 : ∀ i, q < i → i < 64 → x.getLsbD i = y.getLsbD i) : x.toNat < y.toNat := by
  have e1 : x.toNat / 2 ^ (q + 1) = y.toNat / 2 ^ (q + 1) := by
    apply Nat.eq_of_testBit_eq
    intro i
    rw [Nat.testBit_div_two_pow, Nat.testBit_div_two_pow]
    show x.getLsbD _ = y.getLsbD _
    by_cases hj : i + (q + 1) < 64
    · exact h3 _ (by omega) hj
    · rw [BitVec.getLsbD_of_ge x _ (by omega), BitVec.getLsbD_of_ge y _ (by omega)]
  have b1 : x.toNat / 2 ^ q % 2 ≠ 1 := by
    intro h
    have : x.getLsbD q = decide (x.toNat / 2 ^ q % 2 = 1) := Nat.testBit_eq_decide_div_mod_eq
    rw [h1, h] at this
    simp at this
  have b2 : y.toNat / 2 ^ q % 2 = 1 := by
    have : y.getLsbD q = decide (y.toNat / 2 ^ q % 2 = 1) := Nat.testBit_eq_decide_div_mod_eq
    rw [h2] at this
    simpa using this.symm
  rw [Nat.pow_succ, ← Nat.div_div_eq_div_mul, ← Nat.div_div_eq_div_mul] at e1
  have : x.toNat / 2 ^ q < y.toNat / 2 ^ q := by omega
  exact Nat.lt_of_div_lt_div this

theorem hi_diff {x y : W} (h : x.toNat < y.toNat) : ∃ q, q < 64 ∧ x.getLsbD q = false ∧ y.getLsbD q = true ∧ ∀ i, q < i → i < 64 → x.getLsbD i = y.getLsbD i := by
  have key : ∀ n, n ≤ 64 → (∀ i, n ≤ i → i < 64 → x.getLsbD i = y.getLsbD i) → ∃ q, q < 64 ∧ x.getLsbD q = false ∧ y.getLsbD q = true ∧ ∀ i, q < i → i < 64 → x.getLsbD i = y.getLsbD i := by
    intro n
    induction n with
    | zero =>
      intro _ he
      have : x = y := BitVec.eq_of_getLsbD_eq (fun i hi => he i (by omega) hi)
      subst this; omega
    | succ n ih =>
      intro hn he
      by_cases e : x.getLsbD n = y.getLsbD n
      · refine ih (by omega) (fun i h1 h2 => ?_)
        by_cases h3 : i = n
        · subst h3; exact e
        · exact he i (by omega) h2
      · cases hx : x.getLsbD n with
        | false =>
          cases hy : y.getLsbD n with
          | false => rw [hx, hy] at e; exact absurd rfl e
          | true => exact ⟨n, by omega, hx, hy, fun i h1 h2 => he i (by omega) h2⟩
        | true =>
          cases hy : y.getLsbD n with
          | true => rw [hx, hy] at e; exact absurd rfl e
          | false =>
            have := bit_lt (x := y) (y := x) hy hx (fun i h1 h2 => (he i (by omega) h2).symm)
            omega
  exact key 64 (Nat.le_refl _) (fun i h1 h2 => by omega)

theorem bit_le {x y : W} (h : ∀ i, i < 64 → x.getLsbD i = true → y.getLsbD i = true) : x.toNat ≤ y.toNat := by
  by_cases hlt : y.toNat < x.toNat
  · obtain ⟨q, hq, h1, h2, _⟩ := hi_diff hlt
    rw [h q hq h2] at h1
    cases h1
  · omega

/-- What agrees above, and has the bit, is no less. -/
theorem up_le {x X : W} {q : Nat} (h : ∀ i, q < i → i < 64 → x.getLsbD i = X.getLsbD i) (hX : X.getLsbD q = true) : (upW x (mB q)).toNat ≤ X.toNat := by
  refine bit_le (fun i hi => ?_)
  rw [up_bit x q i hi]
  by_cases h1 : i = q
  · subst h1; intro _; exact hX
  · by_cases h2 : q < i
    · rw [h i h2 hi]; simp [h1, h2]
    · simp [h1, h2]
theorem le_wi {x X : W} {q : Nat} (hq : q < 64) (h : ∀ i, q < i → i < 64 → x.getLsbD i = X.getLsbD i) (hX : X.getLsbD q = false) : X.toNat ≤ (wiW x (mB q)).toNat := by
  refine bit_le (fun i hi => ?_)
  rw [wi_bit x q i hq hi]
  by_cases h1 : i = q
  · subst h1; rw [hX]; intro h; cases h
  · by_cases h2 : q < i
    · rw [h i h2 hi]
      intro h3
      simp [h2, h3]
    · have : i < q := by omega
      simp [this]
theorem le_up {x : W} {q : Nat} (hq : q < 64) (h : x.getLsbD q = false) : x.toNat ≤ (upW x (mB q)).toNat := by
  refine Nat.le_of_lt (bit_lt (q := q) h ?_ (fun i h1 h2 => ?_))
  · rw [up_bit x q q hq]; simp
  · rw [up_bit x q i h2]
    have n : i ≠ q := by omega
    simp [h1, n]
theorem wi_le {x : W} {q : Nat} (hq : q < 64) (h : x.getLsbD q = true) : (wiW x (mB q)).toNat ≤ x.toNat := by
  refine Nat.le_of_lt (bit_lt (q := q) ?_ h (fun i h1 h2 => ?_))
  · rw [wi_bit x q q hq hq]; simp
  · rw [wi_bit x q i hq h2]
    have n : ¬ i < q := by omega
    simp [h1, n]

/-- The highest bit in which a greater number is unlike. -/
theorem up_from {x X : W} {p : Nat} (hp : p < 64) (h : x.toNat ≤ X.toNat) (h1 : x.getLsbD p = true) (h2 : X.getLsbD p = false) :
    ∃ q, p < q ∧ q < 64 ∧ x.getLsbD q = false ∧ X.getLsbD q = true ∧ ∀ i, q < i → i < 64 → x.getLsbD i = X.getLsbD i := by
  have hlt : x.toNat < X.toNat := by
    by_cases e : x.toNat = X.toNat
    · have : x = X := BitVec.eq_of_toNat_eq e
      subst this; rw [h1] at h2; cases h2
    · omega
  obtain ⟨q, a, b, c, d⟩ := hi_diff hlt
  refine ⟨q, ?_, a, b, c, d⟩
  by_cases e : p = q
  · subst e; rw [h1] at b; cases b
  · by_cases e2 : q < p
    · have := d p e2 hp
      rw [h1, h2] at this; cases this
    · omega

section
variable {x y hx hy X Y : W}
def Up (x hx : W) (q : Nat) : Prop := (upW x (mB q)).toNat ≤ hx.toNat
def In' (x lx : W) (q : Nat) : Prop := lx.toNat ≤ (wiW x (mB q)).toNat

/-- No bit from p on lets either number be turned up. -/
def NoUp (x y hx hy : W) (p : Nat) : Prop := ∀ q, p < q → q < 64 → ¬(x.getLsbD q = false ∧ y.getLsbD q = true ∧ Up x hx q) ∧ ¬(x.getLsbD q = true ∧ y.getLsbD q = false ∧ Up y hy q)

theorem noUp_x (hX : x.toNat ≤ X.toNat ∧ X.toNat ≤ hx.toNat) {p : Nat} (hp : p < 64) (hf : NoUp x y hx hy p) (hr : ∀ i, p < i → i < 64 → (X.getLsbD i || Y.getLsbD i) = (x.getLsbD i || y.getLsbD i))
    (h1 : x.getLsbD p = true) (h2 : X.getLsbD p = false) : False := by
  obtain ⟨q, a, b, c, d, e⟩ := up_from hp hX.1 h1 h2
  have h3 := hr q a b
  rw [c, d, Bool.true_or, Bool.false_or] at h3
  exact (hf q a b).1 ⟨c, h3.symm, by have := up_le e d; unfold Up; omega⟩

theorem noUp_swap {p : Nat} (hf : NoUp x y hx hy p) : NoUp y x hy hx p := fun q a b => ⟨fun h => (hf q a b).2 ⟨h.2.1, h.1, h.2.2⟩, fun h => (hf q a b).1 ⟨h.2.1, h.1, h.2.2⟩⟩

theorem noUp_y (hY : y.toNat ≤ Y.toNat ∧ Y.toNat ≤ hy.toNat) {p : Nat} (hp : p < 64) (hf : NoUp x y hx hy p) (hr : ∀ i, p < i → i < 64 → (X.getLsbD i || Y.getLsbD i) = (x.getLsbD i || y.getLsbD i))
    (h1 : y.getLsbD p = true) (h2 : Y.getLsbD p = false) : False :=
  noUp_x (X := Y) (Y := X) hY hp (noUp_swap hf) (fun i a b => by rw [Bool.or_comm, hr i a b, Bool.or_comm]) h1 h2

/-- Nothing is turned up: Or is least. -/
theorem or_none (hX : x.toNat ≤ X.toNat ∧ X.toNat ≤ hx.toNat) (hY : y.toNat ≤ Y.toNat ∧ Y.toNat ≤ hy.toNat)
    (hf : ∀ q, q < 64 → ¬(x.getLsbD q = false ∧ y.getLsbD q = true ∧ Up x hx q) ∧ ¬(x.getLsbD q = true ∧ y.getLsbD q = false ∧ Up y hy q)) : (x ||| y).toNat ≤ (X ||| Y).toNat := by
  by_cases hlt : (X ||| Y).toNat < (x ||| y).toNat
  · exfalso
    obtain ⟨p, hp, h1, h2, h3⟩ := hi_diff hlt
    rw [BitVec.getLsbD_or, Bool.or_eq_false_iff] at h1
    rw [BitVec.getLsbD_or, Bool.or_eq_true] at h2
    have hr : ∀ i, p < i → i < 64 → (X.getLsbD i || Y.getLsbD i) = (x.getLsbD i || y.getLsbD i) := fun i a b => by
      have := h3 i a b
      rwa [BitVec.getLsbD_or, BitVec.getLsbD_or] at this
    have hN : NoUp x y hx hy p := fun q _ b => hf q b
    rcases h2 with h2 | h2
    · exact noUp_x hX hp hN hr h2 h1.1
    · exact noUp_y hY hp hN hr h2 h1.2
  · omega

/-- x is turned up at m: Or is least. -/
theorem or_up (hX : x.toNat ≤ X.toNat ∧ X.toNat ≤ hx.toNat) (hY : y.toNat ≤ Y.toNat ∧ Y.toNat ≤ hy.toNat) {m : Nat} (hm : m < 64) (hym : y.getLsbD m = true)
    (hf : NoUp x y hx hy m) : (upW x (mB m) ||| y).toNat ≤ (X ||| Y).toNat := by
  by_cases hlt : (X ||| Y).toNat < (upW x (mB m) ||| y).toNat
  · exfalso
    obtain ⟨p, hp, h1, h2, h3⟩ := hi_diff hlt
    rw [BitVec.getLsbD_or, Bool.or_eq_false_iff] at h1
    rw [BitVec.getLsbD_or, up_bit x m p hp] at h2
    have hab : ∀ i, p < i → i < 64 → (X.getLsbD i || Y.getLsbD i) = ((decide (i = m) || (decide (m < i) && x.getLsbD i)) || y.getLsbD i) := fun i a b => by
      have := h3 i a b
      rwa [BitVec.getLsbD_or, BitVec.getLsbD_or, up_bit x m i b] at this
    by_cases e1 : m ≤ p
    · have hN : NoUp x y hx hy p := fun q a b => hf q (by omega) b
      have hr : ∀ i, p < i → i < 64 → (X.getLsbD i || Y.getLsbD i) = (x.getLsbD i || y.getLsbD i) := fun i a b => by
        have := hab i a b
        have n1 : i ≠ m := by omega
        have n2 : m < i := by omega
        simpa [n1, n2] using this
      by_cases e2 : p = m
      · subst e2
        exact noUp_y hY hp hN hr hym h1.2
      · have n2 : m < p := by omega
        simp only [e2, n2, decide_false, decide_true, Bool.false_or, Bool.true_and, Bool.or_eq_true] at h2
        rcases h2 with h2 | h2
        · exact noUp_x hX hp hN hr h2 h1.1
        · exact noUp_y hY hp hN hr h2 h1.2
    · have n1 : p ≠ m := by omega
      have n2 : ¬ m < p := by omega
      simp only [n1, n2, decide_false, Bool.false_or, Bool.false_and] at h2
      obtain ⟨q, a, b, c, d, e⟩ := up_from hp hY.1 h2 h1.2
      have hq := hab q a b
      rw [c, d, Bool.or_true, Bool.or_false] at hq
      by_cases e3 : q = m
      · subst e3; rw [hym] at c; cases c
      · by_cases e4 : m < q
        · simp only [e3, e4, decide_false, decide_true, Bool.false_or, Bool.true_and] at hq
          exact (hf q e4 b).2 ⟨hq.symm, c, by have := up_le e d; unfold Up; omega⟩
        · simp [e3, e4] at hq
  · omega

/-- No bit from p on that both have lets either be turned down. -/
def NoIn (x y lx ly : W) (p : Nat) : Prop := ∀ q, p < q → q < 64 → x.getLsbD q = true → y.getLsbD q = true → ¬ In' x lx q ∧ ¬ In' y ly q

variable {lx ly : W}
theorem noIn_swap {p : Nat} (hf : NoIn x y lx ly p) : NoIn y x ly lx p := fun q a b c d => ⟨(hf q a b d c).2, (hf q a b d c).1⟩

theorem noIn_x (hX : lx.toNat ≤ X.toNat ∧ X.toNat ≤ x.toNat) (hY : ly.toNat ≤ Y.toNat ∧ Y.toNat ≤ y.toNat) {p : Nat} (hp : p < 64) (hf : NoIn x y lx ly p)
    (hr : ∀ i, p < i → i < 64 → (x.getLsbD i || y.getLsbD i) = (X.getLsbD i || Y.getLsbD i)) (h1 : X.getLsbD p = true) (h2 : x.getLsbD p = false) : False := by
  obtain ⟨q, a, b, c, d, e⟩ := up_from hp hX.2 h1 h2
  have h3 := hr q a b
  rw [c, d, Bool.true_or, Bool.false_or] at h3
  have hYq : Y.getLsbD q = true := h3.symm
  cases hyq : y.getLsbD q with
  | true => exact (hf q a b d hyq).1 (by have := le_wi b (fun i u v => (e i u v).symm) c; unfold In'; omega)
  | false =>
    obtain ⟨q2, a2, b2, c2, d2, e2⟩ := up_from b hY.2 hYq hyq
    have h4 := hr q2 (by omega) b2
    rw [d2, c2, Bool.or_true, Bool.or_false] at h4
    have hx2 : x.getLsbD q2 = true := by rw [← e q2 a2 b2]; exact h4.symm
    exact (hf q2 (by omega) b2 hx2 d2).2 (by have := le_wi b2 (fun i u v => (e2 i u v).symm) c2; unfold In'; omega)

theorem noIn_y (hX : lx.toNat ≤ X.toNat ∧ X.toNat ≤ x.toNat) (hY : ly.toNat ≤ Y.toNat ∧ Y.toNat ≤ y.toNat) {p : Nat} (hp : p < 64) (hf : NoIn x y lx ly p)
    (hr : ∀ i, p < i → i < 64 → (x.getLsbD i || y.getLsbD i) = (X.getLsbD i || Y.getLsbD i)) (h1 : Y.getLsbD p = true) (h2 : y.getLsbD p = false) : False :=
  noIn_x hY hX hp (noIn_swap hf) (fun i a b => by rw [Bool.or_comm, hr i a b, Bool.or_comm]) h1 h2

theorem or_most_none (hX : lx.toNat ≤ X.toNat ∧ X.toNat ≤ x.toNat) (hY : ly.toNat ≤ Y.toNat ∧ Y.toNat ≤ y.toNat)
    (hf : ∀ q, q < 64 → x.getLsbD q = true → y.getLsbD q = true → ¬ In' x lx q ∧ ¬ In' y ly q) : (X ||| Y).toNat ≤ (x ||| y).toNat := by
  by_cases hlt : (x ||| y).toNat < (X ||| Y).toNat
  · exfalso
    obtain ⟨p, hp, h1, h2, h3⟩ := hi_diff hlt
    rw [BitVec.getLsbD_or, Bool.or_eq_false_iff] at h1
    rw [BitVec.getLsbD_or, Bool.or_eq_true] at h2
    have hr : ∀ i, p < i → i < 64 → (x.getLsbD i || y.getLsbD i) = (X.getLsbD i || Y.getLsbD i) := fun i a b => by
      have := h3 i a b
      rwa [BitVec.getLsbD_or, BitVec.getLsbD_or] at this
    have hN : NoIn x y lx ly p := fun q _ b => hf q b
    rcases h2 with h2 | h2
    · exact noIn_x hX hY hp hN hr h2 h1.1
    · exact noIn_y hX hY hp hN hr h2 h1.2
  · omega

theorem or_most_in (hX : lx.toNat ≤ X.toNat ∧ X.toNat ≤ x.toNat) (hY : ly.toNat ≤ Y.toNat ∧ Y.toNat ≤ y.toNat) {m : Nat} (hm : m < 64) (hym : y.getLsbD m = true)
    (hf : NoIn x y lx ly m) : (X ||| Y).toNat ≤ (wiW x (mB m) ||| y).toNat := by
  by_cases hlt : (wiW x (mB m) ||| y).toNat < (X ||| Y).toNat
  · exfalso
    obtain ⟨p, hp, h1, h2, h3⟩ := hi_diff hlt
    rw [BitVec.getLsbD_or, wi_bit x m p hm hp, Bool.or_eq_false_iff] at h1
    rw [BitVec.getLsbD_or, Bool.or_eq_true] at h2
    have hpm : m < p := by
      by_cases e : p = m
      · subst e; rw [hym] at h1; exact absurd h1.2 (by decide)
      · by_cases e2 : p < m
        · simp [e2] at h1
        · omega
    have n1 : ¬ p < m := by omega
    simp only [n1, hpm, decide_false, decide_true, Bool.false_or, Bool.true_and] at h1
    have hr : ∀ i, p < i → i < 64 → (x.getLsbD i || y.getLsbD i) = (X.getLsbD i || Y.getLsbD i) := fun i a b => by
      have := h3 i a b
      rw [BitVec.getLsbD_or, BitVec.getLsbD_or, wi_bit x m i hm b] at this
      have n2 : ¬ i < m := by omega
      have n3 : m < i := by omega
      simpa [n2, n3] using this
    have hN : NoIn x y lx ly p := fun q a b => hf q (by omega) b
    rcases h2 with h2 | h2
    · exact noIn_x hX hY hp hN hr h2 h1.1
    · exact noIn_y hX hY hp hN hr h2 h1.2
  · omega
end
end Go.Rf

/- Plain laws of bits: And by Or of what is turned round; the least and the greatest Xor. -/
namespace Go.Rf

theorem wi_not (x : W) {j : Nat} (hj : j < 64) : wiW (~~~x) (mB j) = ~~~(upW x (mB j)) := by
  apply BitVec.eq_of_getLsbD_eq
  intro i hi
  rw [wi_bit _ j i hj hi, BitVec.getLsbD_not, BitVec.getLsbD_not, up_bit x j i hi]
  by_cases h1 : i = j
  · subst h1; simp
  · by_cases h2 : i < j
    · have h3 : ¬ j < i := by omega
      simp [h1, h2, h3, hi]
    · have h3 : j < i := by omega
      simp [h1, h2, h3, hi]
theorem not_nat (x : W) : (~~~x).toNat = 18446744073709551615 - x.toNat := by
  rw [BitVec.toNat_not]
theorem up_not (x : W) {j : Nat} (hj : j < 64) : upW (~~~x) (mB j) = ~~~(wiW x (mB j)) := by
  have := wi_not (~~~x) hj
  rw [BitVec.not_not] at this
  rw [this, BitVec.not_not]
theorem and_not (x y : W) : x &&& y = ~~~(~~~x ||| ~~~y) := by
  apply BitVec.eq_of_getLsbD_eq
  intro i hi
  simp [hi]
theorem not_le {x y : W} : (~~~x).toNat ≤ (~~~y).toNat ↔ y.toNat ≤ x.toNat := by
  rw [not_nat, not_nat]
  have := x.isLt
  have := y.isLt
  omega

section
variable {x y hx hy lx ly X Y : W}
theorem in_not {q : Nat} (hq : q < 64) : In' (~~~x) (~~~hx) q ↔ Up x hx q := by
  unfold In' Up
  rw [wi_not x hq, not_le]
theorem upn_not {q : Nat} (hq : q < 64) : Up (~~~x) (~~~lx) q ↔ In' x lx q := by
  unfold In' Up
  rw [up_not x hq, not_le]
theorem nbit (x : W) {q : Nat} (hq : q < 64) : (~~~x).getLsbD q = !x.getLsbD q := by simp [hq]

theorem and_none (hX : x.toNat ≤ X.toNat ∧ X.toNat ≤ hx.toNat) (hY : y.toNat ≤ Y.toNat ∧ Y.toNat ≤ hy.toNat)
    (hf : ∀ q, q < 64 → x.getLsbD q = false → y.getLsbD q = false → ¬ Up x hx q ∧ ¬ Up y hy q) : (x &&& y).toNat ≤ (X &&& Y).toNat := by
  rw [and_not x y, and_not X Y, not_le]
  refine or_most_none (lx := ~~~hx) (ly := ~~~hy) ⟨not_le.2 hX.2, not_le.2 hX.1⟩ ⟨not_le.2 hY.2, not_le.2 hY.1⟩ (fun q hq h1 h2 => ?_)
  rw [nbit _ hq] at h1 h2
  rw [in_not hq, in_not hq]
  exact hf q hq (by simpa using h1) (by simpa using h2)
theorem and_up (hX : x.toNat ≤ X.toNat ∧ X.toNat ≤ hx.toNat) (hY : y.toNat ≤ Y.toNat ∧ Y.toNat ≤ hy.toNat) {m : Nat} (hm : m < 64) (hym : y.getLsbD m = false)
    (hf : ∀ q, m < q → q < 64 → x.getLsbD q = false → y.getLsbD q = false → ¬ Up x hx q ∧ ¬ Up y hy q) : (upW x (mB m) &&& y).toNat ≤ (X &&& Y).toNat := by
  rw [and_not (upW x (mB m)) y, and_not X Y, not_le, ← wi_not x hm]
  refine or_most_in (lx := ~~~hx) (ly := ~~~hy) ⟨not_le.2 hX.2, not_le.2 hX.1⟩ ⟨not_le.2 hY.2, not_le.2 hY.1⟩ hm (by rw [nbit _ hm, hym]; rfl) (fun q h0 hq h1 h2 => ?_)
  rw [nbit _ hq] at h1 h2
  rw [in_not hq, in_not hq]
  exact hf q h0 hq (by simpa using h1) (by simpa using h2)
theorem and_most_none (hX : lx.toNat ≤ X.toNat ∧ X.toNat ≤ x.toNat) (hY : ly.toNat ≤ Y.toNat ∧ Y.toNat ≤ y.toNat)
    (hf : ∀ q, q < 64 → ¬(x.getLsbD q = true ∧ y.getLsbD q = false ∧ In' x lx q) ∧ ¬(x.getLsbD q = false ∧ y.getLsbD q = true ∧ In' y ly q)) : (X &&& Y).toNat ≤ (x &&& y).toNat := by
  rw [and_not x y, and_not X Y, not_le]
  refine or_none (hx := ~~~lx) (hy := ~~~ly) ⟨not_le.2 hX.2, not_le.2 hX.1⟩ ⟨not_le.2 hY.2, not_le.2 hY.1⟩ (fun q hq => ?_)
  rw [nbit _ hq, nbit _ hq, upn_not hq, upn_not hq]
  have := hf q hq
  simpa using this
theorem and_most_in (hX : lx.toNat ≤ X.toNat ∧ X.toNat ≤ x.toNat) (hY : ly.toNat ≤ Y.toNat ∧ Y.toNat ≤ y.toNat) {m : Nat} (hm : m < 64) (hym : y.getLsbD m = false)
    (hf : ∀ q, m < q → q < 64 → ¬(x.getLsbD q = true ∧ y.getLsbD q = false ∧ In' x lx q) ∧ ¬(x.getLsbD q = false ∧ y.getLsbD q = true ∧ In' y ly q)) : (X &&& Y).toNat ≤ (wiW x (mB m) &&& y).toNat := by
  rw [and_not (wiW x (mB m)) y, and_not X Y, not_le, ← up_not x hm]
  refine or_up (hx := ~~~lx) (hy := ~~~ly) ⟨not_le.2 hX.2, not_le.2 hX.1⟩ ⟨not_le.2 hY.2, not_le.2 hY.1⟩ hm (by rw [nbit _ hm, hym]; rfl) (fun q h0 hq => ?_)
  rw [nbit _ hq, nbit _ hq, upn_not hq, upn_not hq]
  have := hf q h0 hq
  simpa using this
end

/-! ### Xor, least -/

/-- What the rounds make: U p and V p: behind the bits from p on. -/
def StpL (U V : Nat → W) (hx hy : W) : Prop := ∀ p, p < 64 →
  ((U (p + 1)).getLsbD p = false ∧ (V (p + 1)).getLsbD p = true ∧ Up (U (p + 1)) hx p ∧ U p = upW (U (p + 1)) (mB p) ∧ V p = V (p + 1)) ∨
  ((U (p + 1)).getLsbD p = true ∧ (V (p + 1)).getLsbD p = false ∧ Up (V (p + 1)) hy p ∧ V p = upW (V (p + 1)) (mB p) ∧ U p = U (p + 1)) ∨
  (¬((U (p + 1)).getLsbD p = false ∧ (V (p + 1)).getLsbD p = true ∧ Up (U (p + 1)) hx p) ∧ ¬((U (p + 1)).getLsbD p = true ∧ (V (p + 1)).getLsbD p = false ∧ Up (V (p + 1)) hy p) ∧ U p = U (p + 1) ∧ V p = V (p + 1))

theorem StpL.swap {U V : Nat → W} {hx hy : W} (h : StpL U V hx hy) : StpL V U hy hx := by
  intro p hp
  rcases h p hp with ⟨a, b, c, d, e⟩ | ⟨a, b, c, d, e⟩ | ⟨a, b, c, d⟩
  · exact .inr (.inl ⟨b, a, c, d, e⟩)
  · exact .inl ⟨b, a, c, d, e⟩
  · exact .inr (.inr ⟨fun h => b ⟨h.2.1, h.1, h.2.2⟩, fun h => a ⟨h.2.1, h.1, h.2.2⟩, d, c⟩)

section
variable {U V : Nat → W} {hx hy : W}
theorem StpL.one (h : StpL U V hx hy) {p : Nat} (hp : p < 64) : U p = U (p + 1) ∨ U p = upW (U (p + 1)) (mB p) := by
  rcases h p hp with ⟨_, _, _, d, _⟩ | ⟨_, _, _, _, e⟩ | ⟨_, _, c, _⟩
  · exact .inr d
  · exact .inl e
  · exact .inl c

/-- What lies above stays. -/
theorem StpL.above (h : StpL U V hx hy) : ∀ (k p i : Nat), p + k ≤ i → i < 64 → (U p).getLsbD i = (U (p + k)).getLsbD i := by
  intro k
  induction k with
  | zero => intro p i _ _; rfl
  | succ k ih =>
    intro p i h1 h2
    have e := ih (p + 1) i (by omega) h2
    rw [show p + 1 + k = p + (k + 1) by omega] at e
    rw [← e]
    rcases h.one (p := p) (by omega) with h3 | h3
    · rw [h3]
    · rw [h3, up_bit _ p i h2]
      have n1 : i ≠ p := by omega
      have n2 : p < i := by omega
      simp [n1, n2]

/-- Where a bit below stands, nothing has been turned up yet. -/
theorem StpL.first (h : StpL U V hx hy) : ∀ (k p : Nat), p + k = 64 → U p = U 64 ∨ ∀ i, i < p → (U p).getLsbD i = false := by
  intro k
  induction k with
  | zero => intro p hp; left; rw [show p = 64 by omega]
  | succ k ih =>
    intro p hp
    rcases h.one (p := p) (by omega) with h3 | h3
    · rw [h3]
      rcases ih (p + 1) (by omega) with h4 | h4
      · exact .inl h4
      · exact .inr fun i hi => h4 i (by omega)
    · right
      intro i hi
      rw [h3, up_bit _ p i (by omega)]
      have n1 : i ≠ p := by omega
      have n2 : ¬ p < i := by omega
      simp [n1, n2]

theorem StpL.fst (h : StpL U V hx hy) {p : Nat} (hp : p < 64) (hb : (U (p + 1)).getLsbD p = true) : U (p + 1) = U 64 := by
  rcases h.first (63 - p) (p + 1) (by omega) with h1 | h1
  · exact h1
  · rw [h1 p (by omega)] at hb; cases hb

/-- The state of the bit p, when the last answer has 0 there in the one and 1 in the other. -/
theorem StpL.at01 (h : StpL U V hx hy) {p : Nat} (hp : p < 64) (h0 : (U 0).getLsbD p = false) (h1 : (V 0).getLsbD p = true) :
    (V (p + 1)).getLsbD p = true ∧ ¬ Up (U (p + 1)) hx p := by
  have a0 := h.above p 0 p (by omega) hp
  have a1 := h.swap.above p 0 p (by omega) hp
  rw [Nat.zero_add] at a0 a1
  rw [a0] at h0
  rw [a1] at h1
  rcases h p hp with ⟨a, b, c, d, e⟩ | ⟨a, b, c, d, e⟩ | ⟨a, b, c, d⟩
  · rw [d, up_bit _ p p hp] at h0; simp at h0
  · rw [e, a] at h0; cases h0
  · rw [c] at h0
    rw [d] at h1
    exact ⟨h1, fun hu => a ⟨h0, h1, hu⟩⟩

theorem xor_core (h : StpL U V hx hy) {X Y : W} (hX : (U 64).toNat ≤ X.toNat ∧ X.toNat ≤ hx.toNat) (hY : (V 64).toNat ≤ Y.toNat ∧ Y.toNat ≤ hy.toNat)
    {p : Nat} (hp : p < 64) (hr : ∀ i, p < i → i < 64 → ((X.getLsbD i) ^^ (Y.getLsbD i)) = ((U 0).getLsbD i ^^ (V 0).getLsbD i))
    (h0 : (U 0).getLsbD p = false) (h1 : (V 0).getLsbD p = true) (hR : ((X.getLsbD p) ^^ (Y.getLsbD p)) = false) : False := by
  obtain ⟨vp, nup⟩ := h.at01 hp h0 h1
  have ab : ∀ q i, q < i → i < 64 → (U (q + 1)).getLsbD i = (U 0).getLsbD i := fun q i a b => by
    have := h.above (q + 1) 0 i (by omega) b
    rw [Nat.zero_add] at this; exact this.symm
  have abv : ∀ q i, q < i → i < 64 → (V (q + 1)).getLsbD i = (V 0).getLsbD i := fun q i a b => by
    have := h.swap.above (q + 1) 0 i (by omega) b
    rw [Nat.zero_add] at this; exact this.symm
  have agree : ∀ n, n ≤ 64 → ∀ q, 64 - n ≤ q → p < q → q < 64 → X.getLsbD q = (U 0).getLsbD q ∧ Y.getLsbD q = (V 0).getLsbD q := by
    intro n
    induction n with
    | zero => intro _ q a b c; omega
    | succ n ih =>
      intro hn q a b c
      by_cases hq : 64 - n ≤ q
      · exact ih (by omega) q hq b c
      · have up : ∀ i, q < i → i < 64 → X.getLsbD i = (U 0).getLsbD i ∧ Y.getLsbD i = (V 0).getLsbD i := fun i u v => ih (by omega) i (by omega) (by omega) v
        have xq := hr q b c
        cases hu : (U 0).getLsbD q <;> cases hv : (V 0).getLsbD q <;> rw [hu, hv] at xq
        · -- 0 0
          cases hXq : X.getLsbD q <;> cases hYq : Y.getLsbD q <;> rw [hXq, hYq] at xq <;> first | exact ⟨rfl, rfl⟩ | (exfalso; revert xq; decide) | skip
          exfalso
          apply nup
          have : (upW (U (p + 1)) (mB p)).toNat < X.toNat := by
            refine bit_lt (q := q) ?_ hXq (fun i u v => ?_)
            · rw [up_bit _ p q c, ab p q b c, hu]
              have n1 : q ≠ p := by omega
              simp [n1]
            · rw [up_bit _ p i v, ab p i (by omega) v, (up i u v).1]
              have n1 : i ≠ p := by omega
              have n2 : p < i := by omega
              simp [n1, n2]
          unfold Up; omega
        · -- 0 1
          cases hXq : X.getLsbD q <;> cases hYq : Y.getLsbD q <;> rw [hXq, hYq] at xq <;> first | exact ⟨rfl, rfl⟩ | (exfalso; revert xq; decide) | skip
          exfalso
          refine (h.at01 c hu hv).2 ?_
          have := up_le (x := U (q + 1)) (X := X) (q := q) (fun i u v => by rw [ab q i u v, (up i u v).1]) hXq
          unfold Up; omega
        · -- 1 0
          cases hXq : X.getLsbD q <;> cases hYq : Y.getLsbD q <;> rw [hXq, hYq] at xq <;> first | exact ⟨rfl, rfl⟩ | (exfalso; revert xq; decide) | skip
          exfalso
          refine (h.swap.at01 c hv hu).2 ?_
          have := up_le (x := V (q + 1)) (X := Y) (q := q) (fun i u v => by rw [abv q i u v, (up i u v).2]) hYq
          unfold Up; omega
        · -- 1 1
          cases hXq : X.getLsbD q <;> cases hYq : Y.getLsbD q <;> rw [hXq, hYq] at xq <;> first | exact ⟨rfl, rfl⟩ | (exfalso; revert xq; decide) | skip
          exfalso
          have u0 : (U (q + 1)).getLsbD q = false := by
            cases e : (U (q + 1)).getLsbD q with
            | false => rfl
            | true =>
              exfalso
              have e2 := h.fst c e
              have : X.toNat < (U 64).toNat := by
                rw [← e2]
                exact bit_lt hXq e (fun i u v => by rw [ab q i u v, (up i u v).1])
              omega
          have v0 : (V (q + 1)).getLsbD q = false := by
            cases e : (V (q + 1)).getLsbD q with
            | false => rfl
            | true =>
              exfalso
              have e2 := h.swap.fst c e
              have : Y.toNat < (V 64).toNat := by
                rw [← e2]
                exact bit_lt hYq e (fun i u v => by rw [abv q i u v, (up i u v).2])
              omega
          have a0 := h.above q 0 q (by omega) c
          rw [Nat.zero_add, hu] at a0
          rcases h q c with ⟨_, b1, _⟩ | ⟨b1, _⟩ | ⟨_, _, b1, _⟩
          · rw [v0] at b1; cases b1
          · rw [u0] at b1; cases b1
          · rw [b1, u0] at a0; cases a0
  have up : ∀ i, p < i → i < 64 → X.getLsbD i = (U 0).getLsbD i ∧ Y.getLsbD i = (V 0).getLsbD i := fun i u v => agree 64 (Nat.le_refl _) i (by omega) u v
  cases hXp : X.getLsbD p with
  | true =>
    apply nup
    have := up_le (x := U (p + 1)) (X := X) (q := p) (fun i u v => by rw [ab p i u v, (up i u v).1]) hXp
    unfold Up; omega
  | false =>
    rw [hXp] at hR
    have hYp : Y.getLsbD p = false := by simpa using hR
    have e2 := h.swap.fst hp vp
    have : Y.toNat < (V 64).toNat := by
      rw [← e2]
      exact bit_lt hYp vp (fun i u v => by rw [abv p i u v, (up i u v).2])
    omega

theorem xor_least (h : StpL U V hx hy) {X Y : W} (hX : (U 64).toNat ≤ X.toNat ∧ X.toNat ≤ hx.toNat) (hY : (V 64).toNat ≤ Y.toNat ∧ Y.toNat ≤ hy.toNat) :
    (U 0 ^^^ V 0).toNat ≤ (X ^^^ Y).toNat := by
  by_cases hlt : (X ^^^ Y).toNat < (U 0 ^^^ V 0).toNat
  · exfalso
    obtain ⟨p, hp, h1, h2, h3⟩ := hi_diff hlt
    rw [BitVec.getLsbD_xor] at h1 h2
    have hr : ∀ i, p < i → i < 64 → ((X.getLsbD i) ^^ (Y.getLsbD i)) = ((U 0).getLsbD i ^^ (V 0).getLsbD i) := fun i a b => by
      have := h3 i a b
      rwa [BitVec.getLsbD_xor, BitVec.getLsbD_xor] at this
    cases hu : (U 0).getLsbD p <;> cases hv : (V 0).getLsbD p <;> rw [hu, hv] at h2
    · cases h2
    · exact xor_core h hX hY hp hr hu hv h1
    · exact xor_core h.swap hY hX hp (fun i a b => by rw [Bool.xor_comm, hr i a b, Bool.xor_comm]) hv hu (by rw [Bool.xor_comm]; exact h1)
    · cases h2
  · omega

theorem StpL.within (h : StpL U V hx hy) (h64 : (U 64).toNat ≤ hx.toNat) : ∀ (k p : Nat), p + k = 64 → (U 64).toNat ≤ (U p).toNat ∧ (U p).toNat ≤ hx.toNat := by
  intro k
  induction k with
  | zero => intro p hp; rw [show p = 64 by omega]; exact ⟨Nat.le_refl _, h64⟩
  | succ k ih =>
    intro p hp
    have i := ih (p + 1) (by omega)
    rcases h p (by omega) with ⟨a, _, c, d, _⟩ | ⟨_, _, _, _, e⟩ | ⟨_, _, c, _⟩
    · rw [d]
      have := le_up (x := U (p + 1)) (q := p) (by omega) a
      exact ⟨by omega, c⟩
    · rw [e]; exact i
    · rw [c]; exact i
end
end Go.Rf

/- Plain laws of bits: the greatest Xor. -/
namespace Go.Rf

def StpM (U V : Nat → W) (lx ly : W) : Prop := ∀ p, p < 64 →
  ((U (p + 1)).getLsbD p = true ∧ (V (p + 1)).getLsbD p = true ∧ In' (U (p + 1)) lx p ∧ U p = wiW (U (p + 1)) (mB p) ∧ V p = V (p + 1)) ∨
  ((U (p + 1)).getLsbD p = true ∧ (V (p + 1)).getLsbD p = true ∧ ¬ In' (U (p + 1)) lx p ∧ In' (V (p + 1)) ly p ∧ V p = wiW (V (p + 1)) (mB p) ∧ U p = U (p + 1)) ∨
  (((U (p + 1)).getLsbD p = true → (V (p + 1)).getLsbD p = true → ¬ In' (U (p + 1)) lx p ∧ ¬ In' (V (p + 1)) ly p) ∧ U p = U (p + 1) ∧ V p = V (p + 1))

/-- One of the two rows. -/
def Row (U : Nat → W) (lx : W) : Prop := ∀ p, p < 64 → U p = U (p + 1) ∨ ((U (p + 1)).getLsbD p = true ∧ In' (U (p + 1)) lx p ∧ U p = wiW (U (p + 1)) (mB p))

theorem StpM.u {U V : Nat → W} {lx ly : W} (h : StpM U V lx ly) : Row U lx := by
  intro p hp
  rcases h p hp with ⟨a, _, c, d, _⟩ | ⟨_, _, _, _, _, e⟩ | ⟨_, c, _⟩
  · exact .inr ⟨a, c, d⟩
  · exact .inl e
  · exact .inl c
theorem StpM.v {U V : Nat → W} {lx ly : W} (h : StpM U V lx ly) : Row V ly := by
  intro p hp
  rcases h p hp with ⟨_, _, _, _, e⟩ | ⟨_, b, _, c, d, _⟩ | ⟨_, _, c⟩
  · exact .inl e
  · exact .inr ⟨b, c, d⟩
  · exact .inl c

section
variable {U V : Nat → W} {lx ly : W}
theorem Row.above (h : Row U lx) : ∀ (k p i : Nat), p + k ≤ i → i < 64 → (U p).getLsbD i = (U (p + k)).getLsbD i := by
  intro k
  induction k with
  | zero => intro p i _ _; rfl
  | succ k ih =>
    intro p i h1 h2
    have e := ih (p + 1) i (by omega) h2
    rw [show p + 1 + k = p + (k + 1) by omega] at e
    rw [← e]
    rcases h p (by omega) with h3 | ⟨_, _, h3⟩
    · rw [h3]
    · rw [h3, wi_bit _ p i (by omega) h2]
      have n1 : ¬ i < p := by omega
      have n2 : p < i := by omega
      simp [n1, n2]
theorem Row.ab (h : Row U lx) {q i : Nat} (a : q < i) (b : i < 64) : (U (q + 1)).getLsbD i = (U 0).getLsbD i := by
  have := h.above (q + 1) 0 i (by omega) b
  rw [Nat.zero_add] at this; exact this.symm
theorem Row.at' (h : Row U lx) {q : Nat} (b : q < 64) : (U 0).getLsbD q = (U q).getLsbD q := by
  have := h.above q 0 q (by omega) b
  rwa [Nat.zero_add] at this

theorem Row.first (h : Row U lx) : ∀ (k p : Nat), p + k = 64 → U p = U 64 ∨ ∀ i, i < p → (U p).getLsbD i = true := by
  intro k
  induction k with
  | zero => intro p hp; left; rw [show p = 64 by omega]
  | succ k ih =>
    intro p hp
    rcases h p (by omega) with h3 | ⟨_, _, h3⟩
    · rw [h3]
      rcases ih (p + 1) (by omega) with h4 | h4
      · exact .inl h4
      · exact .inr fun i hi => h4 i (by omega)
    · right
      intro i hi
      rw [h3, wi_bit _ p i (by omega) (by omega)]
      simp [hi]
theorem Row.fst (h : Row U lx) {p q : Nat} (hp : q < p) (hp6 : p ≤ 64) (hb : (U p).getLsbD q = false) : U p = U 64 := by
  rcases h.first (64 - p) p (by omega) with h1 | h1
  · exact h1
  · rw [h1 q hp] at hb; cases hb

/-- What agrees above and has the bit that the row's state lacks is beyond it. -/
theorem Row.no (h : Row U lx) {X : W} (hX : lx.toNat ≤ X.toNat ∧ X.toNat ≤ (U 64).toNat) {q : Nat} (hq : q < 64) (hb : (U (q + 1)).getLsbD q = false) (hXq : X.getLsbD q = true)
    (up : ∀ i, q < i → i < 64 → X.getLsbD i = (U 0).getLsbD i) : False := by
  have e := h.fst (p := q + 1) (q := q) (by omega) (by omega) hb
  have : (U 64).toNat < X.toNat := by
    rw [← e]
    exact bit_lt hb hXq (fun i a b => by rw [h.ab a b, up i a b])
  omega
theorem Row.yes (h : Row U lx) {X : W} (hX : lx.toNat ≤ X.toNat ∧ X.toNat ≤ (U 64).toNat) {q : Nat} (hq : q < 64) (hXq : X.getLsbD q = false)
    (up : ∀ i, q < i → i < 64 → X.getLsbD i = (U 0).getLsbD i) : In' (U (q + 1)) lx q := by
  have := le_wi (x := U (q + 1)) (X := X) hq (fun i a b => by rw [h.ab a b, up i a b]) hXq
  unfold In'; omega

theorem xorM_agree (h : StpM U V lx ly) {X Y : W} (hX : lx.toNat ≤ X.toNat ∧ X.toNat ≤ (U 64).toNat) (hY : ly.toNat ≤ Y.toNat ∧ Y.toNat ≤ (V 64).toNat)
    {p : Nat} (hp : p < 64) (hr : ∀ i, p < i → i < 64 → ((X.getLsbD i) ^^ (Y.getLsbD i)) = ((U 0).getLsbD i ^^ (V 0).getLsbD i))
    (h0 : (U 0).getLsbD p = (V 0).getLsbD p) : ∀ n, n ≤ 64 → ∀ q, 64 - n ≤ q → p < q → q < 64 → X.getLsbD q = (U 0).getLsbD q ∧ Y.getLsbD q = (V 0).getLsbD q := by
  intro n
  induction n with
  | zero => intro _ q a b c; omega
  | succ n ih =>
    intro hn q a b c
    by_cases hq : 64 - n ≤ q
    · exact ih (by omega) q hq b c
    · have up : ∀ i, q < i → i < 64 → X.getLsbD i = (U 0).getLsbD i ∧ Y.getLsbD i = (V 0).getLsbD i := fun i u v => ih (by omega) i (by omega) (by omega) v
      have upx : ∀ i, q < i → i < 64 → X.getLsbD i = (U 0).getLsbD i := fun i u v => (up i u v).1
      have upy : ∀ i, q < i → i < 64 → Y.getLsbD i = (V 0).getLsbD i := fun i u v => (up i u v).2
      have xq := hr q b c
      have eu := h.u.at' c
      have ev := h.v.at' c
      cases hu : (U 0).getLsbD q <;> cases hv : (V 0).getLsbD q <;> rw [hu, hv] at xq <;> rw [hu] at eu <;> rw [hv] at ev
      · -- 0 0
        cases hXq : X.getLsbD q <;> cases hYq : Y.getLsbD q <;> rw [hXq, hYq] at xq <;> first | exact ⟨rfl, rfl⟩ | (exfalso; revert xq; decide) | skip
        exfalso
        cases e : (U (q + 1)).getLsbD q with
        | false => exact h.u.no hX c e hXq upx
        | true =>
          rcases h q c with ⟨_, b1, _, _, b2⟩ | ⟨_, _, _, _, _, b2⟩ | ⟨_, b2, _⟩
          · rw [b2, b1] at ev; cases ev
          · rw [b2, e] at eu; cases eu
          · rw [b2, e] at eu; cases eu
      · -- 0 1
        cases hXq : X.getLsbD q <;> cases hYq : Y.getLsbD q <;> rw [hXq, hYq] at xq <;> first | exact ⟨rfl, rfl⟩ | (exfalso; revert xq; decide) | skip
        exfalso
        cases e : (U (q + 1)).getLsbD q with
        | false => exact h.u.no hX c e hXq upx
        | true =>
          have iv : In' (V (p + 1)) ly p := by
            have : Y.toNat < (wiW (V (p + 1)) (mB p)).toNat := by
              refine bit_lt (q := q) hYq ?_ (fun i u v => ?_)
              · rw [wi_bit _ p q hp c, h.v.ab b c, hv]
                simp [b]
              · rw [wi_bit _ p i hp v, h.v.ab (by omega) v, upy i u v]
                have n1 : ¬ i < p := by omega
                have n2 : p < i := by omega
                simp [n1, n2]
            unfold In'; omega
          have up1 : (U (p + 1)).getLsbD p = true := by
            cases e3 : (U (p + 1)).getLsbD p with
            | true => rfl
            | false =>
              exfalso
              have e4 := h.u.fst (p := p + 1) (q := p) (by omega) (by omega) e3
              have : (U 64).toNat < X.toNat := by
                rw [← e4]
                refine bit_lt (q := q) ?_ hXq (fun i u v => by rw [h.u.ab (by omega) v, upx i u v])
                rw [h.u.ab b c, hu]
              omega
          have eup := h.u.at' hp
          have evp := h.v.at' hp
          rcases h p hp with ⟨_, b1, _, b3, b4⟩ | ⟨b1, _, _, _, b3, b4⟩ | ⟨b1, b3, b4⟩
          · rw [b3, wi_bit _ p p hp hp] at eup
            rw [b4, b1] at evp
            rw [eup, evp] at h0; simp at h0
          · rw [b3, wi_bit _ p p hp hp] at evp
            rw [b4, b1] at eup
            rw [eup, evp] at h0; simp at h0
          · rw [b3, up1] at eup
            rw [eup, evp, b4] at h0
            exact (b1 up1 h0.symm).2 iv
      · -- 1 0
        cases hXq : X.getLsbD q <;> cases hYq : Y.getLsbD q <;> rw [hXq, hYq] at xq <;> first | exact ⟨rfl, rfl⟩ | (exfalso; revert xq; decide) | skip
        exfalso
        cases e : (V (q + 1)).getLsbD q with
        | false => exact h.v.no hY c e hYq upy
        | true =>
          rcases h q c with ⟨_, _, _, _, b2⟩ | ⟨_, _, b1, _⟩ | ⟨_, _, b2⟩
          · rw [b2, e] at ev; cases ev
          · exact b1 (h.u.yes hX c hXq upx)
          · rw [b2, e] at ev; cases ev
      · -- 1 1
        cases hXq : X.getLsbD q <;> cases hYq : Y.getLsbD q <;> rw [hXq, hYq] at xq <;> first | exact ⟨rfl, rfl⟩ | (exfalso; revert xq; decide) | skip
        exfalso
        rcases h q c with ⟨_, _, _, b3, _⟩ | ⟨_, _, _, _, b3, _⟩ | ⟨b1, b3, b4⟩
        · rw [b3, wi_bit _ q q c c] at eu; simp at eu
        · rw [b3, wi_bit _ q q c c] at ev; simp at ev
        · rw [b3] at eu
          rw [b4] at ev
          exact (b1 eu.symm ev.symm).1 (h.u.yes hX c hXq upx)

theorem xor_most (h : StpM U V lx ly) {X Y : W} (hX : lx.toNat ≤ X.toNat ∧ X.toNat ≤ (U 64).toNat) (hY : ly.toNat ≤ Y.toNat ∧ Y.toNat ≤ (V 64).toNat) :
    (X ^^^ Y).toNat ≤ (U 0 ^^^ V 0).toNat := by
  by_cases hlt : (U 0 ^^^ V 0).toNat < (X ^^^ Y).toNat
  · exfalso
    obtain ⟨p, hp, h1, h2, h3⟩ := hi_diff hlt
    rw [BitVec.getLsbD_xor] at h1 h2
    have hr : ∀ i, p < i → i < 64 → ((X.getLsbD i) ^^ (Y.getLsbD i)) = ((U 0).getLsbD i ^^ (V 0).getLsbD i) := fun i a b => by
      have := h3 i a b
      rw [BitVec.getLsbD_xor, BitVec.getLsbD_xor] at this
      exact this.symm
    have h0 : (U 0).getLsbD p = (V 0).getLsbD p := by
      revert h1
      cases (U 0).getLsbD p <;> cases (V 0).getLsbD p <;> decide
    have ag := xorM_agree h hX hY hp hr h0 64 (Nat.le_refl _)
    have upx : ∀ i, p < i → i < 64 → X.getLsbD i = (U 0).getLsbD i := fun i u v => (ag i (by omega) u v).1
    have upy : ∀ i, p < i → i < 64 → Y.getLsbD i = (V 0).getLsbD i := fun i u v => (ag i (by omega) u v).2
    have eu := h.u.at' hp
    have ev := h.v.at' hp
    cases hu : (U 0).getLsbD p with
    | true =>
      have hv : (V 0).getLsbD p = true := by rw [← h0]; exact hu
      rw [hu] at eu
      rw [hv] at ev
      rcases h p hp with ⟨_, _, _, b3, _⟩ | ⟨_, _, _, _, b3, _⟩ | ⟨b1, b3, b4⟩
      · rw [b3, wi_bit _ p p hp hp] at eu; simp at eu
      · rw [b3, wi_bit _ p p hp hp] at ev; simp at ev
      · rw [b3] at eu
        rw [b4] at ev
        have := b1 eu.symm ev.symm
        cases hXp : X.getLsbD p with
        | false => exact this.1 (h.u.yes hX hp hXp upx)
        | true =>
          cases hYp : Y.getLsbD p with
          | false => exact this.2 (h.v.yes hY hp hYp upy)
          | true => rw [hXp, hYp] at h2; cases h2
    | false =>
      have hv : (V 0).getLsbD p = false := by rw [← h0]; exact hu
      rw [hu] at eu
      rw [hv] at ev
      cases hXp : X.getLsbD p with
      | true =>
        cases e : (U (p + 1)).getLsbD p with
        | false => exact h.u.no hX hp e hXp upx
        | true =>
          rcases h p hp with ⟨_, b1, _, _, b2⟩ | ⟨_, _, _, _, _, b2⟩ | ⟨_, b2, _⟩
          · rw [b2, b1] at ev; cases ev
          · rw [b2, e] at eu; cases eu
          · rw [b2, e] at eu; cases eu
      | false =>
        rw [hXp] at h2
        have hYp : Y.getLsbD p = true := by simpa using h2
        cases e : (V (p + 1)).getLsbD p with
        | false => exact h.v.no hY hp e hYp upy
        | true =>
          rcases h p hp with ⟨_, _, _, _, b2⟩ | ⟨b1, _, _, _, _, b2⟩ | ⟨_, _, b2⟩
          · rw [b2, e] at ev; cases ev
          · rw [b2, b1] at eu; cases eu
          · rw [b2, e] at ev; cases ev
  · omega

theorem Row.within (h : Row U lx) (h64 : lx.toNat ≤ (U 64).toNat) : ∀ (k p : Nat), p + k = 64 → lx.toNat ≤ (U p).toNat ∧ (U p).toNat ≤ (U 64).toNat := by
  intro k
  induction k with
  | zero => intro p hp; rw [show p = 64 by omega]; exact ⟨h64, Nat.le_refl _⟩
  | succ k ih =>
    intro p hp
    have i := ih (p + 1) (by omega)
    rcases h p (by omega) with e | ⟨a, c, d⟩
    · rw [e]; exact i
    · rw [d]
      have := wi_le (x := U (p + 1)) (q := p) (by omega) a
      exact ⟨c, by omega⟩
end
end Go.Rf

/- Spans: sums, differences, quotients, what is left; products of two words. -/
namespace Go.Rf

def sumBad (a b : Sp) (t : W) : Bool := carryB a.lo b.lo != carryB a.hi b.hi || ltB .u64 t (a.lo + b.lo) != ltB .u64 t (a.hi + b.hi)
def sumS (a b : Sp) (t : W) : Sp := Sp.mux (sumBad a b t) ⟨0, t⟩ ⟨(a.lo + b.lo) &&& t, (a.hi + b.hi) &&& t⟩
def lessBad (a b : Sp) : Bool := borrowB a.lo b.hi != borrowB a.hi b.lo
def lessS (a b : Sp) (t : W) : Sp := Sp.mux (lessBad a b) ⟨0, t⟩ ⟨(a.lo - b.hi) &&& t, (a.hi - b.lo) &&& t⟩
def quoW (x y : W) : W := quoB .u64 x y
def remW (x y : W) : W := remB .u64 x y
def partsS (a b : Sp) : Sp := Sp.mux (b.hi == 0#64) nilS (Sp.mux (b.lo == 0#64) ⟨0, a.hi⟩ ⟨quoW a.lo b.hi, quoW a.hi b.lo⟩)
def restC1 (a b : Sp) : Bool := b.hi == 0#64 || ltB .u64 a.hi b.lo
def restC2 (a b : Sp) : Bool := b.lo == b.hi && quoW a.lo b.lo == quoW a.hi b.lo
def restS (a b : Sp) : Sp :=
  ⟨bif restC1 a b then a.lo else bif restC2 a b then remW a.lo b.lo else 0#64,
   bif restC1 a b then a.hi else bif restC2 a b then remW a.hi b.lo else bif b.lo == 0#64 then a.hi else minU a.hi (b.hi - 1#64)⟩

theorem rest_n0 {a b : Sp} (h1 : (!restC1 a b) = true) (h2 : b.lo = b.hi) : b.lo ≠ 0#64 := by
  unfold restC1 at h1
  rw [h2]
  intro h
  rw [h] at h1
  simp at h1
/-! Products of two words. -/
def m32 : W := 4294967295#64
def s32 (x : W) : W := x >>> 32
def mulT (x y : W) : W := s32 x * (y &&& m32) + s32 ((x &&& m32) * (y &&& m32))
def mulHi (x y : W) : W := s32 x * s32 y + s32 (mulT x y) + s32 ((mulT x y &&& m32) + (x &&& m32) * s32 y)
theorem s32_nat (x : W) : (s32 x).toNat = x.toNat / 4294967296 := by
  unfold s32
  rw [BitVec.toNat_ushiftRight, Nat.shiftRight_eq_div_pow]
theorem m32_nat (x : W) : (x &&& m32).toNat = x.toNat % 4294967296 := by
  rw [BitVec.toNat_and]
  exact Nat.and_two_pow_sub_one_eq_mod x.toNat 32

theorem mul_bd {x y : Nat} (hx : x < 4294967296) (hy : y < 4294967296) : x * y ≤ 18446744065119617025 :=
  Nat.mul_le_mul (Nat.le_of_lt_succ hx) (Nat.le_of_lt_succ hy)

theorem mulHi_nat (x y : W) : (mulHi x y).toNat = x.toNat * y.toNat / 18446744073709551616 := by
  have hx := x.isLt
  have hy := y.isLt
  have x1 : x.toNat / 4294967296 < 4294967296 := by omega
  have y1 : y.toNat / 4294967296 < 4294967296 := by omega
  have x0 : x.toNat % 4294967296 < 4294967296 := Nat.mod_lt _ (by decide)
  have y0 : y.toNat % 4294967296 < 4294967296 := Nat.mod_lt _ (by decide)
  have b00 := mul_bd x0 y0
  have b01 := mul_bd x0 y1
  have b10 := mul_bd x1 y0
  have b11 := mul_bd x1 y1
  have hT : (mulT x y).toNat = x.toNat / 4294967296 * (y.toNat % 4294967296) + x.toNat % 4294967296 * (y.toNat % 4294967296) / 4294967296 := by
    unfold mulT
    rw [BitVec.toNat_add, BitVec.toNat_mul, s32_nat, s32_nat, BitVec.toNat_mul, m32_nat, m32_nat]
    omega
  have hprod : x.toNat * y.toNat = x.toNat / 4294967296 * (y.toNat / 4294967296) * 18446744073709551616 + (x.toNat / 4294967296 * (y.toNat % 4294967296) + x.toNat % 4294967296 * (y.toNat / 4294967296)) * 4294967296 + x.toNat % 4294967296 * (y.toNat % 4294967296) := by
    have ex : x.toNat = x.toNat / 4294967296 * 4294967296 + x.toNat % 4294967296 := by omega
    have ey : y.toNat = y.toNat / 4294967296 * 4294967296 + y.toNat % 4294967296 := by omega
    generalize x.toNat / 4294967296 = a at *
    generalize x.toNat % 4294967296 = b at *
    generalize y.toNat / 4294967296 = c at *
    generalize y.toNat % 4294967296 = d at *
    rw [ex, ey, Nat.add_mul, Nat.mul_add, Nat.mul_add]
    have e1 : a * 4294967296 * (c * 4294967296) = a * c * 18446744073709551616 := by
      rw [Nat.mul_mul_mul_comm]
    have e2 : a * 4294967296 * d = a * d * 4294967296 := Nat.mul_right_comm _ _ _
    have e3 : b * (c * 4294967296) = b * c * 4294967296 := (Nat.mul_assoc _ _ _).symm
    rw [e1, e2, e3]
    omega
  unfold mulHi
  rw [BitVec.toNat_add, BitVec.toNat_add, BitVec.toNat_mul, s32_nat, s32_nat, s32_nat, s32_nat, BitVec.toNat_add, BitVec.toNat_mul, m32_nat, m32_nat, s32_nat, hT, hprod]
  generalize x.toNat / 4294967296 * (y.toNat % 4294967296) = B at *
  generalize x.toNat % 4294967296 * (y.toNat / 4294967296) = C at *
  generalize x.toNat / 4294967296 * (y.toNat / 4294967296) = A at *
  generalize x.toNat % 4294967296 * (y.toNat % 4294967296) = D at *
  omega
end Go.Rf

/- Spans: the contract of Alu. -/
namespace Go.Rf

noncomputable def sl6 : List (FuncId × Con) :=
  (30, con3 cSp cSp cW fun a b t => eSp (sumS a b t)) :: (31, con3 cSp cSp cW fun a b t => eSp (lessS a b t)) ::
  (33, con2 cSp cSp fun a b => eSp (partsS a b)) :: (38, con2 cSp cSp fun a b => eSp (restS a b)) ::
  (32, con2 cW cW fun x y => pair (eW (mulHi x y)) (eW (x * y))) :: sl5
def mulS (a b : Sp) (t : W) : Sp := Sp.mux (ltB .u64 0#64 (mulHi a.hi b.hi) || ltB .u64 t (a.hi * b.hi)) ⟨0, t⟩ ⟨a.lo * b.lo, a.hi * b.hi⟩
def toUS (x : W) : W := convB .i64 .u64 x
def toIS (x : W) : W := convB .u64 .i64 x
def half1 (x : W) : W := shrB .u64 x 1
def shC (x n : W) : W := toIS (x &&& toUS (n - 1#64))
def shWide (b : Sp) (n : W) : Bool := leB .u64 (toUS n) (b.hi - b.lo) || ltB .i64 (shC b.hi n) (shC b.lo n)
def drw (x k t : W) : W := shI x k ||| (t &&& ~~~(shI t k))
def signOf (t : W) : W := half1 t + 1#64
def shTo (op : W) (a : Sp) (c d t : W) : Sp :=
  Sp.mux (op == 6#64 && ltB .u64 (shI t d) a.hi) ⟨0, t⟩
    (Sp.mux (op == 6#64) ⟨a.lo <<< amt .i64 c, a.hi <<< amt .i64 d⟩
      (Sp.mux (op == 7#64 || ltB .u64 a.hi (signOf t)) ⟨shI a.lo d, shI a.hi c⟩
        (Sp.mux (ltB .u64 a.lo (signOf t)) ⟨shI a.lo d, drw a.hi d t⟩ ⟨drw a.lo c t, drw a.hi d t⟩)))
def shiftS (op : W) (a b : Sp) (n t : W) : Sp := Sp.mux (shWide b n) (shTo op a 0#64 (n - 1#64) t) (shTo op a (shC b.lo n) (shC b.hi n) t)
def core (op : W) (a b : Sp) (n t : W) : Sp :=
  Sp.mux (op == 0#64) (sumS a b t) (Sp.mux (op == 8#64) (lessS (ofS 0#64) a t) (Sp.mux (op == 1#64) (lessS a b t)
  (Sp.mux (op == 2#64) (mulS a b t) (Sp.mux (op == 3#64) (partsS a b) (Sp.mux (op == 4#64) ⟨leastOr a b, mostOr a b⟩
  (Sp.mux (op == 5#64) ⟨leastAnd a b, mostAnd a b⟩ (Sp.mux (op == 9#64) (restS a b) (Sp.mux (op == 10#64) ⟨leastXor a b, mostXor a b⟩
  (Sp.mux (op == 11#64) b (shiftS op a b n t))))))))))
def aluBad (op : W) (a b : Sp) : Bool := ltB .i64 op 0#64 || ltB .i64 12#64 op || !mayS a || !mayS b
def t32 : W := 4294967295#64
def t64 : W := 18446744073709551615#64
def aluS (op : W) (w : Bool) (a b : Sp) : Sp := Sp.mux (!w) (core op (cutS a 32#64) (cutS b 32#64) 32#64 t32) (core op a b 64#64 t64)

def p0 (x : W) : Prop := 0 ≤ toZ .i64 x
def obsN (b : Sp) (n : W) : List Prop :=
  [p0 0#64, p0 (n - 1#64), p0 (n - 1#64), p0 0#64, p0 (n - 1#64), p0 (n - 1#64), p0 0#64, p0 (n - 1#64),
   p0 (shC b.hi n), p0 (shC b.lo n), p0 (shC b.hi n), p0 (shC b.hi n), p0 (shC b.lo n), p0 (shC b.hi n), p0 (shC b.hi n), p0 (shC b.hi n), p0 (shC b.lo n), p0 (shC b.lo n), p0 (shC b.hi n), p0 (shC b.hi n)]

theorem shC_nat (x : W) (n : W) (hn : n = 32#64 ∨ n = 64#64) : (shC x n).toNat = x.toNat % n.toNat := by
  have e : shC x n = x &&& (n - 1#64) := by
    unfold shC toIS toUS
    show ((x &&& (n - 1#64).signExtend 64).setWidth 64 : W) = _
    rw [BitVec.setWidth_eq, BitVec.signExtend_eq]
  rw [e, BitVec.toNat_and]
  rcases hn with rfl | rfl
  · exact Nat.and_two_pow_sub_one_eq_mod x.toNat 5
  · exact Nat.and_two_pow_sub_one_eq_mod x.toNat 6
theorem shC_pos (x n : W) (hn : n = 32#64 ∨ n = 64#64) : p0 (shC x n) := by
  have h := shC_nat x n hn
  have : (shC x n).toNat < 64 := by
    rw [h]
    rcases hn with rfl | rfl
    · exact Nat.lt_of_lt_of_le (Nat.mod_lt _ (by decide)) (by decide)
    · exact Nat.mod_lt _ (by decide)
  unfold p0
  rw [toZ_nat (by omega)]
  omega
theorem obsN_hold (b : Sp) (n : W) (hn : n = 32#64 ∨ n = 64#64) : ∀ p ∈ obsN b n, p := by
  intro p hp
  have z : p0 0#64 := by show (0 : Int) ≤ (0#64 : W).toInt; decide
  have t : p0 (n - 1#64) := by
    rcases hn with rfl | rfl
    · show (0 : Int) ≤ (32#64 - 1#64 : W).toInt; decide
    · show (0 : Int) ≤ (64#64 - 1#64 : W).toInt; decide
  have c := shC_pos b.lo n hn
  have d := shC_pos b.hi n hn
  simp only [obsN, List.mem_cons, List.not_mem_nil, or_false] at hp
  rcases hp with rfl | rfl | rfl | rfl | rfl | rfl | rfl | rfl | rfl | rfl | rfl | rfl | rfl | rfl | rfl | rfl | rfl | rfl | rfl | rfl <;> assumption

noncomputable def sl7 : List (FuncId × Con) := (15, con4 cI cB cSp cSp fun op w a b => resSE (aluBad op a b) (aluS op w a b)) :: sl6
end Go.Rf

/- Spans: the document's One. -/
namespace Go.Rf

structure DrS where
  x : W
  k : W
  z : W
  i : W
def pDr : List Nat := [1, 0, 1, 4]
def DrS.go (s : DrS) : Bool := ltB .i64 s.i s.k
def DrS.nxt (s : DrS) : DrS := ⟨quoW s.x 2#64 + (s.x &&& powWr (s.z - 1#64)), s.k, s.z, s.i + 1#64⟩
def DrS.step (s : DrS) : Rd DrS := .br s.go (.norm s.nxt) (.exit 0 s)
def DrS.inv (s : DrS) : Prop := 0 ≤ s.i.toInt
def DrS.mu (s : DrS) : Nat := (s.k.toInt - s.i.toInt).toNat
theorem DrS.dec (s : DrS) (h : s.inv) (hg : s.go = true) : s.nxt.inv ∧ s.nxt.mu < s.mu := by
  rw [DrS.go, ltI, decide_eq_true_eq] at hg
  have e : s.nxt.i.toInt = s.i.toInt + 1 := succ_int hg
  have e2 : s.nxt.k = s.k := rfl
  have h' : 0 ≤ s.i.toInt := h
  simp only [DrS.inv, DrS.mu, e, e2]
  omega
def DrS.run (s : DrS) : DrS := runN DrS.go DrS.nxt s.mu s
def DrS.T (s : DrS) : Rd DrS := .exit 0 s.run
def drawnR (x k z : W) : W := (DrS.run ⟨x, k, z, 0#64⟩).x
noncomputable def sl8 : List (FuncId × Con) := (49, con3 cW cI cI fun x k z => eW (drawnR x k z)) :: sl7
/-- x, y: cut to t; n: how many bits. -/
def one' (op x y n t : W) : W :=
  bif op == 0#64 then (x + y) &&& t else bif op == 1#64 then (x - y) &&& t else bif op == 2#64 then (x * y) &&& t else
  bif op == 3#64 then (bif y == 0#64 then 0#64 else quoW x y) else bif op == 4#64 then x ||| y else bif op == 5#64 then x &&& y else
  bif op == 6#64 then (x * powWr (toIS (remW y (toUS n)))) &&& t else bif op == 7#64 then quoW x (powWr (toIS (remW y (toUS n)))) else
  bif op == 8#64 then (0#64 - x) &&& t else bif op == 9#64 then (bif y == 0#64 then x else remW x y) else bif op == 10#64 then x ^^^ y else
  bif op == 12#64 then drawnR x (toIS (remW y (toUS n))) n else y
def oneR (op : W) (w : Bool) (x y : W) : W :=
  bif !w then one' op (x &&& topW 32#64) (y &&& topW 32#64) 32#64 (topW 32#64) else one' op (x &&& topW 64#64) (y &&& topW 64#64) 64#64 (topW 64#64)

def oneObs (op y n : W) (g : Bool) : List (List Bool × Prop) :=
  [([!(y == 0#64), op == 3#64, !(op == 2#64), !(op == 1#64), !(op == 0#64), g], y ≠ 0#64),
   ([op == 7#64, !(op == 6#64), !(op == 5#64), !(op == 4#64), !(op == 3#64), !(op == 2#64), !(op == 1#64), !(op == 0#64), g], powWr (toIS (remW y (toUS n))) ≠ 0#64),
   ([!(y == 0#64), op == 9#64, !(op == 8#64), !(op == 7#64), !(op == 6#64), !(op == 5#64), !(op == 4#64), !(op == 3#64), !(op == 2#64), !(op == 1#64), !(op == 0#64), g], y ≠ 0#64)]

theorem pow_n0 {k : W} (h0 : 0 ≤ k.toInt) (h : k.toNat < 64) : powWr k ≠ 0#64 := by
  rw [powWr_eq h0]
  intro e
  have := congrArg BitVec.toNat e
  have h1 : 2 ^ k.toNat < 2 ^ 64 := Nat.pow_lt_pow_right (by decide) h
  have h2 := Nat.two_pow_pos k.toNat
  rw [BitVec.toNat_ofNat, Nat.mod_eq_of_lt h1] at this
  have z : (0#64 : W).toNat = 0 := rfl
  omega
theorem cnt_nat (y n : W) (hn : n = 32#64 ∨ n = 64#64) : (toIS (remW y (toUS n))).toNat = y.toNat % n.toNat := by
  have e : toIS (remW y (toUS n)) = y % n := by
    unfold toIS remW toUS
    show (((y % (n.signExtend 64 : W)) : W).setWidth 64 : W) = _
    rw [BitVec.setWidth_eq, BitVec.signExtend_eq]
  rw [e, BitVec.toNat_umod]
theorem cnt_lt (y n : W) (hn : n = 32#64 ∨ n = 64#64) : (toIS (remW y (toUS n))).toNat < 64 := by
  rw [cnt_nat y n hn]
  rcases hn with rfl | rfl
  · exact Nat.lt_of_lt_of_le (Nat.mod_lt _ (by decide)) (by decide)
  · exact Nat.mod_lt _ (by decide)
theorem int_small {k : W} (h : k.toNat < 64) : k.toInt = k.toNat := by
  rw [BitVec.toInt_eq_toNat_cond, if_pos (by omega)]
theorem oneObs_hold (op y n : W) (g : Bool) (hn : n = 32#64 ∨ n = 64#64) : ∀ e ∈ oneObs op y n g, (∀ x ∈ e.1, x = true) → e.2 := by
  intro e he hg
  simp only [oneObs, List.mem_cons, List.not_mem_nil, or_false] at he
  rcases he with rfl | rfl | rfl
  · have := hg _ (List.mem_cons_self ..); simpa using this
  · have := cnt_lt y n hn
    exact pow_n0 (by rw [int_small this]; omega) this
  · have := hg _ (List.mem_cons_self ..); simpa using this

noncomputable def sl9 : List (FuncId × Con) := (18, con4 cI cB cW cW fun op w x y => eW (oneR op w x y)) :: sl8
end Go.Rf

/- Spans: what the walks down the bits come to is the least and the greatest. -/
namespace Go.Rf

section
variable {σ : Type} {go : σ → Bool} {next : σ → σ}
/-- As runN_find; and none ahead of it is bad. -/
theorem runN_first (st : Nat → σ) (bad : Nat → Bool) (n : Nat) (hgo : ∀ i, i ≤ n → go (st i) = (decide (i < n) && !bad i))
    (hnext : ∀ i, i < n → bad i = false → next (st i) = st (i + 1)) :
    ∀ k i, i + k = n → (∃ j, i ≤ j ∧ j < n ∧ bad j = true ∧ (∀ m, i ≤ m → m < j → bad m = false) ∧ runN go next k (st i) = st j) ∨ ((∀ j, i ≤ j → j < n → bad j = false) ∧ runN go next k (st i) = st n) := by
  intro k
  induction k with
  | zero =>
    intro i hi
    right
    refine ⟨fun j h1 h2 => by omega, ?_⟩
    have : i = n := by omega
    subst this; rfl
  | succ k ih =>
    intro i hi
    cases hb : bad i with
    | true =>
      left
      refine ⟨i, Nat.le_refl _, by omega, hb, fun m h1 h2 => by omega, ?_⟩
      rw [runN_stop (by rw [hgo i (by omega), hb]; simp)]
    | false =>
      have hg : go (st i) = true := by rw [hgo i (by omega), hb]; simp; omega
      rw [runN_go hg, hnext i (by omega) hb]
      rcases ih (i + 1) (by omega) with ⟨j, h1, h2, h3, h4, h5⟩ | ⟨h1, h2⟩
      · left
        refine ⟨j, by omega, h2, h3, fun m a b => ?_, h5⟩
        by_cases e : m = i
        · rw [e]; exact hb
        · exact h4 m (by omega) b
      · right
        refine ⟨fun j a b => ?_, h2⟩
        by_cases e : j = i
        · rw [e]; exact hb
        · exact h1 j (by omega) b
end

def memS (s : Sp) (n : W) : Prop := s.lo.toNat ≤ n.toNat ∧ n.toNat ≤ s.hi.toNat

/-- r is the least (d: false) or the greatest of f. -/
def Least (a b : Sp) (f : W → W → W) (r : W) : Prop := (∀ X Y, memS a X → memS b Y → r.toNat ≤ (f X Y).toNat) ∧ ∃ X Y, memS a X ∧ memS b Y ∧ r = f X Y
def Most (a b : Sp) (f : W → W → W) (r : W) : Prop := (∀ X Y, memS a X → memS b Y → (f X Y).toNat ≤ r.toNat) ∧ ∃ X Y, memS a X ∧ memS b Y ∧ r = f X Y

def mAt (i : Nat) : W := if i < 64 then mB (63 - i) else 0#64
theorem mB_nat {j : Nat} (hj : j < 64) : (mB j).toNat = 2 ^ j := by
  unfold mB
  have : 2 ^ j < 2 ^ 64 := Nat.pow_lt_pow_right (by decide) hj
  rw [BitVec.toNat_shiftLeft]
  have e1 : (1#64 : W).toNat = 1 := rfl
  rw [e1, Nat.shiftLeft_eq, Nat.one_mul, Nat.mod_eq_of_lt this]
theorem mAt_next (i : Nat) (hi : i < 64) : mAt i >>> 1 = mAt (i + 1) := by
  unfold mAt
  rw [if_pos hi]
  apply BitVec.eq_of_toNat_eq
  rw [BitVec.toNat_ushiftRight, mB_nat (by omega), Nat.shiftRight_eq_div_pow]
  by_cases h : i + 1 < 64
  · rw [if_pos h, mB_nat (by omega)]
    have : 63 - i = (63 - (i + 1)) + 1 := by omega
    rw [this, Nat.pow_succ, Nat.pow_one, Nat.mul_div_cancel _ (by decide)]
  · rw [if_neg h]
    have : i = 63 := by omega
    subst this
    decide
theorem mAt_more (a b : Sp) (x y : W) (i : Nat) (hi : i ≤ 64) : (⟨a, b, x, y, mAt i⟩ : DoS).more = decide (i < 64) := by
  rw [Bool.eq_iff_iff, more_iff, decide_eq_true_eq]
  show (mAt i).toNat ≠ 0 ↔ _
  unfold mAt
  by_cases h : i < 64
  · rw [if_pos h, mB_nat (by omega)]
    have := Nat.two_pow_pos (63 - i)
    omega
  · rw [if_neg h]
    have : (0#64 : W).toNat = 0 := rfl
    omega

theorem top_mAt : top1 = mAt 0 := by decide

/-- A walk that ends at the first bit that changes anything. -/
def Fam.quiet (F : Fam) : Prop := ∀ s, F.stop s = false → F.x s = s.x ∧ F.y s = s.y
theorem fam_cases {F : Fam} (hF : F.quiet) (a b : Sp) (x y : W) :
    (∃ p, p < 64 ∧ F.stop ⟨a, b, x, y, mB p⟩ = true ∧ (∀ q, p < q → q < 64 → F.stop ⟨a, b, x, y, mB q⟩ = false) ∧ F.fx ⟨a, b, x, y, top1⟩ = F.x ⟨a, b, x, y, mB p⟩ ∧ F.fy ⟨a, b, x, y, top1⟩ = F.y ⟨a, b, x, y, mB p⟩) ∨
    ((∀ q, q < 64 → F.stop ⟨a, b, x, y, mB q⟩ = false) ∧ F.fx ⟨a, b, x, y, top1⟩ = x ∧ F.fy ⟨a, b, x, y, top1⟩ = y) := by
  have hm : ∀ i, i < 64 → mAt i = mB (63 - i) := fun i hi => by unfold mAt; rw [if_pos hi]
  rw [top_mAt]
  rcases runN_first (go := F.go) (next := F.nxt) (fun i => (⟨a, b, x, y, mAt i⟩ : DoS)) (fun i => F.stop ⟨a, b, x, y, mAt i⟩) 64 (fun i hi => by
      unfold Fam.go; rw [mAt_more a b x y i hi]) (fun i hi hb => by
      obtain ⟨h1, h2⟩ := hF _ hb
      unfold Fam.nxt
      rw [h1, h2]
      show (⟨a, b, x, y, mAt i >>> 1⟩ : DoS) = _
      rw [mAt_next i hi]) 64 0 (by omega) with ⟨j, _, hj, hbad, hfst, e⟩ | ⟨hall, e⟩
  · left
    have e' : F.run ⟨a, b, x, y, mAt 0⟩ = ⟨a, b, x, y, mAt j⟩ := e
    have hm1 : (⟨a, b, x, y, mAt j⟩ : DoS).more = true := by rw [mAt_more a b x y j (by omega)]; exact decide_eq_true hj
    refine ⟨63 - j, by omega, by rw [← hm j hj]; exact hbad, fun q h1 h2 => ?_, ?_, ?_⟩
    · have := hfst (63 - q) (by omega) (by omega)
      rwa [hm (63 - q) (by omega), show 63 - (63 - q) = q by omega] at this
    · unfold Fam.fx; rw [e', hm1, ← hm j hj]; rfl
    · unfold Fam.fy; rw [e', hm1, ← hm j hj]; rfl
  · right
    have e' : F.run ⟨a, b, x, y, mAt 0⟩ = ⟨a, b, x, y, mAt 64⟩ := e
    have hm1 : (⟨a, b, x, y, mAt 64⟩ : DoS).more = false := by rw [mAt_more a b x y 64 (by omega)]; rfl
    refine ⟨fun q hq => ?_, ?_, ?_⟩
    · have := hall (63 - q) (by omega) (by omega)
      rwa [hm (63 - q) (by omega), show 63 - (63 - q) = q by omega] at this
    · unfold Fam.fx; rw [e', hm1]; rfl
    · unfold Fam.fy; rw [e', hm1]; rfl

/-! The tests, bit by bit. -/
theorem and_mB (x : W) {p : Nat} (hp : p < 64) : isN (x &&& mB p) = !x.getLsbD p := by
  unfold isN
  rw [Bool.eq_iff_iff, beq_iff_eq, Bool.not_eq_true']
  constructor
  · intro h
    have := congrArg (fun z : W => z.getLsbD p) h
    simp only [BitVec.getLsbD_and, mB_bit p p hp, BitVec.getLsbD_zero, decide_true, Bool.and_true] at this
    exact this
  · intro h
    apply BitVec.eq_of_getLsbD_eq
    intro i hi
    rw [BitVec.getLsbD_and, mB_bit p i hi, BitVec.getLsbD_zero]
    by_cases e : i = p
    · subst e; rw [h]; rfl
    · simp [e]
theorem ands_mB (x : W) {p : Nat} (hp : p < 64) : isS (x &&& mB p) = x.getLsbD p := by
  have : isS (x &&& mB p) = !isN (x &&& mB p) := rfl
  rw [this, and_mB x hp, Bool.not_not]

section
variable (a b : Sp) (x y : W) {p : Nat} (hp : p < 64)
include hp
theorem t_xOff : xOff ⟨a, b, x, y, mB p⟩ = !x.getLsbD p := and_mB x hp
theorem t_yOff : yOff ⟨a, b, x, y, mB p⟩ = !y.getLsbD p := and_mB y hp
theorem t_xOn : xOn ⟨a, b, x, y, mB p⟩ = x.getLsbD p := ands_mB x hp
theorem t_yOn : yOn ⟨a, b, x, y, mB p⟩ = y.getLsbD p := ands_mB y hp
theorem t_notBoth : notBoth ⟨a, b, x, y, mB p⟩ = !(x.getLsbD p && y.getLsbD p) := by
  have := and_mB (x &&& y) hp
  rw [BitVec.getLsbD_and] at this; exact this
theorem t_someOn : someOn ⟨a, b, x, y, mB p⟩ = (x.getLsbD p || y.getLsbD p) := by
  have := ands_mB (x ||| y) hp
  rw [BitVec.getLsbD_or] at this; exact this
end
theorem t_xUp (a b : Sp) (x y : W) (p : Nat) : xUp ⟨a, b, x, y, mB p⟩ = true ↔ Up x a.hi p := by
  unfold xUp Up; rw [leU, decide_eq_true_eq]; exact Iff.rfl
theorem t_yUp (a b : Sp) (x y : W) (p : Nat) : yUp ⟨a, b, x, y, mB p⟩ = true ↔ Up y b.hi p := by
  unfold yUp Up; rw [leU, decide_eq_true_eq]; exact Iff.rfl
theorem t_xIn (a b : Sp) (x y : W) (p : Nat) : xIn ⟨a, b, x, y, mB p⟩ = true ↔ In' x a.lo p := by
  unfold xIn In'; rw [leU, decide_eq_true_eq]; exact Iff.rfl
theorem t_yIn (a b : Sp) (x y : W) (p : Nat) : yIn ⟨a, b, x, y, mB p⟩ = true ↔ In' y b.lo p := by
  unfold yIn In'; rw [leU, decide_eq_true_eq]; exact Iff.rfl

theorem famOf_quiet (c1 c2 : DoS → Bool) (u v : DoS → W) : (famOf c1 c2 u v).quiet := by
  intro s h
  have h' : (bif c1 s then true else bif c2 s then true else false) = false := h
  show (bif c1 s then u s else s.x) = s.x ∧ (bif c1 s then s.y else bif c2 s then v s else s.y) = s.y
  revert h'
  cases c1 s <;> cases c2 s <;> simp
theorem famBy_quiet (c0 c1 c2 : DoS → Bool) (u v : DoS → W) : (famBy c0 c1 c2 u v).quiet := by
  intro s h
  have h' : (bif c0 s then false else bif c1 s then true else bif c2 s then true else false) = false := h
  show (bif c0 s then s.x else bif c1 s then u s else s.x) = s.x ∧ (bif c0 s then s.y else bif c1 s then s.y else bif c2 s then v s else s.y) = s.y
  revert h'
  cases c0 s <;> cases c1 s <;> cases c2 s <;> simp

theorem famOf_cases {c1 c2 : DoS → Bool} {u v : DoS → W} (s : DoS) : ((famOf c1 c2 u v).stop s = true ↔ c1 s = true ∨ c2 s = true) ∧ ((famOf c1 c2 u v).stop s = false ↔ c1 s = false ∧ c2 s = false) ∧
    (c1 s = true → (famOf c1 c2 u v).x s = u s ∧ (famOf c1 c2 u v).y s = s.y) ∧ (c1 s = false → c2 s = true → (famOf c1 c2 u v).x s = s.x ∧ (famOf c1 c2 u v).y s = v s) := by
  unfold famOf
  cases h1 : c1 s <;> cases h2 : c2 s <;> simp [h1, h2]
theorem famBy_cases {c0 c1 c2 : DoS → Bool} {u v : DoS → W} (s : DoS) : ((famBy c0 c1 c2 u v).stop s = true ↔ c0 s = false ∧ (c1 s = true ∨ c2 s = true)) ∧ ((famBy c0 c1 c2 u v).stop s = false ↔ c0 s = true ∨ (c1 s = false ∧ c2 s = false)) ∧
    (c0 s = false → c1 s = true → (famBy c0 c1 c2 u v).x s = u s ∧ (famBy c0 c1 c2 u v).y s = s.y) ∧ (c0 s = false → c1 s = false → c2 s = true → (famBy c0 c1 c2 u v).x s = s.x ∧ (famBy c0 c1 c2 u v).y s = v s) := by
  unfold famBy
  cases h0 : c0 s <;> cases h1 : c1 s <;> cases h2 : c2 s <;> simp [h0, h1, h2]

theorem memS_lo {s : Sp} (h : mayS s = true) : memS s s.lo := ⟨Nat.le_refl _, mayS_iff.1 h⟩
theorem memS_hi {s : Sp} (h : mayS s = true) : memS s s.hi := ⟨mayS_iff.1 h, Nat.le_refl _⟩

theorem leastOr_least {a b : Sp} (ha : mayS a = true) (hb : mayS b = true) : Least a b (· ||| ·) (leastOr a b) := by
  have tests : ∀ q, q < 64 → fLO.stop ⟨a, b, a.lo, b.lo, mB q⟩ = false →
      ¬(a.lo.getLsbD q = false ∧ b.lo.getLsbD q = true ∧ Up a.lo a.hi q) ∧ ¬(a.lo.getLsbD q = true ∧ b.lo.getLsbD q = false ∧ Up b.lo b.hi q) := by
    intro q hq h
    obtain ⟨h1, h2⟩ := (famOf_cases _).2.1.1 h
    constructor
    · rintro ⟨u, v, w⟩
      have h1' : (xOff ⟨a, b, a.lo, b.lo, mB q⟩ && yOn ⟨a, b, a.lo, b.lo, mB q⟩ && xUp ⟨a, b, a.lo, b.lo, mB q⟩) = false := h1
      rw [t_xOff a b _ _ hq, t_yOn a b _ _ hq, u, v, (t_xUp a b _ _ q).2 w] at h1'
      cases h1'
    · rintro ⟨u, v, w⟩
      have h2' : (xOn ⟨a, b, a.lo, b.lo, mB q⟩ && yOff ⟨a, b, a.lo, b.lo, mB q⟩ && yUp ⟨a, b, a.lo, b.lo, mB q⟩) = false := h2
      rw [t_xOn a b _ _ hq, t_yOff a b _ _ hq, u, v, (t_yUp a b _ _ q).2 w] at h2'
      cases h2'
  unfold leastOr sLo
  rcases fam_cases (F := fLO) (famOf_quiet _ _ _ _) a b a.lo b.lo with ⟨p, hp, hs, hf, ex, ey⟩ | ⟨hall, ex, ey⟩
  · have hN : NoUp a.lo b.lo a.hi b.hi p := fun q h1 h2 => tests q h2 (hf q h1 h2)
    rw [ex, ey]
    cases hc : (xOff ⟨a, b, a.lo, b.lo, mB p⟩ && yOn ⟨a, b, a.lo, b.lo, mB p⟩ && xUp ⟨a, b, a.lo, b.lo, mB p⟩) with
    | true =>
      obtain ⟨e1, e2⟩ := (famOf_cases (c1 := fun s => xOff s && yOn s && xUp s) (c2 := fun s => xOn s && yOff s && yUp s) (u := DoS.ux) (v := DoS.uy) ⟨a, b, a.lo, b.lo, mB p⟩).2.2.1 hc
      rw [t_xOff a b _ _ hp, t_yOn a b _ _ hp] at hc
      simp only [Bool.and_eq_true, Bool.not_eq_true', t_xUp] at hc
      obtain ⟨⟨u, v⟩, w⟩ := hc
      rw [show fLO.x ⟨a, b, a.lo, b.lo, mB p⟩ = upW a.lo (mB p) from e1, show fLO.y ⟨a, b, a.lo, b.lo, mB p⟩ = b.lo from e2]
      exact ⟨fun X Y hX hY => or_up hX hY hp v hN, _, _, ⟨le_up hp u, w⟩, memS_lo hb, rfl⟩
    | false =>
      have hc2 : (xOn ⟨a, b, a.lo, b.lo, mB p⟩ && yOff ⟨a, b, a.lo, b.lo, mB p⟩ && yUp ⟨a, b, a.lo, b.lo, mB p⟩) = true := by
        rcases (famOf_cases _).1.1 hs with h | h
        · rw [show (xOff ⟨a, b, a.lo, b.lo, mB p⟩ && yOn ⟨a, b, a.lo, b.lo, mB p⟩ && xUp ⟨a, b, a.lo, b.lo, mB p⟩) = true from h] at hc; cases hc
        · exact h
      obtain ⟨e1, e2⟩ := (famOf_cases (c1 := fun s => xOff s && yOn s && xUp s) (c2 := fun s => xOn s && yOff s && yUp s) (u := DoS.ux) (v := DoS.uy) ⟨a, b, a.lo, b.lo, mB p⟩).2.2.2 hc hc2
      rw [t_xOn a b _ _ hp, t_yOff a b _ _ hp] at hc2
      simp only [Bool.and_eq_true, Bool.not_eq_true', t_yUp] at hc2
      obtain ⟨⟨u, v⟩, w⟩ := hc2
      rw [show fLO.x ⟨a, b, a.lo, b.lo, mB p⟩ = a.lo from e1, show fLO.y ⟨a, b, a.lo, b.lo, mB p⟩ = upW b.lo (mB p) from e2]
      refine ⟨fun X Y hX hY => ?_, _, _, memS_lo ha, ⟨le_up hp v, w⟩, rfl⟩
      have := or_up (x := b.lo) (y := a.lo) (X := Y) (Y := X) hY hX hp u (noUp_swap hN)
      show (a.lo ||| _).toNat ≤ (X ||| Y).toNat
      rw [BitVec.or_comm a.lo, BitVec.or_comm X]; exact this
  · rw [ex, ey]
    exact ⟨fun X Y hX hY => or_none hX hY (fun q hq => tests q hq (hall q hq)), _, _, memS_lo ha, memS_lo hb, rfl⟩

theorem mostAnd_most {a b : Sp} (ha : mayS a = true) (hb : mayS b = true) : Most a b (· &&& ·) (mostAnd a b) := by
  have tests : ∀ q, q < 64 → fMA.stop ⟨a, b, a.hi, b.hi, mB q⟩ = false →
      ¬(a.hi.getLsbD q = true ∧ b.hi.getLsbD q = false ∧ In' a.hi a.lo q) ∧ ¬(a.hi.getLsbD q = false ∧ b.hi.getLsbD q = true ∧ In' b.hi b.lo q) := by
    intro q hq h
    obtain ⟨h1, h2⟩ := (famOf_cases _).2.1.1 h
    constructor
    · rintro ⟨u, v, w⟩
      have h1' : (xOn ⟨a, b, a.hi, b.hi, mB q⟩ && yOff ⟨a, b, a.hi, b.hi, mB q⟩ && xIn ⟨a, b, a.hi, b.hi, mB q⟩) = false := h1
      rw [t_xOn a b _ _ hq, t_yOff a b _ _ hq, u, v, (t_xIn a b _ _ q).2 w] at h1'
      cases h1'
    · rintro ⟨u, v, w⟩
      have h2' : (xOff ⟨a, b, a.hi, b.hi, mB q⟩ && yOn ⟨a, b, a.hi, b.hi, mB q⟩ && yIn ⟨a, b, a.hi, b.hi, mB q⟩) = false := h2
      rw [t_xOff a b _ _ hq, t_yOn a b _ _ hq, u, v, (t_yIn a b _ _ q).2 w] at h2'
      cases h2'
  unfold mostAnd sHi
  rcases fam_cases (F := fMA) (famOf_quiet _ _ _ _) a b a.hi b.hi with ⟨p, hp, hs, hf, ex, ey⟩ | ⟨hall, ex, ey⟩
  · rw [ex, ey]
    cases hc : (xOn ⟨a, b, a.hi, b.hi, mB p⟩ && yOff ⟨a, b, a.hi, b.hi, mB p⟩ && xIn ⟨a, b, a.hi, b.hi, mB p⟩) with
    | true =>
      obtain ⟨e1, e2⟩ := (famOf_cases (c1 := fun s => xOn s && yOff s && xIn s) (c2 := fun s => xOff s && yOn s && yIn s) (u := DoS.wx) (v := DoS.wy) ⟨a, b, a.hi, b.hi, mB p⟩).2.2.1 hc
      rw [t_xOn a b _ _ hp, t_yOff a b _ _ hp] at hc
      simp only [Bool.and_eq_true, Bool.not_eq_true', t_xIn] at hc
      obtain ⟨⟨u, v⟩, w⟩ := hc
      rw [show fMA.x ⟨a, b, a.hi, b.hi, mB p⟩ = wiW a.hi (mB p) from e1, show fMA.y ⟨a, b, a.hi, b.hi, mB p⟩ = b.hi from e2]
      exact ⟨fun X Y hX hY => and_most_in hX hY hp v (fun q h1 h2 => tests q h2 (hf q h1 h2)), _, _, ⟨w, wi_le hp u⟩, memS_hi hb, rfl⟩
    | false =>
      have hc2 : (xOff ⟨a, b, a.hi, b.hi, mB p⟩ && yOn ⟨a, b, a.hi, b.hi, mB p⟩ && yIn ⟨a, b, a.hi, b.hi, mB p⟩) = true := by
        rcases (famOf_cases _).1.1 hs with h | h
        · rw [show (xOn ⟨a, b, a.hi, b.hi, mB p⟩ && yOff ⟨a, b, a.hi, b.hi, mB p⟩ && xIn ⟨a, b, a.hi, b.hi, mB p⟩) = true from h] at hc; cases hc
        · exact h
      obtain ⟨e1, e2⟩ := (famOf_cases (c1 := fun s => xOn s && yOff s && xIn s) (c2 := fun s => xOff s && yOn s && yIn s) (u := DoS.wx) (v := DoS.wy) ⟨a, b, a.hi, b.hi, mB p⟩).2.2.2 hc hc2
      rw [t_xOff a b _ _ hp, t_yOn a b _ _ hp] at hc2
      simp only [Bool.and_eq_true, Bool.not_eq_true', t_yIn] at hc2
      obtain ⟨⟨u, v⟩, w⟩ := hc2
      rw [show fMA.x ⟨a, b, a.hi, b.hi, mB p⟩ = a.hi from e1, show fMA.y ⟨a, b, a.hi, b.hi, mB p⟩ = wiW b.hi (mB p) from e2]
      refine ⟨fun X Y hX hY => ?_, _, _, memS_hi ha, ⟨w, wi_le hp v⟩, rfl⟩
      have := and_most_in (x := b.hi) (y := a.hi) (X := Y) (Y := X) hY hX hp u (fun q h1 h2 => by
        have := tests q h2 (hf q h1 h2)
        exact ⟨fun h => this.2 ⟨h.2.1, h.1, h.2.2⟩, fun h => this.1 ⟨h.2.1, h.1, h.2.2⟩⟩)
      show (X &&& Y).toNat ≤ (a.hi &&& _).toNat
      rw [BitVec.and_comm a.hi, BitVec.and_comm X]; exact this
  · rw [ex, ey]
    exact ⟨fun X Y hX hY => and_most_none hX hY (fun q hq => tests q hq (hall q hq)), _, _, memS_hi ha, memS_hi hb, rfl⟩

theorem mostOr_most {a b : Sp} (ha : mayS a = true) (hb : mayS b = true) : Most a b (· ||| ·) (mostOr a b) := by
  have tests : ∀ q, q < 64 → fMO.stop ⟨a, b, a.hi, b.hi, mB q⟩ = false →
      a.hi.getLsbD q = true → b.hi.getLsbD q = true → ¬ In' a.hi a.lo q ∧ ¬ In' b.hi b.lo q := by
    intro q hq h u v
    rcases (famBy_cases _).2.1.1 h with h1 | ⟨h1, h2⟩
    · rw [t_notBoth a b _ _ hq, u, v] at h1; cases h1
    · exact ⟨fun w => (by rw [(t_xIn a b _ _ q).2 w] at h1; cases h1), fun w => (by rw [(t_yIn a b _ _ q).2 w] at h2; cases h2)⟩
  unfold mostOr sHi
  rcases fam_cases (F := fMO) (famBy_quiet _ _ _ _ _) a b a.hi b.hi with ⟨p, hp, hs, hf, ex, ey⟩ | ⟨hall, ex, ey⟩
  · have hN : NoIn a.hi b.hi a.lo b.lo p := fun q h1 h2 => tests q h2 (hf q h1 h2)
    rw [ex, ey]
    obtain ⟨h0, h12⟩ := (famBy_cases _).1.1 hs
    have hb' := h0
    rw [t_notBoth a b _ _ hp] at hb'
    simp only [Bool.not_eq_false', Bool.and_eq_true] at hb'
    obtain ⟨u, v⟩ := hb'
    cases hc : xIn ⟨a, b, a.hi, b.hi, mB p⟩ with
    | true =>
      obtain ⟨e1, e2⟩ := (famBy_cases (c0 := notBoth) (c1 := xIn) (c2 := yIn) (u := DoS.wx) (v := DoS.wy) ⟨a, b, a.hi, b.hi, mB p⟩).2.2.1 h0 hc
      rw [show fMO.x ⟨a, b, a.hi, b.hi, mB p⟩ = wiW a.hi (mB p) from e1, show fMO.y ⟨a, b, a.hi, b.hi, mB p⟩ = b.hi from e2]
      exact ⟨fun X Y hX hY => or_most_in hX hY hp v hN, _, _, ⟨(t_xIn a b _ _ p).1 hc, wi_le hp u⟩, memS_hi hb, rfl⟩
    | false =>
      have hc2 : yIn ⟨a, b, a.hi, b.hi, mB p⟩ = true := by
        rcases h12 with h | h
        · rw [hc] at h; cases h
        · exact h
      obtain ⟨e1, e2⟩ := (famBy_cases (c0 := notBoth) (c1 := xIn) (c2 := yIn) (u := DoS.wx) (v := DoS.wy) ⟨a, b, a.hi, b.hi, mB p⟩).2.2.2 h0 hc hc2
      rw [show fMO.x ⟨a, b, a.hi, b.hi, mB p⟩ = a.hi from e1, show fMO.y ⟨a, b, a.hi, b.hi, mB p⟩ = wiW b.hi (mB p) from e2]
      refine ⟨fun X Y hX hY => ?_, _, _, memS_hi ha, ⟨(t_yIn a b _ _ p).1 hc2, wi_le hp v⟩, rfl⟩
      have := or_most_in (x := b.hi) (y := a.hi) (X := Y) (Y := X) hY hX hp u (noIn_swap hN)
      show (X ||| Y).toNat ≤ (a.hi ||| _).toNat
      rw [BitVec.or_comm a.hi, BitVec.or_comm X]; exact this
  · rw [ex, ey]
    exact ⟨fun X Y hX hY => or_most_none hX hY (fun q hq => tests q hq (hall q hq)), _, _, memS_hi ha, memS_hi hb, rfl⟩

theorem leastAnd_least {a b : Sp} (ha : mayS a = true) (hb : mayS b = true) : Least a b (· &&& ·) (leastAnd a b) := by
  have tests : ∀ q, q < 64 → fLA.stop ⟨a, b, a.lo, b.lo, mB q⟩ = false →
      a.lo.getLsbD q = false → b.lo.getLsbD q = false → ¬ Up a.lo a.hi q ∧ ¬ Up b.lo b.hi q := by
    intro q hq h u v
    rcases (famBy_cases _).2.1.1 h with h1 | ⟨h1, h2⟩
    · rw [t_someOn a b _ _ hq, u, v] at h1; cases h1
    · exact ⟨fun w => (by rw [(t_xUp a b _ _ q).2 w] at h1; cases h1), fun w => (by rw [(t_yUp a b _ _ q).2 w] at h2; cases h2)⟩
  unfold leastAnd sLo
  rcases fam_cases (F := fLA) (famBy_quiet _ _ _ _ _) a b a.lo b.lo with ⟨p, hp, hs, hf, ex, ey⟩ | ⟨hall, ex, ey⟩
  · rw [ex, ey]
    obtain ⟨h0, h12⟩ := (famBy_cases _).1.1 hs
    have hb' := h0
    rw [t_someOn a b _ _ hp] at hb'
    simp only [Bool.or_eq_false_iff] at hb'
    obtain ⟨u, v⟩ := hb'
    cases hc : xUp ⟨a, b, a.lo, b.lo, mB p⟩ with
    | true =>
      obtain ⟨e1, e2⟩ := (famBy_cases (c0 := someOn) (c1 := xUp) (c2 := yUp) (u := DoS.ux) (v := DoS.uy) ⟨a, b, a.lo, b.lo, mB p⟩).2.2.1 h0 hc
      rw [show fLA.x ⟨a, b, a.lo, b.lo, mB p⟩ = upW a.lo (mB p) from e1, show fLA.y ⟨a, b, a.lo, b.lo, mB p⟩ = b.lo from e2]
      exact ⟨fun X Y hX hY => and_up hX hY hp v (fun q h1 h2 => tests q h2 (hf q h1 h2)), _, _, ⟨le_up hp u, (t_xUp a b _ _ p).1 hc⟩, memS_lo hb, rfl⟩
    | false =>
      have hc2 : yUp ⟨a, b, a.lo, b.lo, mB p⟩ = true := by
        rcases h12 with h | h
        · rw [hc] at h; cases h
        · exact h
      obtain ⟨e1, e2⟩ := (famBy_cases (c0 := someOn) (c1 := xUp) (c2 := yUp) (u := DoS.ux) (v := DoS.uy) ⟨a, b, a.lo, b.lo, mB p⟩).2.2.2 h0 hc hc2
      rw [show fLA.x ⟨a, b, a.lo, b.lo, mB p⟩ = a.lo from e1, show fLA.y ⟨a, b, a.lo, b.lo, mB p⟩ = upW b.lo (mB p) from e2]
      refine ⟨fun X Y hX hY => ?_, _, _, memS_lo ha, ⟨le_up hp v, (t_yUp a b _ _ p).1 hc2⟩, rfl⟩
      have := and_up (x := b.lo) (y := a.lo) (X := Y) (Y := X) hY hX hp u (fun q h1 h2 c d => by
        have := tests q h2 (hf q h1 h2) d c
        exact ⟨this.2, this.1⟩)
      show (a.lo &&& _).toNat ≤ (X &&& Y).toNat
      rw [BitVec.and_comm a.lo, BitVec.and_comm X]; exact this
  · rw [ex, ey]
    exact ⟨fun X Y hX hY => and_none hX hY (fun q hq => tests q hq (hall q hq)), _, _, memS_lo ha, memS_lo hb, rfl⟩

/-! Xor. -/
theorem runN_last {σ : Type} {go : σ → Bool} {next : σ → σ} : ∀ {k : Nat} {s : σ}, go (runN go next k s) = true → runN go next (k + 1) s = next (runN go next k s) := by
  intro k
  induction k with
  | zero => intro s h; rw [runN_go (show go s = true from h)]; rfl
  | succ k ih =>
    intro s h
    cases hg : go s with
    | true =>
      rw [runN_go hg] at h ⊢
      rw [ih h, runN_go hg]
    | false =>
      rw [runN_stop hg] at h
      rw [hg] at h; cases h
/-- The state behind the bits from p on. -/
def xst (F : Fam) (s : DoS) (p : Nat) : DoS := runN F.go F.nxt (64 - p) s
theorem xst_next {F : Fam} (hF : ∀ s, F.stop s = false) (a b : Sp) (x y : W) : ∀ (k p : Nat), p + k = 64 → ∃ u v, xst F ⟨a, b, x, y, top1⟩ p = ⟨a, b, u, v, mAt (64 - p)⟩ := by
  intro k
  induction k with
  | zero => intro p hp; refine ⟨x, y, ?_⟩; rw [show p = 64 by omega, top_mAt]; rfl
  | succ k ih =>
    intro p hp
    obtain ⟨u, v, e⟩ := ih (p + 1) (by omega)
    have hgo : F.go ⟨a, b, u, v, mAt (64 - (p + 1))⟩ = true := by
      unfold Fam.go
      rw [mAt_more _ _ _ _ _ (by omega), hF]
      simp; omega
    have step : xst F ⟨a, b, x, y, top1⟩ p = F.nxt (xst F ⟨a, b, x, y, top1⟩ (p + 1)) := by
      unfold xst
      rw [show 64 - p = (64 - (p + 1)) + 1 by omega]
      have : F.go (runN F.go F.nxt (64 - (p + 1)) ⟨a, b, x, y, top1⟩) = true := by
        have e' : runN F.go F.nxt (64 - (p + 1)) ⟨a, b, x, y, top1⟩ = _ := e
        rw [e']; exact hgo
      exact runN_last this
    rw [step, e]
    refine ⟨F.x ⟨a, b, u, v, mAt (64 - (p + 1))⟩, F.y ⟨a, b, u, v, mAt (64 - (p + 1))⟩, ?_⟩
    unfold Fam.nxt
    rw [mAt_next _ (by omega), show 64 - (p + 1) + 1 = 64 - p by omega]

theorem leastXor_least {a b : Sp} (ha : mayS a = true) (hb : mayS b = true) : Least a b (· ^^^ ·) (leastXor a b) := by
  have hF : ∀ s, fLX.stop s = false := fun _ => rfl
  have ex := fun p hp => xst_next hF a b a.lo b.lo (64 - p) p (by omega : p + (64 - p) = 64)
  have key : StpL (fun p => (xst fLX (sLo a b) p).x) (fun p => (xst fLX (sLo a b) p).y) a.hi b.hi := by
    intro p hp
    obtain ⟨u, v, e⟩ := xst_next hF a b a.lo b.lo (64 - (p + 1)) (p + 1) (by omega)
    have hm : mAt (64 - (p + 1)) = mB p := by
      unfold mAt; rw [if_pos (by omega), show 63 - (64 - (p + 1)) = p by omega]
    rw [hm] at e
    have step : xst fLX (sLo a b) p = fLX.nxt ⟨a, b, u, v, mB p⟩ := by
      have hgo : fLX.go ⟨a, b, u, v, mB p⟩ = true := by
        unfold Fam.go
        rw [← hm, mAt_more _ _ _ _ _ (by omega), hF]
        simp; omega
      have e' : runN fLX.go fLX.nxt (64 - (p + 1)) (sLo a b) = ⟨a, b, u, v, mB p⟩ := e
      unfold xst
      rw [show 64 - p = (64 - (p + 1)) + 1 by omega, runN_last (by rw [e']; exact hgo), e']
    have e1 : xst fLX (sLo a b) (p + 1) = ⟨a, b, u, v, mB p⟩ := e
    simp only [step, e1]
    show _ ∨ _ ∨ _
    have hx : (fLX.nxt ⟨a, b, u, v, mB p⟩).x = bif (!u.getLsbD p && v.getLsbD p && xUp ⟨a, b, u, v, mB p⟩) then upW u (mB p) else u := by
      rw [← t_xOff a b u v hp, ← t_yOn a b u v hp]; rfl
    have hy : (fLX.nxt ⟨a, b, u, v, mB p⟩).y = bif (!u.getLsbD p && v.getLsbD p && xUp ⟨a, b, u, v, mB p⟩) then v else bif (u.getLsbD p && !v.getLsbD p && yUp ⟨a, b, u, v, mB p⟩) then upW v (mB p) else v := by
      rw [← t_xOff a b u v hp, ← t_yOff a b u v hp, ← t_yOn a b u v hp, ← t_xOn a b u v hp]; rfl
    rw [hx, hy, ← t_xUp a b u v p, ← t_yUp a b u v p]
    cases u.getLsbD p <;> cases v.getLsbD p <;> cases xUp ⟨a, b, u, v, mB p⟩ <;> cases yUp ⟨a, b, u, v, mB p⟩ <;> simp
  have h64 : xst fLX (sLo a b) 64 = sLo a b := rfl
  have e0 : leastXor a b = (xst fLX (sLo a b) 0).x ^^^ (xst fLX (sLo a b) 0).y := rfl
  have wx := key.within (by show a.lo.toNat ≤ _; exact mayS_iff.1 ha) 64 0 (by omega)
  have wy := key.swap.within (by show b.lo.toNat ≤ _; exact mayS_iff.1 hb) 64 0 (by omega)
  rw [e0]
  exact ⟨fun X Y hX hY => xor_least key hX hY, _, _, wx, wy, rfl⟩

theorem mostXor_most {a b : Sp} (ha : mayS a = true) (hb : mayS b = true) : Most a b (· ^^^ ·) (mostXor a b) := by
  have hF : ∀ s, fMX.stop s = false := fun _ => rfl
  have key : StpM (fun p => (xst fMX (sHi a b) p).x) (fun p => (xst fMX (sHi a b) p).y) a.lo b.lo := by
    intro p hp
    obtain ⟨u, v, e⟩ := xst_next hF a b a.hi b.hi (64 - (p + 1)) (p + 1) (by omega)
    have hm : mAt (64 - (p + 1)) = mB p := by
      unfold mAt; rw [if_pos (by omega), show 63 - (64 - (p + 1)) = p by omega]
    rw [hm] at e
    have step : xst fMX (sHi a b) p = fMX.nxt ⟨a, b, u, v, mB p⟩ := by
      have hgo : fMX.go ⟨a, b, u, v, mB p⟩ = true := by
        unfold Fam.go
        rw [← hm, mAt_more _ _ _ _ _ (by omega), hF]
        simp; omega
      have e' : runN fMX.go fMX.nxt (64 - (p + 1)) (sHi a b) = ⟨a, b, u, v, mB p⟩ := e
      unfold xst
      rw [show 64 - p = (64 - (p + 1)) + 1 by omega, runN_last (by rw [e']; exact hgo), e']
    have e1 : xst fMX (sHi a b) (p + 1) = ⟨a, b, u, v, mB p⟩ := e
    simp only [step, e1]
    show _ ∨ _ ∨ _
    have hx : (fMX.nxt ⟨a, b, u, v, mB p⟩).x = bif !(u.getLsbD p && v.getLsbD p) then u else bif xIn ⟨a, b, u, v, mB p⟩ then wiW u (mB p) else u := by
      rw [← t_notBoth a b u v hp]; rfl
    have hy : (fMX.nxt ⟨a, b, u, v, mB p⟩).y = bif !(u.getLsbD p && v.getLsbD p) then v else bif xIn ⟨a, b, u, v, mB p⟩ then v else bif yIn ⟨a, b, u, v, mB p⟩ then wiW v (mB p) else v := by
      rw [← t_notBoth a b u v hp]; rfl
    rw [hx, hy, ← t_xIn a b u v p, ← t_yIn a b u v p]
    cases u.getLsbD p <;> cases v.getLsbD p <;> cases xIn ⟨a, b, u, v, mB p⟩ <;> cases yIn ⟨a, b, u, v, mB p⟩ <;> simp
  have e0 : mostXor a b = (xst fMX (sHi a b) 0).x ^^^ (xst fMX (sHi a b) 0).y := rfl
  have wx := key.u.within (by show a.lo.toNat ≤ a.hi.toNat; exact mayS_iff.1 ha) 64 0 (by omega)
  have wy := key.v.within (by show b.lo.toNat ≤ b.hi.toNat; exact mayS_iff.1 hb) 64 0 (by omega)
  rw [e0]
  exact ⟨fun X Y hX hY => xor_most key hX hY, _, _, wx, wy, rfl⟩
end Go.Rf

/- Spans: no result is left out. -/
namespace Go.Rf

/-- So many bits, and the greatest number of them. -/
structure Wd (n t : W) : Prop where
  nn : n = 32#64 ∨ n = 64#64
  tt : t = ones' n.toNat
theorem wd32 : Wd 32#64 t32 := ⟨.inl rfl, by decide⟩
theorem wd64 : Wd 64#64 t64 := ⟨.inr rfl, by decide⟩

variable {n t : W} {a b : Sp} {X Y : W}
theorem Wd.le (h : Wd n t) : n.toNat ≤ 64 := by rcases h.nn with e | e <;> rw [e] <;> decide
theorem Wd.tn (h : Wd n t) : t.toNat = 2 ^ n.toNat - 1 := by rw [h.tt, ones_nat h.le]
theorem Wd.and (h : Wd n t) (x : W) : (x &&& t).toNat = x.toNat % 2 ^ n.toNat := by rw [h.tt, and_ones x h.le]
theorem Wd.cases (h : Wd n t) : (n.toNat = 32 ∧ t.toNat = 4294967295 ∧ 2 ^ n.toNat = 4294967296) ∨ (n.toNat = 64 ∧ t.toNat = 18446744073709551615 ∧ 2 ^ n.toNat = 18446744073709551616) := by
  have := h.tn
  rcases h.nn with e | e
  · left; rw [e] at this ⊢; exact ⟨rfl, this, rfl⟩
  · right; rw [e] at this ⊢; exact ⟨rfl, this, rfl⟩

/-- The results are held. -/
def Holds (s : Sp) (t r : W) : Prop := memS s r ∧ s.hi.toNat ≤ t.toNat
theorem full (h : Wd n t) (x : W) : Holds ⟨0, t⟩ t (x &&& t) := by
  have h1 := h.and x
  have h2 := h.tn
  have h3 := Nat.mod_lt x.toNat (Nat.two_pow_pos n.toNat)
  refine ⟨⟨Nat.zero_le _, ?_⟩, Nat.le_refl _⟩
  show (x &&& t).toNat ≤ t.toNat
  omega

theorem carry_eq (x y : W) : carryB x y = bif decide (2 ^ 64 ≤ x.toNat + y.toNat) then 1#64 else 0#64 := by
  unfold carryB
  have hx := x.isLt
  have hy := y.isLt
  congr 1
  rw [Bool.eq_iff_iff]
  simp only [BitVec.ult, BitVec.toNat_add, decide_eq_true_eq]
  omega
theorem borrow_eq (x y : W) : borrowB x y = bif decide (x.toNat < y.toNat) then 1#64 else 0#64 := rfl
theorem bit_ne (p q : Prop) [Decidable p] [Decidable q] : ((bif decide p then 1#64 else 0#64 : W) != (bif decide q then 1#64 else 0#64)) = true ↔ ¬(p ↔ q) := by
  by_cases hp : p <;> by_cases hq : q <;> simp [hp, hq]
theorem dec_ne (p q : Prop) [Decidable p] [Decidable q] : (decide p != decide q) = true ↔ ¬(p ↔ q) := by
  by_cases hp : p <;> by_cases hq : q <;> simp [hp, hq]

theorem sum_ok (h : Wd n t) (ha : a.hi.toNat ≤ t.toNat) (hb : b.hi.toNat ≤ t.toNat) (hX : memS a X) (hY : memS b Y) : Holds (sumS a b t) t ((X + Y) &&& t) := by
  unfold sumS
  cases hc : sumBad a b t with
  | true => exact full h _
  | false =>
    have hn : ¬ sumBad a b t = true := by rw [hc]; decide
    unfold sumBad at hn
    rw [Bool.or_eq_true, carry_eq, carry_eq, bit_ne, ltU, ltU, dec_ne, BitVec.toNat_add, BitVec.toNat_add] at hn
    obtain ⟨x1, x2⟩ := hX
    obtain ⟨y1, y2⟩ := hY
    have l1 := h.and (a.lo + b.lo)
    have l2 := h.and (a.hi + b.hi)
    have l3 := h.and (X + Y)
    rw [BitVec.toNat_add] at l1 l2 l3
    have i1 := a.hi.isLt
    have i2 := b.hi.isLt
    refine ⟨⟨?_, ?_⟩, ?_⟩
    · show ((a.lo + b.lo) &&& t).toNat ≤ ((X + Y) &&& t).toNat
      rcases h.cases with ⟨_, e2, e3⟩ | ⟨_, e2, e3⟩ <;> rw [e3] at l1 l3 <;> rw [e2] at ha hb hn <;> omega
    · show ((X + Y) &&& t).toNat ≤ ((a.hi + b.hi) &&& t).toNat
      rcases h.cases with ⟨_, e2, e3⟩ | ⟨_, e2, e3⟩ <;> rw [e3] at l2 l3 <;> rw [e2] at ha hb hn <;> omega
    · show ((a.hi + b.hi) &&& t).toNat ≤ t.toNat
      rcases h.cases with ⟨_, e2, e3⟩ | ⟨_, e2, e3⟩ <;> rw [e3] at l2 <;> rw [e2] <;> omega

theorem less_ok (h : Wd n t) (ha : a.hi.toNat ≤ t.toNat) (hb : b.hi.toNat ≤ t.toNat) (hX : memS a X) (hY : memS b Y) : Holds (lessS a b t) t ((X - Y) &&& t) := by
  unfold lessS
  cases hc : lessBad a b with
  | true => exact full h _
  | false =>
    have hn : ¬ lessBad a b = true := by rw [hc]; decide
    unfold lessBad at hn
    rw [borrow_eq, borrow_eq, bit_ne] at hn
    obtain ⟨x1, x2⟩ := hX
    obtain ⟨y1, y2⟩ := hY
    have l1 := h.and (a.lo - b.hi)
    have l2 := h.and (a.hi - b.lo)
    have l3 := h.and (X - Y)
    rw [BitVec.toNat_sub] at l1 l2 l3
    have i1 := a.hi.isLt
    have i2 := b.hi.isLt
    refine ⟨⟨?_, ?_⟩, ?_⟩
    · show ((a.lo - b.hi) &&& t).toNat ≤ ((X - Y) &&& t).toNat
      rcases h.cases with ⟨_, e2, e3⟩ | ⟨_, e2, e3⟩ <;> rw [e3] at l1 l3 <;> rw [e2] at ha hb <;> omega
    · show ((X - Y) &&& t).toNat ≤ ((a.hi - b.lo) &&& t).toNat
      rcases h.cases with ⟨_, e2, e3⟩ | ⟨_, e2, e3⟩ <;> rw [e3] at l2 l3 <;> rw [e2] at ha hb <;> omega
    · show ((a.hi - b.lo) &&& t).toNat ≤ t.toNat
      rcases h.cases with ⟨_, e2, e3⟩ | ⟨_, e2, e3⟩ <;> rw [e3] at l2 <;> rw [e2] <;> omega

theorem mulS_good (h : Wd n t) (hc : (ltB .u64 0#64 (mulHi a.hi b.hi) || ltB .u64 t (a.hi * b.hi)) = false) : a.hi.toNat * b.hi.toNat ≤ t.toNat ∧ a.hi.toNat * b.hi.toNat < 18446744073709551616 := by
  rw [ltU, ltU, mulHi_nat, BitVec.toNat_mul, Bool.or_eq_false_iff, decide_eq_false_iff_not, decide_eq_false_iff_not] at hc
  have z : (0#64 : W).toNat = 0 := rfl
  rw [z] at hc
  generalize a.hi.toNat * b.hi.toNat = p at *
  omega
theorem mul_ok (h : Wd n t) (hX : memS a X) (hY : memS b Y) : Holds (mulS a b t) t ((X * Y) &&& t) := by
  unfold mulS
  cases hc : (ltB .u64 0#64 (mulHi a.hi b.hi) || ltB .u64 t (a.hi * b.hi)) with
  | true => exact full h _
  | false =>
    obtain ⟨g1, g2⟩ := mulS_good h hc
    have m1 : X.toNat * Y.toNat ≤ a.hi.toNat * b.hi.toNat := Nat.mul_le_mul hX.2 hY.2
    have m2 : a.lo.toNat * b.lo.toNat ≤ X.toNat * Y.toNat := Nat.mul_le_mul hX.1 hY.1
    have l1 := h.and (X * Y)
    have h2 := h.tn
    have h0 := Nat.two_pow_pos n.toNat
    have e1 : (X * Y).toNat = X.toNat * Y.toNat := by rw [BitVec.toNat_mul, Nat.mod_eq_of_lt (by omega)]
    have e2 : (a.lo * b.lo).toNat = a.lo.toNat * b.lo.toNat := by rw [BitVec.toNat_mul, Nat.mod_eq_of_lt (by omega)]
    have e3 : (a.hi * b.hi).toNat = a.hi.toNat * b.hi.toNat := by rw [BitVec.toNat_mul, Nat.mod_eq_of_lt (by omega)]
    rw [e1, Nat.mod_eq_of_lt (by omega)] at l1
    refine ⟨⟨?_, ?_⟩, ?_⟩
    · show (a.lo * b.lo).toNat ≤ _; omega
    · show _ ≤ (a.hi * b.hi).toNat; omega
    · show (a.hi * b.hi).toNat ≤ _; omega

theorem quoW_nat (x y : W) : (quoW x y).toNat = x.toNat / y.toNat := by
  show (x / y).toNat = _
  exact BitVec.toNat_udiv
theorem remW_nat (x y : W) : (remW x y).toNat = x.toNat % y.toNat := by
  show (x % y).toNat = _
  exact BitVec.toNat_umod
theorem eq0 (x : W) : (x == 0#64) = decide (x.toNat = 0) := by
  rw [Bool.eq_iff_iff, beq_iff_eq, decide_eq_true_eq, ← BitVec.toNat_inj]; rfl

def quo0 (x y : W) : W := bif y == 0#64 then 0#64 else quoW x y
def rem0 (x y : W) : W := bif y == 0#64 then x else remW x y
theorem quo0_nat (x y : W) : (quo0 x y).toNat = x.toNat / y.toNat := by
  unfold quo0
  rw [eq0]
  by_cases h : y.toNat = 0
  · rw [decide_eq_true h, h, Nat.div_zero]; rfl
  · rw [decide_eq_false h]; exact quoW_nat x y
theorem rem0_nat (x y : W) : (rem0 x y).toNat = x.toNat % y.toNat := by
  unfold rem0
  rw [eq0]
  by_cases h : y.toNat = 0
  · rw [decide_eq_true h, h, Nat.mod_zero]; rfl
  · rw [decide_eq_false h]; exact remW_nat x y

theorem parts_ok (ha : a.hi.toNat ≤ t.toNat) (hX : memS a X) (hY : memS b Y) : Holds (partsS a b) t (quo0 X Y) := by
  obtain ⟨x1, x2⟩ := hX
  obtain ⟨y1, y2⟩ := hY
  have hq := quo0_nat X Y
  unfold partsS
  rw [eq0, eq0]
  by_cases h1 : b.hi.toNat = 0
  · rw [decide_eq_true h1]
    have : Y.toNat = 0 := by omega
    rw [this, Nat.div_zero] at hq
    exact ⟨⟨Nat.zero_le _, by rw [hq]; exact Nat.zero_le _⟩, Nat.zero_le _⟩
  · rw [decide_eq_false h1]
    have hle : X.toNat / Y.toNat ≤ X.toNat := Nat.div_le_self _ _
    by_cases h2 : b.lo.toNat = 0
    · rw [decide_eq_true h2]
      exact ⟨⟨Nat.zero_le _, by show (quo0 X Y).toNat ≤ a.hi.toNat; omega⟩, ha⟩
    · rw [decide_eq_false h2]
      refine ⟨⟨?_, ?_⟩, ?_⟩
      · show (quoW a.lo b.hi).toNat ≤ _
        rw [quoW_nat, hq]
        exact Nat.div_le_div x1 y2 (by omega)
      · show _ ≤ (quoW a.hi b.lo).toNat
        rw [quoW_nat, hq]
        exact Nat.div_le_div x2 y1 h2
      · show (quoW a.hi b.lo).toNat ≤ _
        rw [quoW_nat]
        exact Nat.le_trans (Nat.div_le_self _ _) ha

theorem rest_ok (ha : a.hi.toNat ≤ t.toNat) (hX : memS a X) (hY : memS b Y) : Holds (restS a b) t (rem0 X Y) := by
  obtain ⟨x1, x2⟩ := hX
  obtain ⟨y1, y2⟩ := hY
  have hr := rem0_nat X Y
  unfold restS
  have hle : X.toNat % Y.toNat ≤ X.toNat := Nat.mod_le _ _
  cases h1 : restC1 a b with
  | true =>
    have : X.toNat % Y.toNat = X.toNat := by
      unfold restC1 at h1
      rw [eq0, ltU, Bool.or_eq_true, decide_eq_true_eq, decide_eq_true_eq] at h1
      rcases h1 with h1 | h1
      · rw [show Y.toNat = 0 by omega, Nat.mod_zero]
      · exact Nat.mod_eq_of_lt (by omega)
    exact ⟨⟨by show a.lo.toNat ≤ _; omega, by show _ ≤ a.hi.toNat; omega⟩, ha⟩
  | false =>
    unfold restC1 at h1
    rw [eq0, ltU, Bool.or_eq_false_iff, decide_eq_false_iff_not, decide_eq_false_iff_not] at h1
    cases h2 : restC2 a b with
    | true =>
      unfold restC2 at h2
      simp only [Bool.and_eq_true, beq_iff_eq, ← BitVec.toNat_inj, quoW_nat] at h2
      obtain ⟨e1, e2⟩ := h2
      have ey : Y.toNat = b.lo.toNat := by omega
      rw [ey] at hr
      have q1 : a.lo.toNat / b.lo.toNat ≤ X.toNat / b.lo.toNat := Nat.div_le_div_right x1
      have q2 : X.toNat / b.lo.toNat ≤ a.hi.toNat / b.lo.toNat := Nat.div_le_div_right x2
      have d1 := Nat.div_add_mod a.lo.toNat b.lo.toNat
      have d2 := Nat.div_add_mod X.toNat b.lo.toNat
      have d3 := Nat.div_add_mod a.hi.toNat b.lo.toNat
      have e3 : X.toNat / b.lo.toNat = a.hi.toNat / b.lo.toNat := by omega
      rw [e2] at d1
      rw [e3] at d2
      refine ⟨⟨?_, ?_⟩, ?_⟩
      · show (remW a.lo b.lo).toNat ≤ _
        rw [remW_nat]; omega
      · show _ ≤ (remW a.hi b.lo).toNat
        rw [remW_nat]; omega
      · show (remW a.hi b.lo).toNat ≤ _
        rw [remW_nat]
        exact Nat.le_trans (Nat.mod_le _ _) ha
    | false =>
      rw [eq0]
      by_cases h3 : b.lo.toNat = 0
      · rw [decide_eq_true h3]
        exact ⟨⟨Nat.zero_le _, by show _ ≤ a.hi.toNat; omega⟩, ha⟩
      · rw [decide_eq_false h3]
        have hm : (minU a.hi (b.hi - 1#64)).toNat = min a.hi.toNat (b.hi.toNat - 1) := by
          rw [minU_nat, BitVec.toNat_sub]
          have := b.hi.isLt
          have e1 : (1#64 : W).toNat = 1 := rfl
          congr 1
          omega
        have : X.toNat % Y.toNat < Y.toNat := Nat.mod_lt _ (by omega)
        refine ⟨⟨Nat.zero_le _, ?_⟩, ?_⟩
        · show _ ≤ (minU a.hi (b.hi - 1#64)).toNat
          omega
        · show (minU a.hi (b.hi - 1#64)).toNat ≤ _
          omega
end Go.Rf

/- Spans: shifts. -/
namespace Go.Rf

variable {n t : W} {a b : Sp} {X Y : W}
theorem Wd.n64 (h : Wd n t) : 32 ≤ n.toNat ∧ n.toNat ≤ 64 := by rcases h.nn with e | e <;> rw [e] <;> decide
theorem Wd.bit (h : Wd n t) {i : Nat} (hi : i < 64) : t.getLsbD i = decide (i < n.toNat) := by
  rw [h.tt]
  unfold ones'
  rw [BitVec.getLsbD_ofNat, Nat.testBit_two_pow_sub_one]
  simp [hi]
theorem shI_nat (x : W) {k : W} (hk : k.toNat < 64) : (shI x k).toNat = x.toNat / 2 ^ k.toNat := by
  unfold shI
  rw [amtI (by rw [int_small hk]; omega)]
  show (x >>> k.toNat).toNat = _
  rw [BitVec.toNat_ushiftRight, Nat.shiftRight_eq_div_pow]
theorem shI_bit (x : W) {k : W} (hk : k.toNat < 64) (i : Nat) : (shI x k).getLsbD i = x.getLsbD (k.toNat + i) := by
  unfold shI
  rw [amtI (by rw [int_small hk]; omega)]
  show (x >>> k.toNat).getLsbD i = _
  rw [BitVec.getLsbD_ushiftRight]
theorem bit_small {x : W} {m j : Nat} (h : x.toNat < 2 ^ m) (hj : m ≤ j) : x.getLsbD j = false := by
  have : x.toNat < 2 ^ j := Nat.lt_of_lt_of_le h (Nat.pow_le_pow_right (by decide) hj)
  exact Nat.testBit_lt_two_pow this

theorem drw_nat (h : Wd n t) {x k : W} (hx : x.toNat ≤ t.toNat) (hk : k.toNat < n.toNat) : (drw x k t).toNat = t.toNat - (t.toNat - x.toNat) / 2 ^ k.toNat := by
  have hn := h.n64
  have hk64 : k.toNat < 64 := by omega
  have ht := h.tn
  have hp := Nat.two_pow_pos n.toNat
  have bx : ∀ j, n.toNat ≤ j → x.getLsbD j = false := fun j hj => bit_small (by omega) hj
  -- the noughts' part
  have hv : (t &&& ~~~(shI t k)) + shI t k = t := by
    rw [BitVec.add_eq_or_of_and_eq_zero]
    · apply BitVec.eq_of_getLsbD_eq
      intro i hi
      rw [BitVec.getLsbD_or, BitVec.getLsbD_and, BitVec.getLsbD_not, shI_bit t hk64, h.bit hi]
      by_cases e : k.toNat + i < 64
      · rw [h.bit e]
        by_cases e1 : k.toNat + i < n.toNat
        · have e2 : i < n.toNat := by omega
          simp [e1, e2]
        · simp [e1, hi]
      · rw [BitVec.getLsbD_of_ge t _ (by omega)]
        simp [hi]
    · apply BitVec.eq_of_getLsbD_eq
      intro i hi
      simp only [BitVec.getLsbD_and, BitVec.getLsbD_not, BitVec.getLsbD_zero, hi, decide_true, Bool.true_and]
      cases (shI t k).getLsbD i <;> simp
  have hvn := congrArg BitVec.toNat hv
  have hle : (shI t k).toNat ≤ t.toNat := by rw [shI_nat t hk64]; exact Nat.div_le_self _ _
  have hand : (t &&& ~~~(shI t k)).toNat ≤ t.toNat := by
    rw [BitVec.toNat_and]; exact Nat.and_le_left
  have hvn' : (t &&& ~~~(shI t k)).toNat = t.toNat - (shI t k).toNat := by
    rw [BitVec.toNat_add] at hvn
    have := t.isLt
    have := (shI t k).isLt
    by_cases e : (t &&& ~~~(shI t k)).toNat + (shI t k).toNat < 2 ^ 64
    · rw [Nat.mod_eq_of_lt e] at hvn; omega
    · omega
  have hd : drw x k t = shI x k + (t &&& ~~~(shI t k)) := by
    unfold drw
    rw [BitVec.add_eq_or_of_and_eq_zero]
    apply BitVec.eq_of_getLsbD_eq
    intro i hi
    simp only [BitVec.getLsbD_and, BitVec.getLsbD_not, BitVec.getLsbD_zero, hi, decide_true, Bool.true_and]
    rw [shI_bit x hk64, shI_bit t hk64]
    by_cases e : k.toNat + i < n.toNat
    · rw [h.bit (i := k.toNat + i) (by omega)]
      simp [e]
    · rw [bx _ (by omega)]; simp
  have hx2 : (shI x k).toNat ≤ (shI t k).toNat := by
    rw [shI_nat x hk64, shI_nat t hk64]; exact Nat.div_le_div_right hx
  have hsum : (drw x k t).toNat = (shI x k).toNat + (t.toNat - (shI t k).toNat) := by
    rw [hd, BitVec.toNat_add, hvn', Nat.mod_eq_of_lt]
    have := t.isLt
    omega
  rw [hsum, shI_nat x hk64, shI_nat t hk64]
  -- (t - x) / 2^k = t / 2^k - x / 2^k
  have hm : 2 ^ n.toNat = 2 ^ (n.toNat - k.toNat) * 2 ^ k.toNat := by rw [← Nat.pow_add]; congr 1; omega
  generalize 2 ^ k.toNat = K at *
  generalize 2 ^ (n.toNat - k.toNat) = Q at *
  have hK : 0 < K := by
    rcases Nat.eq_zero_or_pos K with e | e
    · rw [e, Nat.mul_zero] at hm; omega
    · exact e
  have hQ : 0 < Q := by
    rcases Nat.eq_zero_or_pos Q with e | e
    · rw [e, Nat.zero_mul] at hm; omega
    · exact e
  have e1 : t.toNat / K = Q - 1 := by
    rw [ht, hm]
    have : Q * K - 1 = (Q - 1) * K + (K - 1) := by
      rw [Nat.sub_mul, Nat.one_mul]
      have : K ≤ Q * K := Nat.le_mul_of_pos_left K hQ
      omega
    rw [this, Nat.add_comm, Nat.add_mul_div_right _ _ hK, Nat.div_eq_of_lt (by omega), Nat.zero_add]
  have e2 : (t.toNat - x.toNat) / K = Q - 1 - x.toNat / K := by
    have d1 := Nat.div_add_mod x.toNat K
    have m1 := Nat.mod_lt x.toNat hK
    have hxq : x.toNat / K ≤ Q - 1 := by rw [← e1]; exact Nat.div_le_div_right hx
    have : t.toNat - x.toNat = (Q - 1 - x.toNat / K) * K + (K - 1 - x.toNat % K) := by
      rw [Nat.sub_mul, Nat.sub_mul, Nat.one_mul, ht, hm]
      rw [Nat.mul_comm] at d1
      have h1 : x.toNat / K * K ≤ (Q - 1) * K := Nat.mul_le_mul_right K hxq
      rw [Nat.sub_mul, Nat.one_mul] at h1
      have : K ≤ Q * K := Nat.le_mul_of_pos_left K hQ
      omega
    rw [this, Nat.add_comm, Nat.add_mul_div_right _ _ hK, Nat.div_eq_of_lt (by omega), Nat.zero_add]
  have hxq : x.toNat / K ≤ t.toNat / K := Nat.div_le_div_right hx
  have hqt : t.toNat / K ≤ t.toNat := Nat.div_le_self _ _
  rw [e1] at hxq hqt
  rw [e2, e1]
  generalize x.toNat / K = q at *
  omega

/-! What the document's Drawn comes to. -/
def drawnN (T x k : Nat) : Nat := if x ≤ T / 2 then x / 2 ^ k else T - (T - x) / 2 ^ k

theorem and_bit (x : W) {j : Nat} (hj : j < 64) : x &&& mB j = if x.getLsbD j then mB j else 0#64 := by
  apply BitVec.eq_of_getLsbD_eq
  intro i hi
  rw [BitVec.getLsbD_and, mB_bit j i hi]
  by_cases e : i = j
  · subst e
    cases h : x.getLsbD i
    · simp
    · rw [if_pos rfl, mB_bit i i hi]; simp
  · cases h : x.getLsbD j
    · simp [e]
    · rw [if_pos rfl, mB_bit j i hi]; simp [e]
theorem bit_at {x : W} {j : Nat} (h : x.toNat < 2 ^ (j + 1)) : x.getLsbD j = decide (2 ^ j ≤ x.toNat) := by
  have e : x.getLsbD j = decide (x.toNat / 2 ^ j % 2 = 1) := Nat.testBit_eq_decide_div_mod_eq
  rw [e]
  have h0 := Nat.two_pow_pos j
  rw [Nat.pow_succ] at h
  by_cases h1 : 2 ^ j ≤ x.toNat
  · have : x.toNat / 2 ^ j = 1 := by
      rw [Nat.div_eq_iff h0]; omega
    simp [h1, this]
  · rw [Nat.div_eq_of_lt (by omega)]
    simp [h1]

theorem drawn_step (h : Wd n t) {x : Nat} (hx : x ≤ t.toNat) (i : Nat) :
    quoW (BitVec.ofNat 64 (drawnN t.toNat x i)) 2#64 + (BitVec.ofNat 64 (drawnN t.toNat x i) &&& powWr (n - 1#64)) = BitVec.ofNat 64 (drawnN t.toNat x (i + 1)) := by
  have hn := h.n64
  have ht := h.tn
  have e1 : (n - 1#64).toNat = n.toNat - 1 := by rcases h.nn with e | e <;> rw [e] <;> decide
  have e0 : 0 ≤ (n - 1#64).toInt := by rcases h.nn with e | e <;> rw [e] <;> decide
  have hp : powWr (n - 1#64) = mB (n.toNat - 1) := by
    rw [powWr_eq e0, e1]
    apply BitVec.eq_of_toNat_eq
    rw [mB_nat (by omega), BitVec.toNat_ofNat, Nat.mod_eq_of_lt (Nat.pow_lt_pow_right (by decide) (by omega))]
  have hM : 2 ^ n.toNat = 2 * 2 ^ (n.toNat - 1) := by
    rw [← Nat.pow_succ']; congr 1; omega
  have hMp := Nat.two_pow_pos (n.toNat - 1)
  have hlt64 : 2 ^ (n.toNat - 1) < 2 ^ 64 := Nat.pow_lt_pow_right (by decide) (by omega)
  have hMn := mB_nat (j := n.toNat - 1) (by omega)
  have htl := t.isLt
  rw [hp, and_bit _ (by omega)]
  generalize hMe : 2 ^ (n.toNat - 1) = M at *
  have half : t.toNat / 2 = M - 1 := by omega
  unfold drawnN
  rw [half, Nat.pow_succ, ← Nat.div_div_eq_div_mul, ← Nat.div_div_eq_div_mul]
  by_cases hc : x ≤ M - 1
  · rw [if_pos hc, if_pos hc]
    have hle : x / 2 ^ i ≤ x := Nat.div_le_self _ _
    have hv : (BitVec.ofNat 64 (x / 2 ^ i)).toNat = x / 2 ^ i := by rw [BitVec.toNat_ofNat, Nat.mod_eq_of_lt (by omega)]
    have hb : (BitVec.ofNat 64 (x / 2 ^ i)).getLsbD (n.toNat - 1) = false := bit_small (m := n.toNat - 1) (by rw [hv, hMe]; omega) (Nat.le_refl _)
    rw [hb]
    apply BitVec.eq_of_toNat_eq
    have z : (0#64 : W).toNat = 0 := rfl
    have z2 : (2#64 : W).toNat = 2 := rfl
    rw [if_neg (by decide), BitVec.toNat_add, quoW_nat, hv, z, z2, BitVec.toNat_ofNat]
    rfl
  · rw [if_neg hc, if_neg hc]
    generalize hw : (t.toNat - x) / 2 ^ i = w
    have hwl : w ≤ t.toNat - x := by rw [← hw]; exact Nat.div_le_self _ _
    have hv : (BitVec.ofNat 64 (t.toNat - w)).toNat = t.toNat - w := by rw [BitVec.toNat_ofNat, Nat.mod_eq_of_lt (by omega)]
    have hb : (BitVec.ofNat 64 (t.toNat - w)).getLsbD (n.toNat - 1) = true := by
      rw [bit_at (by rw [hv, Nat.pow_succ, hMe]; omega), hv, hMe]
      exact decide_eq_true (by omega)
    rw [hb]
    apply BitVec.eq_of_toNat_eq
    have z2 : (2#64 : W).toNat = 2 := rfl
    rw [if_pos rfl, BitVec.toNat_add, quoW_nat, hv, hMn, z2, BitVec.toNat_ofNat]
    omega

theorem drawnR_eq (h : Wd n t) {x k : W} (hx : x.toNat ≤ t.toNat) (hk : k.toNat < 64) : drawnR x k n = BitVec.ofNat 64 (drawnN t.toNat x.toNat k.toNat) := by
  unfold drawnR DrS.run
  have hki := int_small hk
  have hm : (⟨x, k, n, 0#64⟩ : DrS).mu = k.toNat := by
    show (k.toInt - (0#64 : W).toInt).toNat = _
    rw [hki, show ((0#64 : W).toInt) = 0 from rfl]; omega
  rw [hm]
  have e0 : (⟨x, k, n, 0#64⟩ : DrS) = ⟨BitVec.ofNat 64 (drawnN t.toNat x.toNat 0), k, n, BitVec.ofNat 64 0⟩ := by
    have : drawnN t.toNat x.toNat 0 = x.toNat := by unfold drawnN; split <;> simp <;> omega
    rw [this, ofNat_self]
  rw [e0, runN_count (go := DrS.go) (next := DrS.nxt) (fun i => (⟨BitVec.ofNat 64 (drawnN t.toNat x.toNat i), k, n, BitVec.ofNat 64 i⟩ : DrS)) k.toNat (fun i hi => by
    show ltB .i64 (BitVec.ofNat 64 i) k = _
    rw [← ofNat_self k, ltB_ofNat (by omega) (by omega), ofNat_self]) (fun i hi => by
    unfold DrS.nxt
    show (⟨quoW (BitVec.ofNat 64 (drawnN t.toNat x.toNat i)) 2#64 + (BitVec.ofNat 64 (drawnN t.toNat x.toNat i) &&& powWr (n - 1#64)), k, n, BitVec.ofNat 64 i + 1#64⟩ : DrS) = _
    rw [drawn_step h hx, ofNat_succ])]
theorem drawnN_le {T x k : Nat} (hx : x ≤ T) : drawnN T x k ≤ T := by
  unfold drawnN
  split
  · exact Nat.le_trans (Nat.div_le_self _ _) hx
  · exact Nat.sub_le _ _
theorem drawnR_nat (h : Wd n t) {x k : W} (hx : x.toNat ≤ t.toNat) (hk : k.toNat < 64) : (drawnR x k n).toNat = drawnN t.toNat x.toNat k.toNat := by
  rw [drawnR_eq h hx hk, BitVec.toNat_ofNat, Nat.mod_eq_of_lt]
  exact Nat.lt_of_le_of_lt (drawnN_le hx) t.isLt

theorem sign_nat (h : Wd n t) : (signOf t).toNat = t.toNat / 2 + 1 := by
  unfold signOf half1
  show ((t >>> 1) + 1#64).toNat = _
  rw [BitVec.toNat_add, BitVec.toNat_ushiftRight, Nat.shiftRight_eq_div_pow]
  have e1 : (1#64 : W).toNat = 1 := rfl
  have := t.isLt
  rw [e1]; omega

/-! One shift's result, by how much. -/
def shOne (op x k n t : W) : W := bif op == 6#64 then (x * powWr k) &&& t else bif op == 7#64 then quoW x (powWr k) else drawnR x k n
theorem shl_nat (x : W) {k : W} (hk : k.toNat < 64) : (x <<< amt .i64 k).toNat = x.toNat * 2 ^ k.toNat % 2 ^ 64 := by
  rw [amtI (by rw [int_small hk]; omega), BitVec.toNat_shiftLeft, Nat.shiftLeft_eq]
theorem powk_nat {k : W} (hk : k.toNat < 64) : (powWr k).toNat = 2 ^ k.toNat := by
  rw [powWr_eq (by rw [int_small hk]; omega), BitVec.toNat_ofNat, Nat.mod_eq_of_lt (Nat.pow_lt_pow_right (by decide) hk)]

theorem shTo_ok (h : Wd n t) (op : W) (hop : op = 6#64 ∨ op = 7#64 ∨ op = 12#64) {c d k : W} (hd : d.toNat < n.toNat) (hck : c.toNat ≤ k.toNat) (hkd : k.toNat ≤ d.toNat)
    (ha : a.hi.toNat ≤ t.toNat) (hX : memS a X) : Holds (shTo op a c d t) t (shOne op X k n t) := by
  have hn := h.n64
  have k64 : k.toNat < 64 := by omega
  have c64 : c.toNat < 64 := by omega
  have d64 : d.toNat < 64 := by omega
  obtain ⟨x1, x2⟩ := hX
  have pc : 2 ^ c.toNat ≤ 2 ^ k.toNat := Nat.pow_le_pow_right (by decide) hck
  have pd : 2 ^ k.toNat ≤ 2 ^ d.toNat := Nat.pow_le_pow_right (by decide) hkd
  have p0 := Nat.two_pow_pos c.toNat
  have pk := Nat.two_pow_pos k.toNat
  have htl := t.isLt
  unfold shTo shOne
  rcases hop with rfl | rfl | rfl
  · -- Lsh
    show Holds (Sp.mux (ltB .u64 (shI t d) a.hi) ⟨0, t⟩ ⟨a.lo <<< amt .i64 c, a.hi <<< amt .i64 d⟩) t ((X * powWr k) &&& t)
    rw [ltU, shI_nat t d64]
    by_cases hc : t.toNat / 2 ^ d.toNat < a.hi.toNat
    · rw [decide_eq_true hc]; exact full h _
    · rw [decide_eq_false hc]
      have g1 : a.hi.toNat * 2 ^ d.toNat ≤ t.toNat := (Nat.le_div_iff_mul_le (Nat.two_pow_pos _)).1 (by omega)
      have g2 : X.toNat * 2 ^ k.toNat ≤ a.hi.toNat * 2 ^ d.toNat := Nat.mul_le_mul x2 pd
      have g3 : a.lo.toNat * 2 ^ c.toNat ≤ X.toNat * 2 ^ k.toNat := Nat.mul_le_mul x1 pc
      have l1 := h.and (X * powWr k)
      have l2 := h.tn
      have l0 := Nat.two_pow_pos n.toNat
      rw [BitVec.toNat_mul, powk_nat k64, Nat.mod_eq_of_lt (a := X.toNat * 2 ^ k.toNat) (by omega), Nat.mod_eq_of_lt (by omega)] at l1
      refine ⟨⟨?_, ?_⟩, ?_⟩
      · show (a.lo <<< amt .i64 c).toNat ≤ _
        rw [shl_nat _ c64, Nat.mod_eq_of_lt (by omega), l1]; exact g3
      · show _ ≤ (a.hi <<< amt .i64 d).toNat
        rw [shl_nat _ d64, Nat.mod_eq_of_lt (by omega), l1]; exact g2
      · show (a.hi <<< amt .i64 d).toNat ≤ _
        rw [shl_nat _ d64, Nat.mod_eq_of_lt (by omega)]; exact g1
  · -- Rsh
    show Holds ⟨shI a.lo d, shI a.hi c⟩ t (quoW X (powWr k))
    have hr : (quoW X (powWr k)).toNat = X.toNat / 2 ^ k.toNat := by rw [quoW_nat, powk_nat k64]
    refine ⟨⟨?_, ?_⟩, ?_⟩
    · show (shI a.lo d).toNat ≤ _
      rw [shI_nat _ d64, hr]; exact Nat.div_le_div x1 pd (by omega)
    · show _ ≤ (shI a.hi c).toNat
      rw [shI_nat _ c64, hr]; exact Nat.div_le_div x2 pc (by omega)
    · show (shI a.hi c).toNat ≤ _
      rw [shI_nat _ c64]; exact Nat.le_trans (Nat.div_le_self _ _) ha
  · -- Arsh
    have hX' : X.toNat ≤ t.toNat := by omega
    have hr := drawnR_nat h (x := X) (k := k) hX' k64
    show Holds (Sp.mux (ltB .u64 a.hi (signOf t)) ⟨shI a.lo d, shI a.hi c⟩ (Sp.mux (ltB .u64 a.lo (signOf t)) ⟨shI a.lo d, drw a.hi d t⟩ ⟨drw a.lo c t, drw a.hi d t⟩)) t (drawnR X k n)
    rw [ltU, ltU, sign_nat h]
    have dh := drw_nat h (x := a.hi) (k := d) ha hd
    have dl := drw_nat h (x := a.lo) (k := c) (by omega) (by omega)
    unfold drawnN at hr
    have n1 : a.lo.toNat / 2 ^ d.toNat ≤ X.toNat / 2 ^ k.toNat := Nat.div_le_div x1 pd (by omega)
    have n2 : X.toNat / 2 ^ k.toNat ≤ a.hi.toNat / 2 ^ c.toNat := Nat.div_le_div x2 pc (by omega)
    have n3 : (t.toNat - a.hi.toNat) / 2 ^ d.toNat ≤ (t.toNat - X.toNat) / 2 ^ k.toNat := Nat.div_le_div (by omega) pd (by omega)
    have n4 : (t.toNat - X.toNat) / 2 ^ k.toNat ≤ (t.toNat - a.lo.toNat) / 2 ^ c.toNat := Nat.div_le_div (by omega) pc (by omega)
    have n5 : (t.toNat - a.hi.toNat) / 2 ^ d.toNat ≤ t.toNat - a.hi.toNat := Nat.div_le_self _ _
    have n6 : X.toNat / 2 ^ k.toNat ≤ X.toNat := Nat.div_le_self _ _
    have n7 : a.lo.toNat / 2 ^ d.toNat ≤ a.lo.toNat := Nat.div_le_self _ _
    have n8 : (t.toNat - X.toNat) / 2 ^ k.toNat ≤ t.toNat - X.toNat := Nat.div_le_self _ _
    have n9 : a.hi.toNat / 2 ^ c.toNat ≤ a.hi.toNat := Nat.div_le_self _ _
    have s1 := shI_nat a.lo d64
    have s2 := shI_nat a.hi c64
    generalize a.lo.toNat / 2 ^ d.toNat = q1 at *
    generalize X.toNat / 2 ^ k.toNat = q2 at *
    generalize a.hi.toNat / 2 ^ c.toNat = q3 at *
    generalize (t.toNat - a.hi.toNat) / 2 ^ d.toNat = q4 at *
    generalize (t.toNat - X.toNat) / 2 ^ k.toNat = q5 at *
    generalize (t.toNat - a.lo.toNat) / 2 ^ c.toNat = q6 at *
    by_cases h1 : a.hi.toNat < t.toNat / 2 + 1
    · rw [decide_eq_true h1]
      rw [if_pos (by omega)] at hr
      refine ⟨⟨?_, ?_⟩, ?_⟩
      · show (shI a.lo d).toNat ≤ _; omega
      · show _ ≤ (shI a.hi c).toNat; omega
      · show (shI a.hi c).toNat ≤ _; omega
    · rw [decide_eq_false h1]
      by_cases h2 : a.lo.toNat < t.toNat / 2 + 1
      · rw [decide_eq_true h2]
        refine ⟨⟨?_, ?_⟩, ?_⟩
        · show (shI a.lo d).toNat ≤ _
          split at hr <;> omega
        · show _ ≤ (drw a.hi d t).toNat
          split at hr <;> omega
        · show (drw a.hi d t).toNat ≤ _; omega
      · rw [decide_eq_false h2]
        rw [if_neg (by omega)] at hr
        refine ⟨⟨?_, ?_⟩, ?_⟩
        · show (drw a.lo c t).toNat ≤ _; omega
        · show _ ≤ (drw a.hi d t).toNat; omega
        · show (drw a.hi d t).toNat ≤ _; omega

/-- How much is shifted: within what is told. -/
theorem count_ok (h : Wd n t) (hb : mayS b = true) (hY : memS b Y) : (shWide b n = true → Y.toNat % n.toNat < n.toNat) ∧
    (shWide b n = false → (shC b.lo n).toNat ≤ Y.toNat % n.toNat ∧ Y.toNat % n.toNat ≤ (shC b.hi n).toNat ∧ (shC b.hi n).toNat < n.toNat) := by
  have hn := h.n64
  refine ⟨fun _ => Nat.mod_lt _ (by omega), fun hw => ?_⟩
  have hle := mayS_iff.1 hb
  have cl := shC_nat b.lo n h.nn
  have ch := shC_nat b.hi n h.nn
  have mh := Nat.mod_lt b.hi.toNat (show n.toNat > 0 by omega)
  have ml := Nat.mod_lt b.lo.toNat (show n.toNat > 0 by omega)
  have my := Nat.mod_lt Y.toNat (show n.toNat > 0 by omega)
  have hu : (toUS n).toNat = n.toNat := by
    unfold toUS
    show ((n.signExtend 64 : W)).toNat = _
    rw [BitVec.signExtend_eq]
  have hsub : (b.hi - b.lo).toNat = b.hi.toNat - b.lo.toNat := by
    rw [BitVec.toNat_sub]
    have := b.hi.isLt
    omega
  unfold shWide at hw
  rw [leU, hu, hsub, ltB_nat (by omega) (by omega), Bool.or_eq_false_iff, decide_eq_false_iff_not, decide_eq_false_iff_not, cl, ch] at hw
  obtain ⟨y1, y2⟩ := hY
  have key := cut_core b.lo.toNat b.hi.toNat n.toNat (by omega) hle
  have hq : b.lo.toNat / n.toNat = b.hi.toNat / n.toNat := by
    by_cases e : b.lo.toNat / n.toNat = b.hi.toNat / n.toNat
    · exact e
    · rcases key.1 e with h1 | h1 <;> omega
  have q1 : b.lo.toNat / n.toNat ≤ Y.toNat / n.toNat := Nat.div_le_div_right y1
  have q2 : Y.toNat / n.toNat ≤ b.hi.toNat / n.toNat := Nat.div_le_div_right y2
  have e1 := Nat.div_add_mod b.lo.toNat n.toNat
  have e2 := Nat.div_add_mod Y.toNat n.toNat
  have e3 := Nat.div_add_mod b.hi.toNat n.toNat
  have q3 : Y.toNat / n.toNat = b.hi.toNat / n.toNat := by omega
  rw [hq] at e1
  rw [q3] at e2
  omega

theorem shift_ok (h : Wd n t) (op : W) (hop : op = 6#64 ∨ op = 7#64 ∨ op = 12#64) (hb : mayS b = true) (ha : a.hi.toNat ≤ t.toNat) (hX : memS a X) (hY : memS b Y) {k : W} (hk : k.toNat = Y.toNat % n.toNat) :
    Holds (shiftS op a b n t) t (shOne op X k n t) := by
  have hn := h.n64
  obtain ⟨c1, c2⟩ := count_ok h hb hY
  unfold shiftS
  cases hw : shWide b n with
  | true =>
    have e1 : (n - 1#64).toNat = n.toNat - 1 := by rcases h.nn with e | e <;> rw [e] <;> decide
    have := c1 hw
    exact shTo_ok h op hop (c := 0#64) (d := n - 1#64) (k := k) (by omega) (by show (0#64 : W).toNat ≤ _; exact Nat.zero_le _) (by omega) ha hX
  | false =>
    obtain ⟨u, v, w⟩ := c2 hw
    exact shTo_ok h op hop (c := shC b.lo n) (d := shC b.hi n) (k := k) w (by omega) (by omega) ha hX
end Go.Rf

/- Spans: whatever an operation makes is held. -/
namespace Go.Rf

variable {n t : W} {a b : Sp} {X Y : W}
theorem Wd.lt (h : Wd n t) {x : W} (hx : x.toNat ≤ t.toNat) : x.toNat < 2 ^ n.toNat := by
  have := h.tn
  have := Nat.two_pow_pos n.toNat
  omega
theorem Wd.or (h : Wd n t) {x y : W} (hx : x.toNat ≤ t.toNat) (hy : y.toNat ≤ t.toNat) : (x ||| y).toNat ≤ t.toNat := by
  have := Nat.or_lt_two_pow (h.lt hx) (h.lt hy)
  have := h.tn
  rw [BitVec.toNat_or]; omega
theorem Wd.xor (h : Wd n t) {x y : W} (hx : x.toNat ≤ t.toNat) (hy : y.toNat ≤ t.toNat) : (x ^^^ y).toNat ≤ t.toNat := by
  have := Nat.xor_lt_two_pow (h.lt hx) (h.lt hy)
  have := h.tn
  rw [BitVec.toNat_xor]; omega
theorem both_ok {f : W → W → W} {l m : W} (hl : Least a b f l) (hm : Most a b f m) (ht : ∀ x y, memS a x → memS b y → (f x y).toNat ≤ t.toNat) (hX : memS a X) (hY : memS b Y) : Holds ⟨l, m⟩ t (f X Y) := by
  obtain ⟨x, y, hx, hy, e⟩ := hm.2
  exact ⟨⟨hl.1 X Y hX hY, hm.1 X Y hX hY⟩, by show m.toNat ≤ _; rw [e]; exact ht x y hx hy⟩

/-- The operations that there are. -/
def isOp (op : W) : Prop := op = 0#64 ∨ op = 1#64 ∨ op = 2#64 ∨ op = 3#64 ∨ op = 4#64 ∨ op = 5#64 ∨ op = 6#64 ∨ op = 7#64 ∨ op = 8#64 ∨ op = 9#64 ∨ op = 10#64 ∨ op = 11#64 ∨ op = 12#64
theorem isOp_of {op : W} (h0 : 0 ≤ op.toInt) (h1 : op.toInt ≤ 12) : isOp op := by
  have hn := nat_of_int h0
  have : op.toNat ≤ 12 := by omega
  have e := ofNat_self op
  unfold isOp
  have c : op.toNat = 0 ∨ op.toNat = 1 ∨ op.toNat = 2 ∨ op.toNat = 3 ∨ op.toNat = 4 ∨ op.toNat = 5 ∨ op.toNat = 6 ∨ op.toNat = 7 ∨ op.toNat = 8 ∨ op.toNat = 9 ∨ op.toNat = 10 ∨ op.toNat = 11 ∨ op.toNat = 12 := by omega
  rcases c with c | c | c | c | c | c | c | c | c | c | c | c | c <;> rw [c] at e <;> simp [← e]

theorem core_ok (h : Wd n t) {op : W} (hop : isOp op) (ma : mayS a = true) (mb : mayS b = true) (ha : a.hi.toNat ≤ t.toNat) (hb : b.hi.toNat ≤ t.toNat) (hX : memS a X) (hY : memS b Y) :
    Holds (core op a b n t) t (one' op X Y n t) := by
  have lx : ∀ x, memS a x → x.toNat ≤ t.toNat := fun x hx => Nat.le_trans hx.2 ha
  have ly : ∀ x, memS b x → x.toNat ≤ t.toNat := fun x hx => Nat.le_trans hx.2 hb
  have hk := cnt_nat Y n h.nn
  rcases hop with rfl | rfl | rfl | rfl | rfl | rfl | rfl | rfl | rfl | rfl | rfl | rfl | rfl
  · exact sum_ok h ha hb hX hY
  · exact less_ok h ha hb hX hY
  · exact mul_ok h hX hY
  · exact parts_ok ha hX hY
  · show Holds ⟨leastOr a b, mostOr a b⟩ t (X ||| Y)
    exact both_ok (f := (· ||| ·)) (leastOr_least ma mb) (mostOr_most ma mb) (fun x y hx hy => h.or (lx x hx) (ly y hy)) hX hY
  · show Holds ⟨leastAnd a b, mostAnd a b⟩ t (X &&& Y)
    exact both_ok (f := (· &&& ·)) (leastAnd_least ma mb) (mostAnd_most ma mb) (fun x y hx hy => by
      have : (x &&& y).toNat ≤ x.toNat := by rw [BitVec.toNat_and]; exact Nat.and_le_left
      exact Nat.le_trans this (lx x hx)) hX hY
  · exact shift_ok h 6#64 (.inl rfl) mb ha hX hY hk
  · exact shift_ok h 7#64 (.inr (.inl rfl)) mb ha hX hY hk
  · exact less_ok (a := ofS 0#64) (b := a) h (Nat.zero_le _) ha ⟨Nat.le_refl _, Nat.le_refl _⟩ hX
  · exact rest_ok ha hX hY
  · show Holds ⟨leastXor a b, mostXor a b⟩ t (X ^^^ Y)
    exact both_ok (f := (· ^^^ ·)) (leastXor_least ma mb) (mostXor_most ma mb) (fun x y hx hy => h.xor (lx x hx) (ly y hy)) hX hY
  · exact ⟨hY, hb⟩
  · exact shift_ok h 12#64 (.inr (.inr rfl)) mb ha hX hY hk

theorem top32 : topW 32#64 = t32 := by rw [topW_eq (by decide)]; decide
theorem top64 : topW 64#64 = t64 := by rw [topW_eq (by decide)]; decide
theorem and64 (x : W) : x &&& t64 = x := by
  apply BitVec.eq_of_toNat_eq
  rw [wd64.and]
  exact Nat.mod_eq_of_lt x.isLt
theorem le64' (x : W) : x.toNat ≤ t64.toNat := by
  have := x.isLt
  have e : t64.toNat = 18446744073709551615 := by decide
  omega

/-- A span that is cut to 32 bits. -/
theorem cut32 {s : Sp} (hs : mayS s = true) {x : W} (hx : memS s x) : memS (cutS s 32#64) (x &&& t32) ∧ (cutS s 32#64).hi.toNat ≤ t32.toNat ∧ mayS (cutS s 32#64) = true := by
  have hle := mayS_iff.1 hs
  have e : cutN 32#64 = 32#64 := by decide
  have et : topK 32#64 = t32 := by rw [topK_eq (by decide)]; decide
  unfold cutS
  rw [hs, e, et]
  show memS (Sp.mux (shI s.lo 32#64 != shI s.hi 32#64) ⟨0, t32⟩ ⟨s.lo &&& t32, s.hi &&& t32⟩) (x &&& t32) ∧ (Sp.mux (shI s.lo 32#64 != shI s.hi 32#64) ⟨0, t32⟩ ⟨s.lo &&& t32, s.hi &&& t32⟩).hi.toNat ≤ t32.toNat ∧
    mayS (Sp.mux (shI s.lo 32#64 != shI s.hi 32#64) ⟨0, t32⟩ ⟨s.lo &&& t32, s.hi &&& t32⟩) = true
  have l1 := wd32.and x
  have l2 := wd32.and s.lo
  have l3 := wd32.and s.hi
  have z : (32#64 : W).toNat = 32 := rfl
  have tn : t32.toNat = 4294967295 := rfl
  rw [z] at l1 l2 l3
  obtain ⟨x1, x2⟩ := hx
  cases hc : (shI s.lo 32#64 != shI s.hi 32#64) with
  | true =>
    refine ⟨⟨Nat.zero_le _, ?_⟩, Nat.le_refl _, ?_⟩
    · show _ ≤ t32.toNat; omega
    · rw [mayS_iff]; exact Nat.zero_le _
  | false =>
    rw [bne_eq_false_iff_eq, ← BitVec.toNat_inj, shI_nat _ (by decide), shI_nat _ (by decide), z] at hc
    refine ⟨⟨?_, ?_⟩, ?_, ?_⟩
    · show (s.lo &&& t32).toNat ≤ _; omega
    · show _ ≤ (s.hi &&& t32).toNat; omega
    · show (s.hi &&& t32).toNat ≤ _; omega
    · rw [mayS_iff]
      show (s.lo &&& t32).toNat ≤ (s.hi &&& t32).toNat; omega

theorem alu_ok {op : W} (hop : isOp op) (w : Bool) (ma : mayS a = true) (mb : mayS b = true) (hX : memS a X) (hY : memS b Y) :
    Holds (aluS op w a b) (bif w then t64 else t32) (oneR op w X Y) := by
  unfold aluS oneR
  rw [top32, top64]
  cases w with
  | true =>
    show Holds (core op a b 64#64 t64) t64 (one' op (X &&& t64) (Y &&& t64) 64#64 t64)
    rw [and64, and64]
    exact core_ok wd64 hop ma mb (le64' _) (le64' _) hX hY
  | false =>
    show Holds (core op (cutS a 32#64) (cutS b 32#64) 32#64 t32) t32 (one' op (X &&& t32) (Y &&& t32) 32#64 t32)
    obtain ⟨a1, a2, a3⟩ := cut32 ma hX
    obtain ⟨b1, b2, b3⟩ := cut32 mb hY
    exact core_ok wd32 hop a3 b3 a2 b2 a1 b1

/-! The statement. -/
structure Gv where
  op : W
  w : Bool
  a : Sp
  b : Sp
  x : W
  y : W
def eGv (g : Gv) : AV := .agg (.cons (eI g.op) (.cons (eB g.w) (.cons (eSp g.a) (.cons (eSp g.b) (.cons (eW g.x) (.cons (eW g.y) .nil))))))

def pickW (s : Sp) (x : W) : W := bif s.hi - s.lo == t64 then x else s.lo + remW x (s.hi - s.lo + 1#64)
theorem sub_nat {s : Sp} (h : mayS s = true) : (s.hi - s.lo).toNat = s.hi.toNat - s.lo.toNat := by
  have := mayS_iff.1 h
  have := s.hi.isLt
  rw [BitVec.toNat_sub]; omega
theorem pick_mem {s : Sp} (h : mayS s = true) (x : W) : memS s (pickW s x) := by
  have hle := mayS_iff.1 h
  have hs := sub_nat h
  have l1 := s.hi.isLt
  have tn : t64.toNat = 18446744073709551615 := rfl
  unfold pickW
  cases hc : (s.hi - s.lo == t64) with
  | true =>
    rw [beq_iff_eq, ← BitVec.toNat_inj, hs, tn] at hc
    have := x.isLt
    show memS s x
    exact ⟨by omega, by omega⟩
  | false =>
    rw [beq_eq_false_iff_ne, Ne, ← BitVec.toNat_inj, hs, tn] at hc
    have e1 : (1#64 : W).toNat = 1 := rfl
    have hd : (s.hi - s.lo + 1#64).toNat = s.hi.toNat - s.lo.toNat + 1 := by rw [BitVec.toNat_add, hs, e1]; omega
    have hm := Nat.mod_lt x.toNat (show s.hi.toNat - s.lo.toNat + 1 > 0 by omega)
    have hv : (s.lo + remW x (s.hi - s.lo + 1#64)).toNat = s.lo.toNat + x.toNat % (s.hi.toNat - s.lo.toNat + 1) := by
      rw [BitVec.toNat_add, remW_nat, hd]
      generalize x.toNat % (s.hi.toNat - s.lo.toNat + 1) = r at *
      omega
    show memS s (s.lo + remW x (s.hi - s.lo + 1#64))
    refine ⟨?_, ?_⟩ <;> rw [hv] <;> omega

def badG (g : Gv) : Bool := ltB .i64 g.op 0#64 || ltB .i64 12#64 g.op || !mayS g.a || !mayS g.b
def resG (g : Gv) : Sp := Sp.mux (aluBad g.op g.a g.b) nilS (aluS g.op g.w g.a g.b)
def errG (g : Gv) : W := bif aluBad g.op g.a g.b then 1#64 else 0#64
def soundG (g : Gv) : Bool :=
  bif badG g then errG g == 1#64 && eqS (resG g) nilS && true
  else errG g == 0#64 && leB .u64 (resG g).lo (oneR g.op g.w (pickW g.a g.x) (pickW g.b g.y)) && leB .u64 (oneR g.op g.w (pickW g.a g.x) (pickW g.b g.y)) (resG g).hi && (g.w || ltB .u64 (resG g).hi 4294967296#64) && true

theorem good_op {op : W} (h1 : ltB .i64 op 0#64 = false) (h2 : ltB .i64 12#64 op = false) : isOp op := by
  have z0 : (0#64 : W).toInt = 0 := rfl
  have z12 : (12#64 : W).toInt = 12 := rfl
  rw [ltI, z0, decide_eq_false_iff_not] at h1
  rw [ltI, z12, decide_eq_false_iff_not] at h2
  exact isOp_of (by omega) (by omega)

theorem soundG_true (g : Gv) : soundG g = true := by
  unfold soundG
  cases hb : badG g with
  | true =>
    have : aluBad g.op g.a g.b = true := hb
    unfold errG resG
    rw [this]
    show (1#64 == 1#64 && eqS nilS nilS && true) = true
    rw [eqS_self]; rfl
  | false =>
    have hb2 : aluBad g.op g.a g.b = false := hb
    unfold badG at hb
    simp only [Bool.or_eq_false_iff, Bool.not_eq_false'] at hb
    obtain ⟨⟨⟨h1, h2⟩, ma⟩, mb⟩ := hb
    have hok := alu_ok (good_op h1 h2) g.w ma mb (pick_mem ma g.x) (pick_mem mb g.y)
    unfold errG resG
    rw [hb2]
    show (0#64 == 0#64 && leB .u64 (aluS g.op g.w g.a g.b).lo _ && leB .u64 _ (aluS g.op g.w g.a g.b).hi && (g.w || ltB .u64 (aluS g.op g.w g.a g.b).hi 4294967296#64) && true) = true
    rw [leU, leU, ltU, decide_eq_true hok.1.1, decide_eq_true hok.1.2]
    have h3 := hok.2
    cases hw : g.w with
    | true => rfl
    | false =>
      rw [hw] at h3
      have : (aluS g.op false g.a g.b).hi.toNat < (4294967296#64 : W).toNat := by
        have tn : t32.toNat = 4294967295 := rfl
        have z : (4294967296#64 : W).toNat = 4294967296 := rfl
        have h4 : (aluS g.op false g.a g.b).hi.toNat ≤ t32.toNat := h3
        omega
      rw [decide_eq_true this]; rfl
end Go.Rf

/- Spans: a number that is counted round into a span. -/
namespace Go.Rf

theorem pick_n0 {x : W} (h : (!(x == t64)) = true) : x + 1#64 ≠ 0#64 := by
  intro e
  rw [Bool.not_eq_true', beq_eq_false_iff_ne] at h
  apply h
  apply BitVec.eq_of_toNat_eq
  have := congrArg BitVec.toNat e
  rw [BitVec.toNat_add] at this
  have e1 : (1#64 : W).toNat = 1 := rfl
  have z : (0#64 : W).toNat = 0 := rfl
  have tn : t64.toNat = 18446744073709551615 := rfl
  have := x.isLt
  omega
noncomputable def sl10 : List (FuncId × Con) := (19, con2 cSp cW fun s n => eW (pickW s n)) :: sl9
end Go.Rf

/- Spans: of one number each. -/
namespace Go.Rf

variable {n t : W} {x y : W}
theorem shWide_one (h : Wd n t) : shWide (ofS y) n = false := by
  have hn := h.n64
  unfold shWide ofS
  have hu : (toUS n).toNat = n.toNat := by
    unfold toUS
    show ((n.signExtend 64 : W)).toNat = _
    rw [BitVec.signExtend_eq]
  have z : (y - y).toNat = 0 := by rw [BitVec.sub_self]; rfl
  rw [leU, hu, ltI, Bool.or_eq_false_iff, decide_eq_false_iff_not, decide_eq_false_iff_not]
  exact ⟨by show ¬ n.toNat ≤ (y - y).toNat; omega, by show ¬ (shC y n).toInt < (shC y n).toInt; omega⟩

/-- One number, or all of them. -/
def OneOf (op : W) (s : Sp) (t : W) : Prop := s.lo = s.hi ∨ ((op = 2#64 ∨ op = 6#64) ∧ s = ⟨0, t⟩)

theorem core_one (h : Wd n t) {op : W} (hop : isOp op) : OneOf op (core op (ofS x) (ofS y) n t) t := by
  have mx : mayS (ofS x) = true := mayS_iff.2 (Nat.le_refl _)
  have my : mayS (ofS y) = true := mayS_iff.2 (Nat.le_refl _)
  have only : ∀ {u v : W}, memS (ofS u) v → v = u := fun {u v} hv => BitVec.eq_of_toNat_eq (by have := hv.1; have := hv.2; simp only [ofS] at *; omega)
  have two : ∀ {f : W → W → W} {l m : W}, Least (ofS x) (ofS y) f l → Most (ofS x) (ofS y) f m → l = m := by
    intro f l m hl hm
    obtain ⟨u, v, hu, hv, e⟩ := hl.2
    obtain ⟨u', v', hu', hv', e'⟩ := hm.2
    rw [e, e', only hu, only hv, only hu', only hv']
  rcases hop with rfl | rfl | rfl | rfl | rfl | rfl | rfl | rfl | rfl | rfl | rfl | rfl | rfl
  · left
    show (sumS (ofS x) (ofS y) t).lo = (sumS (ofS x) (ofS y) t).hi
    have : sumBad (ofS x) (ofS y) t = false := by simp [sumBad, ofS]
    unfold sumS; rw [this]; rfl
  · left
    show (lessS (ofS x) (ofS y) t).lo = (lessS (ofS x) (ofS y) t).hi
    have : lessBad (ofS x) (ofS y) = false := by simp [lessBad, ofS]
    unfold lessS; rw [this]; rfl
  · show OneOf 2#64 (mulS (ofS x) (ofS y) t) t
    unfold mulS
    cases (ltB .u64 0#64 (mulHi (ofS x).hi (ofS y).hi) || ltB .u64 t ((ofS x).hi * (ofS y).hi)) with
    | true => exact .inr ⟨.inl rfl, rfl⟩
    | false => exact .inl rfl
  · left
    show (partsS (ofS x) (ofS y)).lo = (partsS (ofS x) (ofS y)).hi
    unfold partsS ofS
    cases hy : (y == 0#64) with
    | true => rfl
    | false => rfl
  · exact .inl (two (leastOr_least mx my) (mostOr_most mx my))
  · exact .inl (two (leastAnd_least mx my) (mostAnd_most mx my))
  · show OneOf 6#64 (shiftS 6#64 (ofS x) (ofS y) n t) t
    unfold shiftS
    rw [shWide_one h]
    show OneOf 6#64 (Sp.mux (ltB .u64 (shI t (shC y n)) x) ⟨0, t⟩ ⟨x <<< amt .i64 (shC y n), x <<< amt .i64 (shC y n)⟩) t
    cases ltB .u64 (shI t (shC y n)) x with
    | true => exact .inr ⟨.inr rfl, rfl⟩
    | false => exact .inl rfl
  · left
    show (shiftS 7#64 (ofS x) (ofS y) n t).lo = (shiftS 7#64 (ofS x) (ofS y) n t).hi
    unfold shiftS
    rw [shWide_one h]
    rfl
  · left
    show (lessS (ofS 0#64) (ofS x) t).lo = (lessS (ofS 0#64) (ofS x) t).hi
    have : lessBad (ofS 0#64) (ofS x) = false := by simp [lessBad, ofS]
    unfold lessS; rw [this]; rfl
  · left
    show (restS (ofS x) (ofS y)).lo = (restS (ofS x) (ofS y)).hi
    have : restC2 (ofS x) (ofS y) = true := by simp [restC2, ofS]
    unfold restS
    rw [this]; rfl
  · exact .inl (two (leastXor_least mx my) (mostXor_most mx my))
  · exact .inl rfl
  · left
    show (shiftS 12#64 (ofS x) (ofS y) n t).lo = (shiftS 12#64 (ofS x) (ofS y) n t).hi
    unfold shiftS
    rw [shWide_one h]
    show (Sp.mux (ltB .u64 x (signOf t)) ⟨shI x (shC y n), shI x (shC y n)⟩ (Sp.mux (ltB .u64 x (signOf t)) ⟨shI x (shC y n), drw x (shC y n) t⟩ ⟨drw x (shC y n) t, drw x (shC y n) t⟩)).lo = _
    cases hs : ltB .u64 x (signOf t) with
    | true => show shI x (shC y n) = (Sp.mux (ltB .u64 x (signOf t)) ⟨shI x (shC y n), shI x (shC y n)⟩ _).hi; rw [hs]; rfl
    | false => show drw x (shC y n) t = (Sp.mux (ltB .u64 x (signOf t)) _ (Sp.mux (ltB .u64 x (signOf t)) _ ⟨drw x (shC y n) t, drw x (shC y n) t⟩)).hi; rw [hs]; rfl

theorem cut_one (x : W) : cutS (ofS x) 32#64 = ofS (x &&& t32) := by
  have e : cutN 32#64 = 32#64 := by decide
  have et : topK 32#64 = t32 := by rw [topK_eq (by decide)]; decide
  have m : mayS (ofS x) = true := mayS_iff.2 (Nat.le_refl _)
  unfold cutS
  rw [m, e, et]
  have : (shI (ofS x).lo 32#64 != shI (ofS x).hi 32#64) = false := by simp [ofS]
  rw [this]
  rfl

theorem alu_one {op : W} (hop : isOp op) (w : Bool) (x y : W) : aluS op w (ofS x) (ofS y) = ofS (oneR op w x y) ∨ ((op = 2#64 ∨ op = 6#64) ∧ aluS op w (ofS x) (ofS y) = ⟨0, bif w then t64 else t32⟩) := by
  have mx : mayS (ofS x) = true := mayS_iff.2 (Nat.le_refl _)
  have my : mayS (ofS y) = true := mayS_iff.2 (Nat.le_refl _)
  have hok := alu_ok hop w mx my (X := x) (Y := y) ⟨Nat.le_refl _, Nat.le_refl _⟩ ⟨Nat.le_refl _, Nat.le_refl _⟩
  have h1 : OneOf op (aluS op w (ofS x) (ofS y)) (bif w then t64 else t32) := by
    unfold aluS
    cases w with
    | true => exact core_one wd64 hop
    | false =>
      show OneOf op (core op (cutS (ofS x) 32#64) (cutS (ofS y) 32#64) 32#64 t32) t32
      rw [cut_one, cut_one]
      exact core_one wd32 hop
  rcases h1 with h1 | h1
  · left
    obtain ⟨⟨k1, k2⟩, _⟩ := hok
    rw [← h1] at k2
    have e : (aluS op w (ofS x) (ofS y)).lo = oneR op w x y := BitVec.eq_of_toNat_eq (by omega)
    have e2 : aluS op w (ofS x) (ofS y) = ⟨(aluS op w (ofS x) (ofS y)).lo, (aluS op w (ofS x) (ofS y)).hi⟩ := rfl
    rw [e2, ← h1, e]; rfl
  · exact .inr h1

def both' (a b : Sp) (x : W) : Bool := hasS a x && hasS b x
def eith (a b : Sp) (x : W) : Bool := hasS a x || hasS b x
def offG (g : Gv) : Bool := ltB .i64 g.op 0#64 || ltB .i64 12#64 g.op
def errO (g : Gv) : W := bif aluBad g.op (ofS g.x) (ofS g.y) then 1#64 else 0#64
def resO (g : Gv) : Sp := Sp.mux (aluBad g.op (ofS g.x) (ofS g.y)) nilS (aluS g.op g.w (ofS g.x) (ofS g.y))
def excO (g : Gv) : Bool := (g.op != 2#64 && g.op != 6#64) || (resO g).lo != 0#64 || ((resO g).hi + 1#64 != 0#64 && (resO g).hi != 4294967295#64)
def oneG (g : Gv) : Bool :=
  bif offG g then errO g == 1#64 && true
  else bif errO g != 0#64 || (!eqS (resO g) (ofS (oneR g.op g.w g.x g.y)) && excO g) then false
  else (both' g.a g.b g.x == ((bif noMeetS g.a g.b then false else true) && hasS (Sp.mux (noMeetS g.a g.b) nilS (meetS g.a g.b)) g.x)) &&
    (!eith g.a g.b g.x || hasS (joinS g.a g.b) g.x) && true

theorem meet_has (a b : Sp) (x : W) : both' a b x = ((bif noMeetS a b then false else true) && hasS (Sp.mux (noMeetS a b) nilS (meetS a b)) x) := by
  have key : both' a b x = true ↔ noMeetS a b = false ∧ hasS (meetS a b) x = true := by
    unfold both'
    rw [Bool.and_eq_true, hasS_iff, hasS_iff, hasS_iff]
    simp only [noMeetS, mayS, leU, meetS, maxU_nat, minU_nat, Bool.or_eq_false_iff, Bool.not_eq_false', decide_eq_true_eq]
    omega
  cases hn : noMeetS a b with
  | true =>
    show both' a b x = (false && _)
    cases hb : both' a b x with
    | false => rfl
    | true => rw [(key.1 hb).1] at hn; cases hn
  | false =>
    show both' a b x = (true && hasS (meetS a b) x)
    rw [Bool.true_and, Bool.eq_iff_iff, key, hn]
    simp
theorem join_has (a b : Sp) (x : W) : (!eith a b x || hasS (joinS a b) x) = true := by
  cases h : eith a b x with
  | false => rfl
  | true =>
    show hasS (joinS a b) x = true
    unfold eith at h
    rw [Bool.or_eq_true, hasS_iff, hasS_iff] at h
    unfold joinS
    cases ha : mayS a <;> cases hb : mayS b
    · exfalso
      have n1 : ¬ a.lo.toNat ≤ a.hi.toNat := fun e => by rw [mayS_iff.2 e] at ha; cases ha
      have n2 : ¬ b.lo.toNat ≤ b.hi.toNat := fun e => by rw [mayS_iff.2 e] at hb; cases hb
      omega
    · have n1 : ¬ a.lo.toNat ≤ a.hi.toNat := fun e => by rw [mayS_iff.2 e] at ha; cases ha
      show hasS b x = true
      rw [hasS_iff]; omega
    · have n2 : ¬ b.lo.toNat ≤ b.hi.toNat := fun e => by rw [mayS_iff.2 e] at hb; cases hb
      show hasS a x = true
      rw [hasS_iff]; omega
    · show hasS ⟨minU a.lo b.lo, maxU a.hi b.hi⟩ x = true
      rw [hasS_iff]
      show (minU a.lo b.lo).toNat ≤ _ ∧ _ ≤ (maxU a.hi b.hi).toNat
      rw [minU_nat, maxU_nat]; omega

theorem oneG_true (g : Gv) : oneG g = true := by
  have mx : mayS (ofS g.x) = true := mayS_iff.2 (Nat.le_refl _)
  have my : mayS (ofS g.y) = true := mayS_iff.2 (Nat.le_refl _)
  have eb : aluBad g.op (ofS g.x) (ofS g.y) = offG g := by
    unfold aluBad offG
    rw [mx, my]; simp
  unfold oneG
  cases ho : offG g with
  | true =>
    unfold errO; rw [eb, ho]; rfl
  | false =>
    have hop : isOp g.op := by
      unfold offG at ho
      rw [Bool.or_eq_false_iff] at ho
      exact good_op ho.1 ho.2
    have e0 : errO g = 0#64 := by unfold errO; rw [eb, ho]; rfl
    have er : resO g = aluS g.op g.w (ofS g.x) (ofS g.y) := by unfold resO; rw [eb, ho]; rfl
    have e1 : (!eqS (resO g) (ofS (oneR g.op g.w g.x g.y)) && excO g) = false := by
      rcases alu_one hop g.w g.x g.y with h | ⟨h1, h2⟩
      · rw [er, h, eqS_self]; rfl
      · have : excO g = false := by
          unfold excO
          rw [er, h2]
          have a1 : (g.op != 2#64 && g.op != 6#64) = false := by rcases h1 with h | h <;> rw [h] <;> rfl
          rw [a1]
          cases g.w <;> rfl
        rw [this, Bool.and_false]
    rw [e0, e1, ← meet_has, join_has]
    simp

end Go.Rf

/- Spans: a greater span on either side makes no lesser one. -/
namespace Go.Rf

/-- One span's ends within another's. -/
def leS (a b : Sp) : Prop := b.lo.toNat ≤ a.lo.toNat ∧ a.hi.toNat ≤ b.hi.toNat
theorem leS.mem {a b : Sp} (h : leS a b) {x : W} (hx : memS a x) : memS b x := ⟨Nat.le_trans h.1 hx.1, Nat.le_trans hx.2 h.2⟩
theorem inS_iff {a b : Sp} : inS a b = true ↔ mayS a = true ∧ leS a b := by
  unfold inS leS
  simp only [leU, Bool.and_eq_true, decide_eq_true_eq]
  constructor
  · rintro ⟨⟨h1, h2⟩, h3⟩; exact ⟨h1, h2, h3⟩
  · rintro ⟨h1, h2, h3⟩; exact ⟨⟨h1, h2⟩, h3⟩

variable {n t : W} {a b a' b' : Sp}

theorem sum_grows (h : Wd n t) (ha : a'.hi.toNat ≤ t.toNat) (hb : b'.hi.toNat ≤ t.toNat) (ma : mayS a = true) (mb : mayS b = true) (la : leS a a') (lb : leS b b') (hs : (sumS a b t).hi.toNat ≤ t.toNat) :
    leS (sumS a b t) (sumS a' b' t) := by
  cases hc : sumBad a' b' t with
  | true =>
    have : sumS a' b' t = ⟨0, t⟩ := by unfold sumS; rw [hc]; rfl
    rw [this]; exact ⟨Nat.zero_le _, hs⟩
  | false =>
    have hn : ¬ sumBad a' b' t = true := by rw [hc]; decide
    have mla := mayS_iff.1 ma
    have mlb := mayS_iff.1 mb
    obtain ⟨a1, a2⟩ := la
    obtain ⟨b1, b2⟩ := lb
    unfold sumBad at hn
    rw [Bool.or_eq_true, carry_eq, carry_eq, bit_ne, ltU, ltU, dec_ne, BitVec.toNat_add, BitVec.toNat_add] at hn
    have i1 := a'.hi.isLt
    have i2 := b'.hi.isLt
    have hc2 : sumBad a b t = false := by
      have : ¬ sumBad a b t = true := by
        unfold sumBad
        rw [Bool.or_eq_true, carry_eq, carry_eq, bit_ne, ltU, ltU, dec_ne, BitVec.toNat_add, BitVec.toNat_add]
        rcases h.cases with ⟨_, e2, e3⟩ | ⟨_, e2, e3⟩ <;> rw [e2] at ha hb hn <;> rw [e2] <;> omega
      simpa using this
    unfold sumS
    rw [hc, hc2]
    have l1 := h.and (a.lo + b.lo)
    have l2 := h.and (a.hi + b.hi)
    have l3 := h.and (a'.lo + b'.lo)
    have l4 := h.and (a'.hi + b'.hi)
    rw [BitVec.toNat_add] at l1 l2 l3 l4
    refine ⟨?_, ?_⟩
    · show ((a'.lo + b'.lo) &&& t).toNat ≤ ((a.lo + b.lo) &&& t).toNat
      rcases h.cases with ⟨_, e2, e3⟩ | ⟨_, e2, e3⟩ <;> rw [e3] at l1 l3 <;> rw [e2] at ha hb hn <;> omega
    · show ((a.hi + b.hi) &&& t).toNat ≤ ((a'.hi + b'.hi) &&& t).toNat
      rcases h.cases with ⟨_, e2, e3⟩ | ⟨_, e2, e3⟩ <;> rw [e3] at l2 l4 <;> rw [e2] at ha hb hn <;> omega

theorem less_grows (h : Wd n t) (ha : a'.hi.toNat ≤ t.toNat) (hb : b'.hi.toNat ≤ t.toNat) (ma : mayS a = true) (mb : mayS b = true) (la : leS a a') (lb : leS b b') (hs : (lessS a b t).hi.toNat ≤ t.toNat) :
    leS (lessS a b t) (lessS a' b' t) := by
  cases hc : lessBad a' b' with
  | true =>
    have : lessS a' b' t = ⟨0, t⟩ := by unfold lessS; rw [hc]; rfl
    rw [this]; exact ⟨Nat.zero_le _, hs⟩
  | false =>
    have hn : ¬ lessBad a' b' = true := by rw [hc]; decide
    have mla := mayS_iff.1 ma
    have mlb := mayS_iff.1 mb
    obtain ⟨a1, a2⟩ := la
    obtain ⟨b1, b2⟩ := lb
    unfold lessBad at hn
    rw [borrow_eq, borrow_eq, bit_ne] at hn
    have i1 := a'.hi.isLt
    have i2 := b'.hi.isLt
    have hc2 : lessBad a b = false := by
      have : ¬ lessBad a b = true := by
        unfold lessBad
        rw [borrow_eq, borrow_eq, bit_ne]
        omega
      simpa using this
    unfold lessS
    rw [hc, hc2]
    have l1 := h.and (a.lo - b.hi)
    have l2 := h.and (a.hi - b.lo)
    have l3 := h.and (a'.lo - b'.hi)
    have l4 := h.and (a'.hi - b'.lo)
    rw [BitVec.toNat_sub] at l1 l2 l3 l4
    refine ⟨?_, ?_⟩
    · show ((a'.lo - b'.hi) &&& t).toNat ≤ ((a.lo - b.hi) &&& t).toNat
      rcases h.cases with ⟨_, e2, e3⟩ | ⟨_, e2, e3⟩ <;> rw [e3] at l1 l3 <;> rw [e2] at ha hb <;> omega
    · show ((a.hi - b.lo) &&& t).toNat ≤ ((a'.hi - b'.lo) &&& t).toNat
      rcases h.cases with ⟨_, e2, e3⟩ | ⟨_, e2, e3⟩ <;> rw [e3] at l2 l4 <;> rw [e2] at ha hb <;> omega

theorem mul_grows (h : Wd n t) (ma : mayS a = true) (mb : mayS b = true) (la : leS a a') (lb : leS b b') (hs : (mulS a b t).hi.toNat ≤ t.toNat) : leS (mulS a b t) (mulS a' b' t) := by
  cases hc : (ltB .u64 0#64 (mulHi a'.hi b'.hi) || ltB .u64 t (a'.hi * b'.hi)) with
  | true =>
    have : mulS a' b' t = ⟨0, t⟩ := by unfold mulS; rw [hc]; rfl
    rw [this]; exact ⟨Nat.zero_le _, hs⟩
  | false =>
    obtain ⟨g1, g2⟩ := mulS_good h hc
    have mla := mayS_iff.1 ma
    have mlb := mayS_iff.1 mb
    have m1 : a.hi.toNat * b.hi.toNat ≤ a'.hi.toNat * b'.hi.toNat := Nat.mul_le_mul la.2 lb.2
    have m2 : a.lo.toNat * b.lo.toNat ≤ a.hi.toNat * b.hi.toNat := Nat.mul_le_mul mla mlb
    have m3 : a'.lo.toNat * b'.lo.toNat ≤ a.lo.toNat * b.lo.toNat := Nat.mul_le_mul la.1 lb.1
    have hc2 : (ltB .u64 0#64 (mulHi a.hi b.hi) || ltB .u64 t (a.hi * b.hi)) = false := by
      have z : (0#64 : W).toNat = 0 := rfl
      rw [ltU, ltU, mulHi_nat, BitVec.toNat_mul, Bool.or_eq_false_iff, decide_eq_false_iff_not, decide_eq_false_iff_not, z]
      generalize a.hi.toNat * b.hi.toNat = p at *
      omega
    have e1 : (a.lo * b.lo).toNat = a.lo.toNat * b.lo.toNat := by rw [BitVec.toNat_mul, Nat.mod_eq_of_lt (by omega)]
    have e2 : (a.hi * b.hi).toNat = a.hi.toNat * b.hi.toNat := by rw [BitVec.toNat_mul, Nat.mod_eq_of_lt (by omega)]
    have e3 : (a'.lo * b'.lo).toNat = a'.lo.toNat * b'.lo.toNat := by rw [BitVec.toNat_mul, Nat.mod_eq_of_lt (by omega)]
    have e4 : (a'.hi * b'.hi).toNat = a'.hi.toNat * b'.hi.toNat := by rw [BitVec.toNat_mul, Nat.mod_eq_of_lt (by omega)]
    unfold mulS
    rw [hc, hc2]
    exact ⟨by show (a'.lo * b'.lo).toNat ≤ (a.lo * b.lo).toNat; omega, by show (a.hi * b.hi).toNat ≤ (a'.hi * b'.hi).toNat; omega⟩

theorem parts_hi (a b : Sp) : (partsS a b).hi.toNat ≤ a.hi.toNat := by
  unfold partsS
  cases b.hi == 0#64 with
  | true => exact Nat.zero_le _
  | false =>
    cases b.lo == 0#64 with
    | true => exact Nat.le_refl _
    | false =>
      show (quoW a.hi b.lo).toNat ≤ _
      rw [quoW_nat]; exact Nat.div_le_self _ _
theorem parts_grows (ma : mayS a = true) (mb : mayS b = true) (la : leS a a') (lb : leS b b') : leS (partsS a b) (partsS a' b') := by
  have mla := mayS_iff.1 ma
  have mlb := mayS_iff.1 mb
  have hh := parts_hi a b
  obtain ⟨a1, a2⟩ := la
  obtain ⟨b1, b2⟩ := lb
  by_cases h1 : b'.hi.toNat = 0
  · have e : partsS a b = nilS := by
      unfold partsS; rw [eq0, decide_eq_true (show b.hi.toNat = 0 by omega)]; rfl
    rw [e]
    exact ⟨by
      have : partsS a' b' = nilS := by unfold partsS; rw [eq0, decide_eq_true h1]; rfl
      rw [this]; exact Nat.le_refl _, Nat.zero_le _⟩
  · by_cases h2 : b'.lo.toNat = 0
    · have : partsS a' b' = ⟨0, a'.hi⟩ := by
        unfold partsS; rw [eq0, eq0, decide_eq_false h1, decide_eq_true h2]; rfl
      rw [this]
      exact ⟨Nat.zero_le _, by show (partsS a b).hi.toNat ≤ a'.hi.toNat; omega⟩
    · have e1 : partsS a' b' = ⟨quoW a'.lo b'.hi, quoW a'.hi b'.lo⟩ := by
        unfold partsS; rw [eq0, eq0, decide_eq_false h1, decide_eq_false h2]; rfl
      have e2 : partsS a b = ⟨quoW a.lo b.hi, quoW a.hi b.lo⟩ := by
        unfold partsS; rw [eq0, eq0, decide_eq_false (show ¬ b.hi.toNat = 0 by omega), decide_eq_false (show ¬ b.lo.toNat = 0 by omega)]; rfl
      rw [e1, e2]
      refine ⟨?_, ?_⟩
      · show (quoW a'.lo b'.hi).toNat ≤ (quoW a.lo b.hi).toNat
        rw [quoW_nat, quoW_nat]; exact Nat.div_le_div a1 b2 (by omega)
      · show (quoW a.hi b.lo).toNat ≤ (quoW a'.hi b'.lo).toNat
        rw [quoW_nat, quoW_nat]; exact Nat.div_le_div a2 b1 (by omega)

theorem rest_hi (a b : Sp) : (restS a b).hi.toNat ≤ a.hi.toNat ∧ (restC1 a b = false → (b.lo.toNat = b.hi.toNat ∨ b.lo.toNat ≠ 0) → b.lo.toNat ≤ b.hi.toNat → (restS a b).hi.toNat ≤ b.hi.toNat - 1) := by
  unfold restS
  cases h1 : restC1 a b with
  | true => exact ⟨Nat.le_refl _, fun h => by cases h⟩
  | false =>
    have h1' := h1
    unfold restC1 at h1'
    rw [eq0, ltU, Bool.or_eq_false_iff, decide_eq_false_iff_not, decide_eq_false_iff_not] at h1'
    cases h2 : restC2 a b with
    | true =>
      have h2' := h2
      unfold restC2 at h2'
      simp only [Bool.and_eq_true, beq_iff_eq, ← BitVec.toNat_inj] at h2'
      refine ⟨?_, fun _ _ _ => ?_⟩
      · show (remW a.hi b.lo).toNat ≤ _
        rw [remW_nat]; exact Nat.mod_le _ _
      · show (remW a.hi b.lo).toNat ≤ _
        rw [remW_nat]
        have := Nat.mod_lt a.hi.toNat (show b.lo.toNat > 0 by omega)
        omega
    | false =>
      rw [eq0]
      by_cases h3 : b.lo.toNat = 0
      · rw [decide_eq_true h3]
        refine ⟨Nat.le_refl _, fun _ hor _ => ?_⟩
        omega
      · rw [decide_eq_false h3]
        have hm : (minU a.hi (b.hi - 1#64)).toNat = min a.hi.toNat (b.hi.toNat - 1) := by
          rw [minU_nat, BitVec.toNat_sub]
          have := b.hi.isLt
          have e1 : (1#64 : W).toNat = 1 := rfl
          congr 1
          omega
        refine ⟨?_, fun _ _ _ => ?_⟩
        · show (minU a.hi (b.hi - 1#64)).toNat ≤ _; omega
        · show (minU a.hi (b.hi - 1#64)).toNat ≤ _; omega

theorem rest_grows (ma : mayS a = true) (mb : mayS b = true) (la : leS a a') (lb : leS b b') : leS (restS a b) (restS a' b') := by
  have mla := mayS_iff.1 ma
  have mlb := mayS_iff.1 mb
  obtain ⟨hh1, hh2⟩ := rest_hi a b
  obtain ⟨a1, a2⟩ := la
  obtain ⟨b1, b2⟩ := lb
  cases h1 : restC1 a' b' with
  | true =>
    have h1' := h1
    unfold restC1 at h1'
    rw [eq0, ltU, Bool.or_eq_true, decide_eq_true_eq, decide_eq_true_eq] at h1'
    have h2 : restC1 a b = true := by
      unfold restC1
      rw [eq0, ltU, Bool.or_eq_true, decide_eq_true_eq, decide_eq_true_eq]
      omega
    unfold restS
    rw [h1, h2]
    exact ⟨a1, a2⟩
  | false =>
    have h1' := h1
    unfold restC1 at h1'
    rw [eq0, ltU, Bool.or_eq_false_iff, decide_eq_false_iff_not, decide_eq_false_iff_not] at h1'
    cases h2 : restC2 a' b' with
    | true =>
      have h2' := h2
      unfold restC2 at h2'
      simp only [Bool.and_eq_true, beq_iff_eq, ← BitVec.toNat_inj, quoW_nat] at h2'
      obtain ⟨e1, e2⟩ := h2'
      have el : b.lo.toNat = b'.lo.toNat := by omega
      have eh : b.hi.toNat = b'.lo.toNat := by omega
      have hp : 0 < b'.lo.toNat := by omega
      have q1 : a'.lo.toNat / b'.lo.toNat ≤ a.lo.toNat / b'.lo.toNat := Nat.div_le_div_right a1
      have q2 : a.lo.toNat / b'.lo.toNat ≤ a.hi.toNat / b'.lo.toNat := Nat.div_le_div_right mla
      have q3 : a.hi.toNat / b'.lo.toNat ≤ a'.hi.toNat / b'.lo.toNat := Nat.div_le_div_right a2
      have q4 : 1 ≤ a'.hi.toNat / b'.lo.toNat := (Nat.one_le_div_iff hp).2 (by omega)
      have hge : b'.lo.toNat ≤ a.hi.toNat := (Nat.one_le_div_iff hp).1 (by omega)
      have c1 : restC1 a b = false := by
        unfold restC1
        rw [eq0, ltU, Bool.or_eq_false_iff, decide_eq_false_iff_not, decide_eq_false_iff_not]
        omega
      have c2 : restC2 a b = true := by
        unfold restC2
        simp only [Bool.and_eq_true, beq_iff_eq, ← BitVec.toNat_inj, quoW_nat, el]
        omega
      have d1 := Nat.div_add_mod a'.lo.toNat b'.lo.toNat
      have d2 := Nat.div_add_mod a.lo.toNat b'.lo.toNat
      have d3 := Nat.div_add_mod a.hi.toNat b'.lo.toNat
      have d4 := Nat.div_add_mod a'.hi.toNat b'.lo.toNat
      rw [e2] at d1
      rw [show a.lo.toNat / b'.lo.toNat = a'.hi.toNat / b'.lo.toNat by omega] at d2
      rw [show a.hi.toNat / b'.lo.toNat = a'.hi.toNat / b'.lo.toNat by omega] at d3
      unfold restS
      rw [h1, h2, c1, c2]
      refine ⟨?_, ?_⟩
      · show (remW a'.lo b'.lo).toNat ≤ (remW a.lo b.lo).toNat
        rw [remW_nat, remW_nat, el]; omega
      · show (remW a.hi b.lo).toNat ≤ (remW a'.hi b'.lo).toNat
        rw [remW_nat, remW_nat, el]; omega
    | false =>
      by_cases h3 : b'.lo.toNat = 0
      · have e : restS a' b' = ⟨0#64, a'.hi⟩ := by
          unfold restS; rw [h1, h2, eq0, decide_eq_true h3]; rfl
        rw [e]
        exact ⟨Nat.zero_le _, by show (restS a b).hi.toNat ≤ a'.hi.toNat; omega⟩
      · have e : restS a' b' = ⟨0#64, minU a'.hi (b'.hi - 1#64)⟩ := by
          unfold restS; rw [h1, h2, eq0, decide_eq_false h3]; rfl
        have hm : (minU a'.hi (b'.hi - 1#64)).toNat = min a'.hi.toNat (b'.hi.toNat - 1) := by
          rw [minU_nat, BitVec.toNat_sub]
          have := b'.hi.isLt
          have e1 : (1#64 : W).toNat = 1 := rfl
          congr 1
          omega
        rw [e]
        refine ⟨Nat.zero_le _, ?_⟩
        show (restS a b).hi.toNat ≤ (minU a'.hi (b'.hi - 1#64)).toNat
        cases hc : restC1 a b with
        | true =>
          have hc' := hc
          unfold restC1 at hc'
          rw [eq0, ltU, Bool.or_eq_true, decide_eq_true_eq, decide_eq_true_eq] at hc'
          have : (restS a b).hi = a.hi := by unfold restS; rw [hc]; rfl
          rw [this]; omega
        | false =>
          have := hh2 hc (.inr (by omega)) mlb
          omega

theorem shTo_grows (h : Wd n t) (op : W) (hop : op = 6#64 ∨ op = 7#64 ∨ op = 12#64) {c d c' d' : W} (hd : d'.toNat < n.toNat) (hc : c'.toNat ≤ c.toNat) (hcd : c.toNat ≤ d.toNat) (hdd : d.toNat ≤ d'.toNat)
    (ha : a'.hi.toNat ≤ t.toNat) (ma : mayS a = true) (la : leS a a') (hs : (shTo op a c d t).hi.toNat ≤ t.toNat) : leS (shTo op a c d t) (shTo op a' c' d' t) := by
  have hn := h.n64
  have c64 : c.toNat < 64 := by omega
  have d64 : d.toNat < 64 := by omega
  have c64' : c'.toNat < 64 := by omega
  have d64' : d'.toNat < 64 := by omega
  have mla := mayS_iff.1 ma
  obtain ⟨a1, a2⟩ := la
  have p1 : 2 ^ c'.toNat ≤ 2 ^ c.toNat := Nat.pow_le_pow_right (by decide) hc
  have p2 : 2 ^ c.toNat ≤ 2 ^ d.toNat := Nat.pow_le_pow_right (by decide) hcd
  have p3 : 2 ^ d.toNat ≤ 2 ^ d'.toNat := Nat.pow_le_pow_right (by decide) hdd
  have p0 := Nat.two_pow_pos c'.toNat
  have htl := t.isLt
  rcases hop with rfl | rfl | rfl
  · have e : shTo 6#64 a' c' d' t = Sp.mux (ltB .u64 (shI t d') a'.hi) ⟨0, t⟩ ⟨a'.lo <<< amt .i64 c', a'.hi <<< amt .i64 d'⟩ := rfl
    have e2 : shTo 6#64 a c d t = Sp.mux (ltB .u64 (shI t d) a.hi) ⟨0, t⟩ ⟨a.lo <<< amt .i64 c, a.hi <<< amt .i64 d⟩ := rfl
    rw [e]
    by_cases hb : t.toNat / 2 ^ d'.toNat < a'.hi.toNat
    · rw [ltU, shI_nat t d64', decide_eq_true hb]
      exact ⟨Nat.zero_le _, hs⟩
    · rw [ltU, shI_nat t d64', decide_eq_false hb]
      have g1 : a'.hi.toNat * 2 ^ d'.toNat ≤ t.toNat := (Nat.le_div_iff_mul_le (Nat.two_pow_pos _)).1 (by omega)
      have g2 : a.hi.toNat * 2 ^ d.toNat ≤ a'.hi.toNat * 2 ^ d'.toNat := Nat.mul_le_mul a2 p3
      have g3 : a.lo.toNat * 2 ^ c.toNat ≤ a.hi.toNat * 2 ^ d.toNat := Nat.mul_le_mul mla p2
      have g4 : a'.lo.toNat * 2 ^ c'.toNat ≤ a.lo.toNat * 2 ^ c.toNat := Nat.mul_le_mul a1 p1
      have hb2 : ¬ t.toNat / 2 ^ d.toNat < a.hi.toNat := by
        have : a.hi.toNat ≤ t.toNat / 2 ^ d.toNat := (Nat.le_div_iff_mul_le (Nat.two_pow_pos _)).2 (by omega)
        omega
      rw [e2, ltU, shI_nat t d64, decide_eq_false hb2]
      refine ⟨?_, ?_⟩
      · show (a'.lo <<< amt .i64 c').toNat ≤ (a.lo <<< amt .i64 c).toNat
        rw [shl_nat _ c64', shl_nat _ c64, Nat.mod_eq_of_lt (by omega), Nat.mod_eq_of_lt (by omega)]; exact g4
      · show (a.hi <<< amt .i64 d).toNat ≤ (a'.hi <<< amt .i64 d').toNat
        rw [shl_nat _ d64', shl_nat _ d64, Nat.mod_eq_of_lt (by omega), Nat.mod_eq_of_lt (by omega)]; exact g2
  · show leS ⟨shI a.lo d, shI a.hi c⟩ ⟨shI a'.lo d', shI a'.hi c'⟩
    refine ⟨?_, ?_⟩
    · show (shI a'.lo d').toNat ≤ (shI a.lo d).toNat
      rw [shI_nat _ d64, shI_nat _ d64']; exact Nat.div_le_div a1 p3 (by omega)
    · show (shI a.hi c).toNat ≤ (shI a'.hi c').toNat
      rw [shI_nat _ c64, shI_nat _ c64']; exact Nat.div_le_div a2 p1 (by omega)
  · show leS (Sp.mux (ltB .u64 a.hi (signOf t)) ⟨shI a.lo d, shI a.hi c⟩ (Sp.mux (ltB .u64 a.lo (signOf t)) ⟨shI a.lo d, drw a.hi d t⟩ ⟨drw a.lo c t, drw a.hi d t⟩))
      (Sp.mux (ltB .u64 a'.hi (signOf t)) ⟨shI a'.lo d', shI a'.hi c'⟩ (Sp.mux (ltB .u64 a'.lo (signOf t)) ⟨shI a'.lo d', drw a'.hi d' t⟩ ⟨drw a'.lo c' t, drw a'.hi d' t⟩))
    rw [ltU, ltU, ltU, ltU, sign_nat h]
    have x1 := drw_nat h (x := a.hi) (k := d) (by omega) (by omega)
    have x2 := drw_nat h (x := a.lo) (k := c) (by omega) (by omega)
    have x3 := drw_nat h (x := a'.hi) (k := d') (by omega) (by omega)
    have x4 := drw_nat h (x := a'.lo) (k := c') (by omega) (by omega)
    have s1 := shI_nat a.lo d64
    have s2 := shI_nat a.hi c64
    have s3 := shI_nat a'.lo d64'
    have s4 := shI_nat a'.hi c64'
    have n1 : a'.lo.toNat / 2 ^ d'.toNat ≤ a.lo.toNat / 2 ^ d.toNat := Nat.div_le_div a1 p3 (by omega)
    have n2 : a.hi.toNat / 2 ^ c.toNat ≤ a'.hi.toNat / 2 ^ c'.toNat := Nat.div_le_div a2 p1 (by omega)
    have n3 : (t.toNat - a'.hi.toNat) / 2 ^ d'.toNat ≤ (t.toNat - a.hi.toNat) / 2 ^ d.toNat := Nat.div_le_div (by omega) p3 (by omega)
    have n4 : (t.toNat - a.lo.toNat) / 2 ^ c.toNat ≤ (t.toNat - a'.lo.toNat) / 2 ^ c'.toNat := Nat.div_le_div (by omega) p1 (by omega)
    have n5 : a.hi.toNat / 2 ^ c.toNat ≤ a.hi.toNat := Nat.div_le_self _ _
    have n6 : (t.toNat - a'.hi.toNat) / 2 ^ d'.toNat ≤ t.toNat - a'.hi.toNat := Nat.div_le_self _ _
    have n7 : a'.lo.toNat / 2 ^ d'.toNat ≤ a'.lo.toNat := Nat.div_le_self _ _
    have n8 : (t.toNat - a.lo.toNat) / 2 ^ c.toNat ≤ t.toNat - a.lo.toNat := Nat.div_le_self _ _
    generalize a.lo.toNat / 2 ^ d.toNat = q1 at *
    generalize a.hi.toNat / 2 ^ c.toNat = q2 at *
    generalize a'.lo.toNat / 2 ^ d'.toNat = q3 at *
    generalize a'.hi.toNat / 2 ^ c'.toNat = q4 at *
    generalize (t.toNat - a.hi.toNat) / 2 ^ d.toNat = q5 at *
    generalize (t.toNat - a.lo.toNat) / 2 ^ c.toNat = q6 at *
    generalize (t.toNat - a'.hi.toNat) / 2 ^ d'.toNat = q7 at *
    generalize (t.toNat - a'.lo.toNat) / 2 ^ c'.toNat = q8 at *
    have lo' : (Sp.mux (decide (a'.hi.toNat < t.toNat / 2 + 1)) ⟨shI a'.lo d', shI a'.hi c'⟩ (Sp.mux (decide (a'.lo.toNat < t.toNat / 2 + 1)) ⟨shI a'.lo d', drw a'.hi d' t⟩ ⟨drw a'.lo c' t, drw a'.hi d' t⟩)).lo.toNat = if a'.hi.toNat < t.toNat / 2 + 1 then q3 else if a'.lo.toNat < t.toNat / 2 + 1 then q3 else t.toNat - q8 := by
      by_cases h1 : a'.hi.toNat < t.toNat / 2 + 1 <;> by_cases h2 : a'.lo.toNat < t.toNat / 2 + 1 <;> simp [h1, h2, Sp.mux, s3, x4]
    have hi' : (Sp.mux (decide (a'.hi.toNat < t.toNat / 2 + 1)) ⟨shI a'.lo d', shI a'.hi c'⟩ (Sp.mux (decide (a'.lo.toNat < t.toNat / 2 + 1)) ⟨shI a'.lo d', drw a'.hi d' t⟩ ⟨drw a'.lo c' t, drw a'.hi d' t⟩)).hi.toNat = if a'.hi.toNat < t.toNat / 2 + 1 then q4 else t.toNat - q7 := by
      by_cases h1 : a'.hi.toNat < t.toNat / 2 + 1 <;> by_cases h2 : a'.lo.toNat < t.toNat / 2 + 1 <;> simp [h1, h2, Sp.mux, s4, x3]
    have lo : (Sp.mux (decide (a.hi.toNat < t.toNat / 2 + 1)) ⟨shI a.lo d, shI a.hi c⟩ (Sp.mux (decide (a.lo.toNat < t.toNat / 2 + 1)) ⟨shI a.lo d, drw a.hi d t⟩ ⟨drw a.lo c t, drw a.hi d t⟩)).lo.toNat = if a.hi.toNat < t.toNat / 2 + 1 then q1 else if a.lo.toNat < t.toNat / 2 + 1 then q1 else t.toNat - q6 := by
      by_cases h1 : a.hi.toNat < t.toNat / 2 + 1 <;> by_cases h2 : a.lo.toNat < t.toNat / 2 + 1 <;> simp [h1, h2, Sp.mux, s1, x2]
    have hi : (Sp.mux (decide (a.hi.toNat < t.toNat / 2 + 1)) ⟨shI a.lo d, shI a.hi c⟩ (Sp.mux (decide (a.lo.toNat < t.toNat / 2 + 1)) ⟨shI a.lo d, drw a.hi d t⟩ ⟨drw a.lo c t, drw a.hi d t⟩)).hi.toNat = if a.hi.toNat < t.toNat / 2 + 1 then q2 else t.toNat - q5 := by
      by_cases h1 : a.hi.toNat < t.toNat / 2 + 1 <;> by_cases h2 : a.lo.toNat < t.toNat / 2 + 1 <;> simp [h1, h2, Sp.mux, s2, x1]
    refine ⟨?_, ?_⟩
    · rw [lo', lo]
      split <;> split <;> (try split) <;> (try split) <;> omega
    · rw [hi', hi]
      split <;> split <;> omega

theorem shift_grows (h : Wd n t) (op : W) (hop : op = 6#64 ∨ op = 7#64 ∨ op = 12#64) (ha : a'.hi.toNat ≤ t.toNat) (ma : mayS a = true) (mb : mayS b = true) (la : leS a a') (lb : leS b b')
    (hs : (shiftS op a b n t).hi.toNat ≤ t.toNat) : leS (shiftS op a b n t) (shiftS op a' b' n t) := by
  have hn := h.n64
  have mlb := mayS_iff.1 mb
  have mb' : mayS b' = true := mayS_iff.2 (by have := lb.1; have := lb.2; omega)
  have e1 : (n - 1#64).toNat = n.toNat - 1 := by rcases h.nn with e | e <;> rw [e] <;> decide
  have z0 : (0#64 : W).toNat = 0 := rfl
  have cl := shC_nat b.lo n h.nn
  have ch := shC_nat b.hi n h.nn
  have mh := Nat.mod_lt b.hi.toNat (show n.toNat > 0 by omega)
  have ml := Nat.mod_lt b.lo.toNat (show n.toNat > 0 by omega)
  cases hw' : shWide b' n with
  | true =>
    have er : shiftS op a' b' n t = shTo op a' 0#64 (n - 1#64) t := by unfold shiftS; rw [hw']; rfl
    rw [er]
    cases hw : shWide b n with
    | true =>
      have el : shiftS op a b n t = shTo op a 0#64 (n - 1#64) t := by unfold shiftS; rw [hw]; rfl
      rw [el] at hs ⊢
      exact shTo_grows h op hop (by omega) (Nat.le_refl _) (by omega) (Nat.le_refl _) ha ma la hs
    | false =>
      have el : shiftS op a b n t = shTo op a (shC b.lo n) (shC b.hi n) t := by unfold shiftS; rw [hw]; rfl
      rw [el] at hs ⊢
      obtain ⟨u, v, w⟩ := (count_ok h mb (memS_lo mb)).2 hw
      exact shTo_grows h op hop (by omega) (by omega) (by omega) (by omega) ha ma la hs
  | false =>
    have er : shiftS op a' b' n t = shTo op a' (shC b'.lo n) (shC b'.hi n) t := by unfold shiftS; rw [hw']; rfl
    have l1 := (count_ok h mb' (lb.mem (memS_lo mb))).2 hw'
    have l2 := (count_ok h mb' (lb.mem (memS_hi mb))).2 hw'
    have cl' := shC_nat b'.lo n h.nn
    have ch' := shC_nat b'.hi n h.nn
    have hu : (toUS n).toNat = n.toNat := by
      unfold toUS
      show ((n.signExtend 64 : W)).toNat = _
      rw [BitVec.signExtend_eq]
    have hw : shWide b n = false := by
      unfold shWide at hw' ⊢
      rw [leU, hu, sub_nat mb', ltB_nat (by omega) (by omega), Bool.or_eq_false_iff, decide_eq_false_iff_not, decide_eq_false_iff_not, cl', ch'] at hw'
      rw [leU, hu, sub_nat mb, ltB_nat (by omega) (by omega), Bool.or_eq_false_iff, decide_eq_false_iff_not, decide_eq_false_iff_not, cl, ch]
      have b1 := lb.1
      have b2 := lb.2
      have key := cut_core b'.lo.toNat b'.hi.toNat n.toNat (by omega) (mayS_iff.1 mb')
      have hq : b'.lo.toNat / n.toNat = b'.hi.toNat / n.toNat := by
        by_cases e : b'.lo.toNat / n.toNat = b'.hi.toNat / n.toNat
        · exact e
        · rcases key.1 e with h1 | h1 <;> omega
      have q1 : b'.lo.toNat / n.toNat ≤ b.lo.toNat / n.toNat := Nat.div_le_div_right b1
      have q2 : b.lo.toNat / n.toNat ≤ b.hi.toNat / n.toNat := Nat.div_le_div_right mlb
      have q3 : b.hi.toNat / n.toNat ≤ b'.hi.toNat / n.toNat := Nat.div_le_div_right b2
      have key2 := cut_core b.lo.toNat b.hi.toNat n.toNat (by omega) mlb
      have hq2 : b.lo.toNat / n.toNat = b.hi.toNat / n.toNat := by omega
      have : ¬ (n.toNat - 1 < b.hi.toNat - b.lo.toNat ∨ b.hi.toNat % n.toNat < b.lo.toNat % n.toNat) := fun h => key2.2 h hq2
      omega
    have el : shiftS op a b n t = shTo op a (shC b.lo n) (shC b.hi n) t := by unfold shiftS; rw [hw]; rfl
    obtain ⟨u, v, w⟩ := (count_ok h mb (memS_lo mb)).2 hw
    rw [er]
    rw [el] at hs ⊢
    exact shTo_grows h op hop l1.2.2 (by omega) (by omega) (by omega) ha ma la hs

theorem bit_grows {f : W → W → W} {l m l' m' : W} (hl : Least a b f l) (hm : Most a b f m) (hl' : Least a' b' f l') (hm' : Most a' b' f m') (la : leS a a') (lb : leS b b') : leS ⟨l, m⟩ ⟨l', m'⟩ := by
  obtain ⟨x, y, hx, hy, e⟩ := hl.2
  obtain ⟨x', y', hx', hy', e'⟩ := hm.2
  exact ⟨by show l'.toNat ≤ l.toNat; rw [e]; exact hl'.1 x y (la.mem hx) (lb.mem hy), by show m.toNat ≤ m'.toNat; rw [e']; exact hm'.1 x' y' (la.mem hx') (lb.mem hy')⟩

theorem core_grows (h : Wd n t) {op : W} (hop : isOp op) (ma : mayS a = true) (mb : mayS b = true) (la : leS a a') (lb : leS b b') (ha : a'.hi.toNat ≤ t.toNat) (hb : b'.hi.toNat ≤ t.toNat) :
    leS (core op a b n t) (core op a' b' n t) := by
  have ma' : mayS a' = true := mayS_iff.2 (by have := la.1; have := la.2; have := mayS_iff.1 ma; omega)
  have mb' : mayS b' = true := mayS_iff.2 (by have := lb.1; have := lb.2; have := mayS_iff.1 mb; omega)
  have hs := (core_ok h hop ma mb (Nat.le_trans la.2 ha) (Nat.le_trans lb.2 hb) (memS_lo ma) (memS_lo mb)).2
  rcases hop with rfl | rfl | rfl | rfl | rfl | rfl | rfl | rfl | rfl | rfl | rfl | rfl | rfl
  · exact sum_grows h ha hb ma mb la lb hs
  · exact less_grows h ha hb ma mb la lb hs
  · exact mul_grows h ma mb la lb hs
  · exact parts_grows ma mb la lb
  · exact bit_grows (leastOr_least ma mb) (mostOr_most ma mb) (leastOr_least ma' mb') (mostOr_most ma' mb') la lb
  · exact bit_grows (leastAnd_least ma mb) (mostAnd_most ma mb) (leastAnd_least ma' mb') (mostAnd_most ma' mb') la lb
  · exact shift_grows h 6#64 (.inl rfl) ha ma mb la lb hs
  · exact shift_grows h 7#64 (.inr (.inl rfl)) ha ma mb la lb hs
  · exact less_grows (a := ofS 0#64) (a' := ofS 0#64) (b := a) (b' := a') h (Nat.zero_le _) ha (mayS_iff.2 (Nat.le_refl _)) ma ⟨Nat.le_refl _, Nat.le_refl _⟩ la hs
  · exact rest_grows ma mb la lb
  · exact bit_grows (leastXor_least ma mb) (mostXor_most ma mb) (leastXor_least ma' mb') (mostXor_most ma' mb') la lb
  · exact lb
  · exact shift_grows h 12#64 (.inr (.inr rfl)) ha ma mb la lb hs
end Go.Rf

/- Spans: SpanGrows, plain. -/
namespace Go.Rf

theorem cut_any {s : Sp} (hs : mayS s = true) (n : W) (hk : cutN n ≠ 64#64) : ∃ k, k < 64 ∧ cutS s n = Sp.mux (decide (s.lo.toNat / 2 ^ k ≠ s.hi.toNat / 2 ^ k)) ⟨0, ones' k⟩ ⟨s.lo &&& ones' k, s.hi &&& ones' k⟩ ∧ k = (cutN n).toNat := by
  have hc := cutN_int n
  have h0 : 0 ≤ (cutN n).toInt := by rw [hc]; omega
  have hn := nat_of_int h0
  have h64 : (cutN n).toNat ≠ 64 := fun e => hk (BitVec.eq_of_toNat_eq e)
  have hlt : (cutN n).toNat < 64 := by omega
  refine ⟨_, hlt, ?_, rfl⟩
  have ne : (cutN n == 64#64) = false := by rw [beq_eq_false_iff_ne]; exact hk
  unfold cutS
  rw [hs, ne, topK_eq h0]
  show Sp.mux (shI s.lo (cutN n) != shI s.hi (cutN n)) _ _ = _
  congr 1
  rw [Bool.eq_iff_iff, bne_iff_ne, Ne, ← BitVec.toNat_inj, shI_nat _ hlt, shI_nat _ hlt, decide_eq_true_eq]

theorem cut_grows {s s' : Sp} (hs : mayS s = true) (hle : leS s s') (n : W) : leS (cutS s n) (cutS s' n) ∧ mayS (cutS s n) = true := by
  have ml := mayS_iff.1 hs
  have hs' : mayS s' = true := mayS_iff.2 (by have := hle.1; have := hle.2; omega)
  obtain ⟨l1, l2⟩ := hle
  by_cases hk : cutN n = 64#64
  · have e : ∀ {u : Sp}, mayS u = true → cutS u n = u := fun {u} hu => by
      unfold cutS
      rw [hu, hk]; rfl
    rw [e hs, e hs']
    exact ⟨⟨l1, l2⟩, hs⟩
  · obtain ⟨k, hk1, e1, ek⟩ := cut_any hs n hk
    obtain ⟨k', hk1', e1', ek'⟩ := cut_any hs' n hk
    have : k' = k := by rw [ek, ek']
    subst this
    rw [e1, e1']
    have q1 : s'.lo.toNat / 2 ^ k' ≤ s.lo.toNat / 2 ^ k' := Nat.div_le_div_right l1
    have q2 : s.lo.toNat / 2 ^ k' ≤ s.hi.toNat / 2 ^ k' := Nat.div_le_div_right ml
    have q3 : s.hi.toNat / 2 ^ k' ≤ s'.hi.toNat / 2 ^ k' := Nat.div_le_div_right l2
    have m1 := and_ones s.lo (show k' ≤ 64 by omega)
    have m2 := and_ones s.hi (show k' ≤ 64 by omega)
    have m3 := and_ones s'.lo (show k' ≤ 64 by omega)
    have m4 := and_ones s'.hi (show k' ≤ 64 by omega)
    have on := ones_nat (show k' ≤ 64 by omega)
    have hp := Nat.two_pow_pos k'
    have d1 := Nat.div_add_mod s.lo.toNat (2 ^ k')
    have d2 := Nat.div_add_mod s.hi.toNat (2 ^ k')
    have d3 := Nat.div_add_mod s'.lo.toNat (2 ^ k')
    have d4 := Nat.div_add_mod s'.hi.toNat (2 ^ k')
    have b2 := Nat.mod_lt s.hi.toNat hp
    have hi_le : (Sp.mux (decide (s.lo.toNat / 2 ^ k' ≠ s.hi.toNat / 2 ^ k')) ⟨0, ones' k'⟩ ⟨s.lo &&& ones' k', s.hi &&& ones' k'⟩).hi.toNat ≤ (ones' k').toNat := by
      by_cases h : s.lo.toNat / 2 ^ k' ≠ s.hi.toNat / 2 ^ k'
      · rw [decide_eq_true h]; exact Nat.le_refl _
      · rw [decide_eq_false h]
        show (s.hi &&& ones' k').toNat ≤ _
        omega
    refine ⟨?_, ?_⟩
    · by_cases h' : s'.lo.toNat / 2 ^ k' ≠ s'.hi.toNat / 2 ^ k'
      · rw [decide_eq_true h']
        exact ⟨Nat.zero_le _, hi_le⟩
      · have h : ¬ s.lo.toNat / 2 ^ k' ≠ s.hi.toNat / 2 ^ k' := by omega
        rw [decide_eq_false h', decide_eq_false h]
        have x1 : s'.lo.toNat / 2 ^ k' = s.lo.toNat / 2 ^ k' := by omega
        have x2 : s'.hi.toNat / 2 ^ k' = s.hi.toNat / 2 ^ k' := by omega
        rw [x1] at d3
        rw [x2] at d4
        exact ⟨by show (s'.lo &&& ones' k').toNat ≤ (s.lo &&& ones' k').toNat; omega, by show (s.hi &&& ones' k').toNat ≤ (s'.hi &&& ones' k').toNat; omega⟩
    · rw [mayS_iff]
      by_cases h : s.lo.toNat / 2 ^ k' ≠ s.hi.toNat / 2 ^ k'
      · rw [decide_eq_true h]; exact Nat.zero_le _
      · rw [decide_eq_false h]
        have x1 : s.lo.toNat / 2 ^ k' = s.hi.toNat / 2 ^ k' := by omega
        rw [x1] at d1
        show (s.lo &&& ones' k').toNat ≤ (s.hi &&& ones' k').toNat
        omega

theorem alu_grows {op : W} (hop : isOp op) (w : Bool) {a b a' b' : Sp} (ma : mayS a = true) (mb : mayS b = true) (la : leS a a') (lb : leS b b') : leS (aluS op w a b) (aluS op w a' b') ∧ mayS (aluS op w a b) = true := by
  have ma' : mayS a' = true := mayS_iff.2 (by have := la.1; have := la.2; have := mayS_iff.1 ma; omega)
  have mb' : mayS b' = true := mayS_iff.2 (by have := lb.1; have := lb.2; have := mayS_iff.1 mb; omega)
  have hok := (alu_ok hop w ma mb (memS_lo ma) (memS_lo mb)).1
  refine ⟨?_, mayS_iff.2 (Nat.le_trans hok.1 hok.2)⟩
  unfold aluS
  cases w with
  | true => exact core_grows wd64 hop ma mb la lb (le64' _) (le64' _)
  | false =>
    obtain ⟨_, _, a3⟩ := cut32 ma (memS_lo ma)
    obtain ⟨_, _, b3⟩ := cut32 mb (memS_lo mb)
    obtain ⟨_, a2, _⟩ := cut32 ma' (memS_lo ma')
    obtain ⟨_, b2, _⟩ := cut32 mb' (memS_lo mb')
    exact core_grows wd32 hop a3 b3 (cut_grows ma la 32#64).1 (cut_grows mb lb 32#64).1 a2 b2

theorem join_l {a c : Sp} (ma : mayS a = true) : leS a (joinS a c) := by
  unfold joinS
  rw [ma]
  cases hc : mayS c with
  | true =>
    show (minU a.lo c.lo).toNat ≤ _ ∧ _ ≤ (maxU a.hi c.hi).toNat
    rw [minU_nat, maxU_nat]; omega
  | false => exact ⟨Nat.le_refl _, Nat.le_refl _⟩
theorem join_both {a b : Sp} (ma : mayS a = true) (mb : mayS b = true) : (joinS a b).lo.toNat = min a.lo.toNat b.lo.toNat ∧ (joinS a b).hi.toNat = max a.hi.toNat b.hi.toNat := by
  unfold joinS
  rw [ma, mb]
  exact ⟨minU_nat _ _, maxU_nat _ _⟩

def ynS (b : Bool) : Bool := bif b then false else true
def meetM (a b : Sp) : Sp := Sp.mux (noMeetS a b) nilS (meetS a b)
def errS (op : W) (a b : Sp) : W := bif aluBad op a b then 1#64 else 0#64
def resS (op : W) (w : Bool) (a b : Sp) : Sp := Sp.mux (aluBad op a b) nilS (aluS op w a b)
def grows4 (op : W) (w : Bool) (a b a' b' : Sp) (n : W) : Bool :=
  bif errS op a b != errS op a' b' || (errS op a b == 0#64 && !inS (resS op w a b) (resS op w a' b')) then false
  else bif ynS (noMeetS a b) && (!ynS (noMeetS a' b') || !inS (meetM a b) (meetM a' b') || !inS (meetM a b) a || !inS (meetM a b) b) then false
  else inS a a' && inS b b' && inS (joinS a b) (joinS a' b') && inS (cutS a n) (cutS a' n) && true
def growsG (g : Gv) (c d : Sp) (n : W) : Bool := bif !mayS g.a || !mayS g.b then true else grows4 g.op g.w g.a g.b (joinS g.a c) (joinS g.b d) n

theorem grows4_true (op : W) (w : Bool) {a b a' b' : Sp} (ma : mayS a = true) (mb : mayS b = true) (la : leS a a') (lb : leS b b') (n : W) : grows4 op w a b a' b' n = true := by
  have ma' : mayS a' = true := mayS_iff.2 (by have := la.1; have := la.2; have := mayS_iff.1 ma; omega)
  have mb' : mayS b' = true := mayS_iff.2 (by have := lb.1; have := lb.2; have := mayS_iff.1 mb; omega)
  have mla := mayS_iff.1 ma
  have mlb := mayS_iff.1 mb
  have eb : aluBad op a b = aluBad op a' b' := by unfold aluBad; rw [ma, mb, ma', mb']
  have c1 : (errS op a b != errS op a' b' || (errS op a b == 0#64 && !inS (resS op w a b) (resS op w a' b'))) = false := by
    unfold errS resS
    rw [← eb]
    cases hb : aluBad op a b with
    | true => rfl
    | false =>
      have hb' := hb
      unfold aluBad at hb'
      simp only [Bool.or_eq_false_iff] at hb'
      obtain ⟨⟨⟨h1, h2⟩, _⟩, _⟩ := hb'
      obtain ⟨g1, g2⟩ := alu_grows (good_op h1 h2) w ma mb la lb
      show (0#64 != 0#64 || (0#64 == 0#64 && !inS (aluS op w a b) (aluS op w a' b'))) = false
      rw [inS_iff.2 ⟨g2, g1⟩]; rfl
  have c2 : (ynS (noMeetS a b) && (!ynS (noMeetS a' b') || !inS (meetM a b) (meetM a' b') || !inS (meetM a b) a || !inS (meetM a b) b)) = false := by
    cases hm : noMeetS a b with
    | true => rfl
    | false =>
      have hm' := hm
      simp only [noMeetS, mayS, leU, meetS, maxU_nat, minU_nat, Bool.or_eq_false_iff, Bool.not_eq_false', decide_eq_true_eq] at hm'
      have hn : noMeetS a' b' = false := by
        simp only [noMeetS, mayS, leU, meetS, maxU_nat, minU_nat, Bool.or_eq_false_iff, Bool.not_eq_false', decide_eq_true_eq]
        have := la.1; have := la.2; have := lb.1; have := lb.2
        omega
      have e1 : meetM a b = meetS a b := by unfold meetM; rw [hm]; rfl
      have e2 : meetM a' b' = meetS a' b' := by unfold meetM; rw [hn]; rfl
      have l : (meetS a b).lo.toNat = max a.lo.toNat b.lo.toNat := maxU_nat _ _
      have hh : (meetS a b).hi.toNat = min a.hi.toNat b.hi.toNat := minU_nat _ _
      have l' : (meetS a' b').lo.toNat = max a'.lo.toNat b'.lo.toNat := maxU_nat _ _
      have hh' : (meetS a' b').hi.toNat = min a'.hi.toNat b'.hi.toNat := minU_nat _ _
      have mm : mayS (meetS a b) = true := mayS_iff.2 (by omega)
      have := la.1; have := la.2; have := lb.1; have := lb.2
      have i1 : inS (meetS a b) (meetS a' b') = true := inS_iff.2 ⟨mm, by constructor <;> omega⟩
      have i2 : inS (meetS a b) a = true := inS_iff.2 ⟨mm, by constructor <;> omega⟩
      have i3 : inS (meetS a b) b = true := inS_iff.2 ⟨mm, by constructor <;> omega⟩
      rw [e1, e2, hn, i1, i2, i3]; rfl
  have j1 : inS (joinS a b) (joinS a' b') = true := by
    obtain ⟨u1, u2⟩ := join_both ma mb
    obtain ⟨v1, v2⟩ := join_both ma' mb'
    have := la.1; have := la.2; have := lb.1; have := lb.2
    exact inS_iff.2 ⟨mayS_iff.2 (by omega), by constructor <;> omega⟩
  obtain ⟨k1, k2⟩ := cut_grows ma la n
  unfold grows4
  rw [c1, c2, inS_iff.2 ⟨ma, la⟩, inS_iff.2 ⟨mb, lb⟩, j1, inS_iff.2 ⟨k2, k1⟩]
  rfl

theorem growsG_true (g : Gv) (c d : Sp) (n : W) : growsG g c d n = true := by
  unfold growsG
  cases ma : mayS g.a with
  | false => rfl
  | true =>
    cases mb : mayS g.b with
    | false => rfl
    | true => exact grows4_true g.op g.w ma mb (join_l ma) (join_l mb) n

end Go.Rf
