/- Spans: the walks down the bits. -/
import Derived.Test.YtpmbaddpcahnfaaSp1
set_option linter.unusedVariables false
set_option linter.unusedSimpArgs false
namespace Go.Rf
open Go.Proofs

structure DoS where
  a : Sp
  b : Sp
  x : W
  y : W
  m : W

/-- What one bit brings: is it over, x, y. -/
structure Fam where
  stop : DoS → Bool
  x : DoS → W
  y : DoS → W

def DoS.more (s : DoS) : Bool := ltB .u64 0#64 s.m
def Fam.go (F : Fam) (s : DoS) : Bool := s.more && !F.stop s
def Fam.nxt (F : Fam) (s : DoS) : DoS := ⟨s.a, s.b, F.x s, F.y s, s.m >>> 1⟩
def Fam.rt (F : Fam) (s : DoS) : DoS := ⟨s.a, s.b, F.x s, F.y s, s.m⟩
def Fam.step (F : Fam) (s : DoS) : Rd DoS := .br s.more (.br (F.stop s) (.ret (F.rt s)) (.norm (F.nxt s))) (.exit 0 s)
def Fam.step0 (F : Fam) (s : DoS) : Rd DoS := .br s.more (.norm (F.nxt s)) (.exit 0 s)
def Fam.run (F : Fam) (s : DoS) : DoS := runN F.go F.nxt 64 s
def Fam.T (F : Fam) (s : DoS) : Rd DoS := .br (F.run s).more (.ret (F.rt (F.run s))) (.exit 0 (F.run s))
def Fam.T0 (F : Fam) (s : DoS) : Rd DoS := .exit 0 (F.run s)
def bl (n : Nat) : Nat := if n = 0 then 0 else Nat.log2 n + 1
def DoS.mu (s : DoS) : Nat := bl s.m.toNat
def DoS.inv (_ : DoS) : Prop := True

theorem bl_half {n : Nat} (h : n ≠ 0) : bl (n / 2) < bl n := by
  unfold bl
  rw [if_neg h]
  by_cases h2 : n / 2 = 0
  · rw [if_pos h2]; omega
  · rw [if_neg h2]
    have : Nat.log2 n = Nat.log2 (n / 2) + 1 := by
      rw [Nat.log2_def, if_pos (by omega)]
    omega
theorem bl_le {n : Nat} (h : n < 2 ^ 64) : bl n ≤ 64 := by
  unfold bl
  by_cases h0 : n = 0
  · rw [if_pos h0]; omega
  · rw [if_neg h0]
    have := (Nat.log2_lt h0).2 h
    omega
theorem more_iff (s : DoS) : s.more = true ↔ s.m.toNat ≠ 0 := by
  unfold DoS.more ltB
  show BitVec.ult 0#64 s.m = true ↔ _
  unfold BitVec.ult
  simp
  omega

theorem Fam.dec (F : Fam) (s : DoS) (h : s.inv) (hg : F.go s = true) : (F.nxt s).inv ∧ (F.nxt s).mu < s.mu := by
  refine ⟨trivial, ?_⟩
  simp only [Fam.go, Bool.and_eq_true, more_iff] at hg
  have e : (F.nxt s).m.toNat = s.m.toNat / 2 := by
    show (s.m >>> 1).toNat = _
    rw [BitVec.toNat_ushiftRight, Nat.shiftRight_eq_div_pow]
  unfold DoS.mu
  rw [e]
  exact bl_half hg.1

theorem Fam.good (F : Fam) : ∀ s, DoS.inv s → Good DoS.inv DoS.mu F.T s (F.step s).sel := by
  refine good_ret (go := F.go) (next := F.nxt) (out := DoS.more) (rt := F.rt) F.dec (fun s h => bl_le s.m.isLt) ?_ ?_ ?_
  · intro s hi hg
    simp only [Fam.go, Bool.and_eq_true, Bool.not_eq_true'] at hg
    simp only [Fam.step, Rd.sel, hg.1, hg.2, if_true, Bool.false_eq_true, if_false]
  · intro s hi hg ho
    simp only [Fam.go, ho, Bool.true_and, Bool.not_eq_false'] at hg
    simp only [Fam.step, Rd.sel, ho, hg, if_true]
  · intro s hi hg ho
    simp only [Fam.step, Rd.sel, ho, Bool.false_eq_true, if_false]

theorem Fam.good0 (F : Fam) (hF : ∀ s, F.stop s = false) : ∀ s, DoS.inv s → Good DoS.inv DoS.mu F.T0 s (F.step0 s).sel := by
  refine good_run (go := F.go) (next := F.nxt) F.dec (fun s h => bl_le s.m.isLt) ?_ ?_
  · intro s hi hg
    simp only [Fam.go, hF, Bool.not_false, Bool.and_true] at hg
    simp only [Fam.step0, Rd.sel, hg, if_true]
  · intro s hi hg
    simp only [Fam.go, hF, Bool.not_false, Bool.and_true] at hg
    simp only [Fam.step0, Rd.sel, hg, Bool.false_eq_true, if_false]

def upW (x m : W) : W := (x ||| m) &&& (-m)
def wiW (x m : W) : W := (x &&& ~~~m) ||| (m - 1#64)

theorem k54 : ConOk Try.prog 54 (con2 cW cW fun x m => eW (upW x m)) :=
  con2_ok sg1 (Λ := noHooks) 3 (fun _ _ => rfl) (fun x y => Ev.of (by kernel_rfl))
theorem k56 : ConOk Try.prog 56 (con2 cW cW fun x m => eW (wiW x m)) :=
  con2_ok sg1 (Λ := noHooks) 3 (fun _ _ => rfl) (fun x y => Ev.of (by kernel_rfl))
noncomputable def sl2 : List (FuncId × Con) := (54, con2 cW cW fun x m => eW (upW x m)) :: (56, con2 cW cW fun x m => eW (wiW x m)) :: sl1
theorem sg2 : TabOk Try.prog (tabOf sl2) := tabOf_cons (tabOf_cons sg1 k56) k54

def pDn : List Nat := [1, 4]
noncomputable def lpDn (f : FuncId) : Lp DoS where
  keys := [0, 2]
  names := [0, 1, 2, 3]
  scr := wrAt Try.prog 52 pDn
  vals s := [.fn f (.cons (.ptr 2 []) (.cons (.ptr 3 []) (.cons (.ptr 0 []) (.cons (.ptr 1 []) .nil)))), eW s.m]
  blks s := [⟨24, eSp s.a⟩, ⟨24, eSp s.b⟩, ⟨22, eW s.x⟩, ⟨22, eW s.y⟩]
  dec vs bs := match vs, bs with
    | [_, m], [⟨_, a⟩, ⟨_, b⟩, ⟨_, x⟩, ⟨_, y⟩] => match cW.dec m, cSp.dec a, cSp.dec b, cW.dec x, cW.dec y with
      | some m, some a, some b, some x, some y => some ⟨a, b, x, y, m⟩
      | _, _, _, _, _ => none
    | _, _ => none

/-- Two tests, of which either ends the walk. -/
def famOf (c1 c2 : DoS → Bool) (u v : DoS → W) : Fam where
  stop s := bif c1 s then true else bif c2 s then true else false
  x s := bif c1 s then u s else s.x
  y s := bif c1 s then s.y else bif c2 s then v s else s.y

def isN (x : W) : Bool := x == 0#64
def isS (x : W) : Bool := x != 0#64
def DoS.ux (s : DoS) : W := upW s.x s.m
def DoS.uy (s : DoS) : W := upW s.y s.m
def DoS.wx (s : DoS) : W := wiW s.x s.m
def DoS.wy (s : DoS) : W := wiW s.y s.m

/-- One test ahead that lets the bit go by. -/
def famBy (c0 c1 c2 : DoS → Bool) (u v : DoS → W) : Fam where
  stop s := bif c0 s then false else bif c1 s then true else bif c2 s then true else false
  x s := bif c0 s then s.x else bif c1 s then u s else s.x
  y s := bif c0 s then s.y else bif c1 s then s.y else bif c2 s then v s else s.y
/-- The walk never ends ahead of the last bit. -/
def famX (c1 c2 : DoS → Bool) (u v : DoS → W) : Fam where
  stop _ := false
  x s := bif c1 s then u s else s.x
  y s := bif c1 s then s.y else bif c2 s then v s else s.y
def famBX (c0 c1 c2 : DoS → Bool) (u v : DoS → W) : Fam where
  stop _ := false
  x s := bif c0 s then s.x else bif c1 s then u s else s.x
  y s := bif c0 s then s.y else bif c1 s then s.y else bif c2 s then v s else s.y

def xOff (s : DoS) : Bool := isN (s.x &&& s.m)
def xOn (s : DoS) : Bool := isS (s.x &&& s.m)
def yOff (s : DoS) : Bool := isN (s.y &&& s.m)
def yOn (s : DoS) : Bool := isS (s.y &&& s.m)
def xUp (s : DoS) : Bool := leB .u64 s.ux s.a.hi
def yUp (s : DoS) : Bool := leB .u64 s.uy s.b.hi
def xIn (s : DoS) : Bool := leB .u64 s.a.lo s.wx
def yIn (s : DoS) : Bool := leB .u64 s.b.lo s.wy
def notBoth (s : DoS) : Bool := isN (s.x &&& s.y &&& s.m)
def someOn (s : DoS) : Bool := isS ((s.x ||| s.y) &&& s.m)
def fLO : Fam := famOf (fun s => xOff s && yOn s && xUp s) (fun s => xOn s && yOff s && yUp s) DoS.ux DoS.uy
def fMO : Fam := famBy notBoth xIn yIn DoS.wx DoS.wy
def fLA : Fam := famBy someOn xUp yUp DoS.ux DoS.uy
def fMA : Fam := famOf (fun s => xOn s && yOff s && xIn s) (fun s => xOff s && yOn s && yIn s) DoS.wx DoS.wy
def fLX : Fam := famX (fun s => xOff s && yOn s && xUp s) (fun s => xOn s && yOff s && yUp s) DoS.ux DoS.uy
def fMX : Fam := famBX notBoth xIn yIn DoS.wx DoS.wy

def top1 : W := 9223372036854775808#64
def sLo (a b : Sp) : DoS := ⟨a, b, a.lo, b.lo, top1⟩
def sHi (a b : Sp) : DoS := ⟨a, b, a.hi, b.hi, top1⟩
def Fam.fx (F : Fam) (s : DoS) : W := bif (F.run s).more then F.x (F.run s) else (F.run s).x
def Fam.fy (F : Fam) (s : DoS) : W := bif (F.run s).more then F.y (F.run s) else (F.run s).y
def leastOr (a b : Sp) : W := fLO.fx (sLo a b) ||| fLO.fy (sLo a b)
def mostOr (a b : Sp) : W := fMO.fx (sHi a b) ||| fMO.fy (sHi a b)
def leastAnd (a b : Sp) : W := fLA.fx (sLo a b) &&& fLA.fy (sLo a b)
def mostAnd (a b : Sp) : W := fMA.fx (sHi a b) &&& fMA.fy (sHi a b)
def leastXor (a b : Sp) : W := (fLX.run (sLo a b)).x ^^^ (fLX.run (sLo a b)).y
def mostXor (a b : Sp) : W := (fMX.run (sHi a b)).x ^^^ (fMX.run (sHi a b)).y

theorem goalLO (s : DoS) : LoopGoal Try.prog (loopAt Try.prog 52 pDn) (lpDn 53) fLO.T s 4 10 4 := by
  refine lp_rule (cx := ⟨Try.prog, tabOf sl2, inlF Try.prog (tabOf sl2) noHooks 2⟩) sg2 (inlF_ok sg2 2) (Λ := fun _ => none) (p := []) (lpDn 53) DoS.inv DoS.mu fLO.step fLO.T 4 10 4 (fun _ => ⟨rfl, rfl⟩) ?_ ?_ s trivial
  · intro s r h hi
    exact ⟨.tt, by kernel_rfl, trivial⟩
  · exact fLO.good
noncomputable def hLO : FuncId → Hook := fun f p => if f == 52 && p == pDn then some ((lpDn 53).hk fLO.T) else none
theorem k34 : ConOk Try.prog 34 (con2 cSp cSp fun a b => eW (leastOr a b)) :=
  con2_ok sg2 (Λ := hLO) 5 (fun _ _ => rfl) (fun a b => Ev.fl (g := true) (L := [LoopGoal Try.prog (loopAt Try.prog 52 pDn) (lpDn 53) fLO.T (sLo a b) 4 10 4]) (by kernel_rfl)
    (fun _ p hp => by simp only [List.mem_singleton] at hp; subst hp; exact goalLO _))

theorem goalMO (s : DoS) : LoopGoal Try.prog (loopAt Try.prog 52 pDn) (lpDn 55) fMO.T s 4 10 4 := by
  refine lp_rule (cx := ⟨Try.prog, tabOf sl2, inlF Try.prog (tabOf sl2) noHooks 2⟩) sg2 (inlF_ok sg2 2) (Λ := fun _ => none) (p := []) (lpDn 55) DoS.inv DoS.mu fMO.step fMO.T 4 10 4 (fun _ => ⟨rfl, rfl⟩) ?_ ?_ s trivial
  · intro s r h hi
    exact ⟨.tt, by kernel_rfl, trivial⟩
  · exact fMO.good
noncomputable def hMO : FuncId → Hook := fun f p => if f == 52 && p == pDn then some ((lpDn 55).hk fMO.T) else none
theorem k35 : ConOk Try.prog 35 (con2 cSp cSp fun a b => eW (mostOr a b)) :=
  con2_ok sg2 (Λ := hMO) 5 (fun _ _ => rfl) (fun a b => Ev.fl (g := true) (L := [LoopGoal Try.prog (loopAt Try.prog 52 pDn) (lpDn 55) fMO.T (sHi a b) 4 10 4]) (by kernel_rfl)
    (fun _ p hp => by simp only [List.mem_singleton] at hp; subst hp; exact goalMO _))

theorem goalLA (s : DoS) : LoopGoal Try.prog (loopAt Try.prog 52 pDn) (lpDn 57) fLA.T s 4 10 4 := by
  refine lp_rule (cx := ⟨Try.prog, tabOf sl2, inlF Try.prog (tabOf sl2) noHooks 2⟩) sg2 (inlF_ok sg2 2) (Λ := fun _ => none) (p := []) (lpDn 57) DoS.inv DoS.mu fLA.step fLA.T 4 10 4 (fun _ => ⟨rfl, rfl⟩) ?_ ?_ s trivial
  · intro s r h hi
    exact ⟨.tt, by kernel_rfl, trivial⟩
  · exact fLA.good
noncomputable def hLA : FuncId → Hook := fun f p => if f == 52 && p == pDn then some ((lpDn 57).hk fLA.T) else none
theorem k36 : ConOk Try.prog 36 (con2 cSp cSp fun a b => eW (leastAnd a b)) :=
  con2_ok sg2 (Λ := hLA) 5 (fun _ _ => rfl) (fun a b => Ev.fl (g := true) (L := [LoopGoal Try.prog (loopAt Try.prog 52 pDn) (lpDn 57) fLA.T (sLo a b) 4 10 4]) (by kernel_rfl)
    (fun _ p hp => by simp only [List.mem_singleton] at hp; subst hp; exact goalLA _))

theorem goalMA (s : DoS) : LoopGoal Try.prog (loopAt Try.prog 52 pDn) (lpDn 58) fMA.T s 4 10 4 := by
  refine lp_rule (cx := ⟨Try.prog, tabOf sl2, inlF Try.prog (tabOf sl2) noHooks 2⟩) sg2 (inlF_ok sg2 2) (Λ := fun _ => none) (p := []) (lpDn 58) DoS.inv DoS.mu fMA.step fMA.T 4 10 4 (fun _ => ⟨rfl, rfl⟩) ?_ ?_ s trivial
  · intro s r h hi
    exact ⟨.tt, by kernel_rfl, trivial⟩
  · exact fMA.good
noncomputable def hMA : FuncId → Hook := fun f p => if f == 52 && p == pDn then some ((lpDn 58).hk fMA.T) else none
theorem k37 : ConOk Try.prog 37 (con2 cSp cSp fun a b => eW (mostAnd a b)) :=
  con2_ok sg2 (Λ := hMA) 5 (fun _ _ => rfl) (fun a b => Ev.fl (g := true) (L := [LoopGoal Try.prog (loopAt Try.prog 52 pDn) (lpDn 58) fMA.T (sHi a b) 4 10 4]) (by kernel_rfl)
    (fun _ p hp => by simp only [List.mem_singleton] at hp; subst hp; exact goalMA _))

theorem goalLX (s : DoS) : LoopGoal Try.prog (loopAt Try.prog 52 pDn) (lpDn 59) fLX.T0 s 4 10 4 := by
  refine lp_rule (cx := ⟨Try.prog, tabOf sl2, inlF Try.prog (tabOf sl2) noHooks 2⟩) sg2 (inlF_ok sg2 2) (Λ := fun _ => none) (p := []) (lpDn 59) DoS.inv DoS.mu fLX.step0 fLX.T0 4 10 4 (fun _ => ⟨rfl, rfl⟩) ?_ ?_ s trivial
  · intro s r h hi
    exact ⟨.tt, by kernel_rfl, trivial⟩
  · exact (fLX.good0 (fun _ => rfl))
noncomputable def hLX : FuncId → Hook := fun f p => if f == 52 && p == pDn then some ((lpDn 59).hk fLX.T0) else none
theorem k39 : ConOk Try.prog 39 (con2 cSp cSp fun a b => eW (leastXor a b)) :=
  con2_ok sg2 (Λ := hLX) 5 (fun _ _ => rfl) (fun a b => Ev.fl (g := true) (L := [LoopGoal Try.prog (loopAt Try.prog 52 pDn) (lpDn 59) fLX.T0 (sLo a b) 4 10 4]) (by kernel_rfl)
    (fun _ p hp => by simp only [List.mem_singleton] at hp; subst hp; exact goalLX _))

theorem goalMX (s : DoS) : LoopGoal Try.prog (loopAt Try.prog 52 pDn) (lpDn 60) fMX.T0 s 4 10 4 := by
  refine lp_rule (cx := ⟨Try.prog, tabOf sl2, inlF Try.prog (tabOf sl2) noHooks 2⟩) sg2 (inlF_ok sg2 2) (Λ := fun _ => none) (p := []) (lpDn 60) DoS.inv DoS.mu fMX.step0 fMX.T0 4 10 4 (fun _ => ⟨rfl, rfl⟩) ?_ ?_ s trivial
  · intro s r h hi
    exact ⟨.tt, by kernel_rfl, trivial⟩
  · exact (fMX.good0 (fun _ => rfl))
noncomputable def hMX : FuncId → Hook := fun f p => if f == 52 && p == pDn then some ((lpDn 60).hk fMX.T0) else none
theorem k40 : ConOk Try.prog 40 (con2 cSp cSp fun a b => eW (mostXor a b)) :=
  con2_ok sg2 (Λ := hMX) 5 (fun _ _ => rfl) (fun a b => Ev.fl (g := true) (L := [LoopGoal Try.prog (loopAt Try.prog 52 pDn) (lpDn 60) fMX.T0 (sHi a b) 4 10 4]) (by kernel_rfl)
    (fun _ p hp => by simp only [List.mem_singleton] at hp; subst hp; exact goalMX _))

noncomputable def sl3 : List (FuncId × Con) :=
  (34, con2 cSp cSp fun a b => eW (leastOr a b)) :: (35, con2 cSp cSp fun a b => eW (mostOr a b)) ::
  (36, con2 cSp cSp fun a b => eW (leastAnd a b)) :: (37, con2 cSp cSp fun a b => eW (mostAnd a b)) ::
  (39, con2 cSp cSp fun a b => eW (leastXor a b)) :: (40, con2 cSp cSp fun a b => eW (mostXor a b)) :: sl2
theorem sg3 : TabOk Try.prog (tabOf sl3) := tabOf_cons (tabOf_cons (tabOf_cons (tabOf_cons (tabOf_cons (tabOf_cons sg2 k40) k39) k37) k36) k35) k34
end Go.Rf
