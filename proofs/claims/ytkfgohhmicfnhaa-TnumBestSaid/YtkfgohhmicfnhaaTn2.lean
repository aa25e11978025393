/- Tnums: the contracts of the program's functions. -/
import Derived.Test.YtkfgohhmicfnhaaTn1
set_option linter.unusedVariables false
set_option linter.unusedSimpArgs false
namespace Go.Rf
open Go.Proofs

def resTE (c : Bool) (t : Tn) : AV := pair (eTn (Tn.mux c nil t)) (eI (bif c then 1#64 else 0#64))
def resTB (c : Bool) (t : Tn) : AV := pair (eTn (Tn.mux c nil t)) (eB (bif c then false else true))

def bad2 (a b : Tn) : Bool := !may a || !may b
def has (t : Tn) (n : W) : Bool := may t && (n &&& ~~~t.m == t.v)
def isIn (a b : Tn) : Bool := may a && has b a.v && (a.m &&& ~~~b.m == 0#64)
def tAdd (a b : Tn) : Tn := fit (a.v + b.v) ((a.v + b.v + a.m + b.m) ^^^ (a.v + b.v) ||| a.m ||| b.m)
def tSub (a b : Tn) : Tn := fit (a.v - b.v) ((a.v - b.v + a.m) ^^^ (a.v - b.v - b.m) ||| a.m ||| b.m)
def tAnd (a b : Tn) : Tn := ⟨a.v &&& b.v, (a.v ||| a.m) &&& (b.v ||| b.m) &&& ~~~(a.v &&& b.v)⟩
def tOr (a b : Tn) : Tn := ⟨a.v ||| b.v, (a.m ||| b.m) &&& ~~~(a.v ||| b.v)⟩
def tXor (a b : Tn) : Tn := fit (a.v ^^^ b.v) (a.m ||| b.m)
def tJoin (a b : Tn) : Tn := fit a.v ((a.v ^^^ b.v) ||| a.m ||| b.m)
def tMeet (a b : Tn) : Tn := fit (a.v ||| b.v) (a.m &&& b.m)
def noMeet (a b : Tn) : Bool := !may a || !may b || ((a.v ^^^ b.v) &&& ~~~(a.m ||| b.m) != 0#64)
def badSh (t : Tn) (n : W) : Bool := !may t || ltB .i64 n 0#64 || ltB .i64 63#64 n
def shn (n : W) : Nat := amt .u64 (convB .i64 .u64 n)
def tLsh (t : Tn) (n : W) : Tn := ⟨t.v <<< shn n, t.m <<< shn n⟩
def tRsh (t : Tn) (n : W) : Tn := ⟨shrB .u64 t.v (shn n), shrB .u64 t.m (shn n)⟩
def badArsh (t : Tn) (n s : W) : Bool := !may t || (s != 32#64 && s != 64#64) || ltB .i64 n 0#64 || leB .i64 s n
def sar32 (x : W) (n : Nat) : W := convB .u32 .u64 (convB .i32 .u32 (shrB .i32 (convB .u32 .i32 (convB .u64 .u32 x)) n))
def sar64 (x : W) (n : Nat) : W := convB .i64 .u64 (shrB .i64 (convB .u64 .i64 x) n)
def tArsh (t : Tn) (n s : W) : Tn := Tn.mux (s == 32#64) ⟨sar32 t.v (shn n), sar32 t.m (shn n)⟩ ⟨sar64 t.v (shn n), sar64 t.m (shn n)⟩
def low (s : W) : W := (1#64 <<< shn s) - 1#64
def small (s : W) : Bool := s == 8#64 || s == 16#64 || s == 32#64
def tCut (t : Tn) (s : W) : Tn := Tn.mux (!may t) nil (Tn.mux (s == 64#64) t (Tn.mux (small s) ⟨t.v &&& low s, t.m &&& low s⟩ nil))
def eCut (t : Tn) (s : W) : W := bif !may t then 1#64 else bif s == 64#64 then 0#64 else bif small s then 0#64 else 1#64

theorem k32 : ConOk Try.prog 32 (con2 cTn cW fun t n => eB (has t n)) :=
  con2_ok g1 (Λ := noHooks) 3 (fun _ _ => rfl) (fun x y => Ev.of (by kernel_rfl))
theorem k16 : ConOk Try.prog 16 (con2 cTn cTn fun a b => resTE (bad2 a b) (tAdd a b)) :=
  con2_ok g1 (Λ := noHooks) 3 (fun _ _ => rfl) (fun x y => Ev.of (by kernel_rfl))
theorem k17 : ConOk Try.prog 17 (con2 cTn cTn fun a b => resTE (bad2 a b) (tSub a b)) :=
  con2_ok g1 (Λ := noHooks) 3 (fun _ _ => rfl) (fun x y => Ev.of (by kernel_rfl))
theorem k24 : ConOk Try.prog 24 (con2 cTn cTn fun a b => resTE (bad2 a b) (tAnd a b)) :=
  con2_ok g1 (Λ := noHooks) 3 (fun _ _ => rfl) (fun x y => Ev.of (by kernel_rfl))
theorem k26 : ConOk Try.prog 26 (con2 cTn cTn fun a b => resTE (bad2 a b) (tOr a b)) :=
  con2_ok g1 (Λ := noHooks) 3 (fun _ _ => rfl) (fun x y => Ev.of (by kernel_rfl))
theorem k27 : ConOk Try.prog 27 (con2 cTn cTn fun a b => resTE (bad2 a b) (tXor a b)) :=
  con2_ok g1 (Λ := noHooks) 3 (fun _ _ => rfl) (fun x y => Ev.of (by kernel_rfl))
theorem k48 : ConOk Try.prog 48 (con2 cTn cTn fun a b => resTE (bad2 a b) (tJoin a b)) :=
  con2_ok g1 (Λ := noHooks) 3 (fun _ _ => rfl) (fun x y => Ev.of (by kernel_rfl))
theorem k47 : ConOk Try.prog 47 (con2 cTn cTn fun a b => resTB (noMeet a b) (tMeet a b)) :=
  con2_ok g1 (Λ := noHooks) 3 (fun _ _ => rfl) (fun x y => Ev.of (by kernel_rfl))
theorem k37 : ConOk Try.prog 37 (con2 cTn cI fun a n => resTE (badSh a n) (tLsh a n)) :=
  con2_ok g1 (Λ := noHooks) 3 (fun _ _ => rfl) (fun x y => Ev.of (by kernel_rfl))
theorem k39 : ConOk Try.prog 39 (con2 cTn cI fun a n => resTE (badSh a n) (tRsh a n)) :=
  con2_ok g1 (Λ := noHooks) 3 (fun _ _ => rfl) (fun x y => Ev.of (by kernel_rfl))
theorem k41 : ConOk Try.prog 41 (con3 cTn cI cI fun a n s => resTE (badArsh a n s) (tArsh a n s)) :=
  con3_ok g1 (Λ := noHooks) 3 (fun _ _ _ => rfl) (fun x y z => Ev.of (by kernel_rfl))
theorem k43 : ConOk Try.prog 43 (con2 cTn cI fun a n => pair (eTn (tCut a n)) (eI (eCut a n))) :=
  con2_ok g1 (Λ := noHooks) 3 (fun _ _ => rfl) (fun x y => Ev.of (by kernel_rfl))

def l2 : List (FuncId × Con) := (16, con2 cTn cTn fun a b => resTE (bad2 a b) (tAdd a b)) :: (32, con2 cTn cW fun t n => eB (has t n)) :: l1
theorem g2 : TabOk Try.prog (tabOf l2) := tabOf_cons (tabOf_cons g1 k32) k16
theorem k20 : ConOk Try.prog 20 (con2 cTn cTn fun a b => eB (isIn a b)) :=
  con2_ok g2 (Λ := noHooks) 3 (fun _ _ => rfl) (fun x y => Ev.of (by kernel_rfl))

/-! Products: the loop. -/

structure MulS where
  a : Tn
  b : Tn
  s : Tn

def addN (a b : Tn) : Tn := Tn.mux (bad2 a b) nil (tAdd a b)
def MulS.go (s : MulS) : Bool := (s.a.v ||| s.a.m) != 0#64
def MulS.any (s : MulS) : Bool := s.a.m &&& 1#64 == 1#64
def MulS.zero (s : MulS) : Bool := s.a.v &&& 1#64 == 0#64
def MulS.up (s : MulS) (t : Tn) : MulS := ⟨⟨shrB .u64 s.a.v 1, shrB .u64 s.a.m 1⟩, ⟨s.b.v <<< 1, s.b.m <<< 1⟩, t⟩
def MulS.step (s : MulS) : Rd MulS :=
  .br s.go (.br s.any (.norm (s.up (addN s.s ⟨0#64, s.b.v ||| s.b.m⟩))) (.br s.zero (.norm (s.up s.s)) (.norm (s.up (addN s.s s.b))))) (.exit 0 s)
def MulS.next (s : MulS) : MulS := bif s.any then s.up (addN s.s ⟨0#64, s.b.v ||| s.b.m⟩) else bif s.zero then s.up s.s else s.up (addN s.s s.b)
def MulS.fin : Nat → MulS → MulS
  | 0, s => s
  | k + 1, s => bif s.go then MulS.fin k s.next else s
noncomputable def lpMul (n : Nat) : Lp MulS where
  keys := [0, 1, 3]
  names := [0, 1, n]
  scr := wrAt Try.prog 61 [1, 1, 0, 4]
  vals s := [.ptr 0 [], .ptr 1 [], .ptr n []]
  blks s := [⟨24, eTn s.a⟩, ⟨24, eTn s.b⟩, ⟨24, eTn s.s⟩]
  dec _ bs := match bs with
    | [⟨_, x⟩, ⟨_, y⟩, ⟨_, z⟩] => match cTn.dec x, cTn.dec y, cTn.dec z with
      | some a, some b, some c => some ⟨a, b, c⟩
      | _, _, _ => none
    | _ => none
def mulT (s : MulS) : Rd MulS := .exit 0 (MulS.fin 64 s)
noncomputable def hMul : FuncId → Hook := fun f p => if f == 61 && p == [1, 1, 0, 4] then some ((lpMul 7).hk mulT) else none
theorem MulS.next_eq (s : MulS) : s.next = (if s.any = true then s.up (addN s.s ⟨0#64, s.b.v ||| s.b.m⟩) else if s.zero = true then s.up s.s else s.up (addN s.s s.b)) := by
  unfold MulS.next
  cases s.any <;> cases s.zero <;> rfl

/-- What is left to do. -/
def MulS.size (s : MulS) : Nat := (s.a.v ||| s.a.m).toNat

theorem shr1 (x : W) : shrB .u64 x 1 = x >>> 1 := rfl

theorem MulS.size_up (s : MulS) (t : Tn) : (s.up t).size = s.size / 2 := by
  simp only [MulS.size, MulS.up, shr1, ← BitVec.ushiftRight_or_distrib, BitVec.toNat_ushiftRight, Nat.shiftRight_succ, Nat.shiftRight_zero]

theorem MulS.size_next (s : MulS) : s.next.size = s.size / 2 := by
  rw [MulS.next_eq]
  split
  · exact size_up _ _
  · split <;> exact size_up _ _

theorem MulS.go_size (s : MulS) : s.go = true ↔ s.size ≠ 0 := by
  unfold MulS.go MulS.size
  rw [bne_iff_ne, ne_eq, ne_eq]
  exact ⟨fun h h' => h (BitVec.eq_of_toNat_eq (by rw [h']; rfl)), fun h h' => h (by rw [h']; rfl)⟩

theorem MulS.fin_more : ∀ (k : Nat) (s : MulS), s.size < 2 ^ k → MulS.fin (k + 1) s = MulS.fin k s := by
  intro k
  induction k with
  | zero =>
    intro s h
    have : s.go = false := by
      cases e : s.go with
      | false => rfl
      | true => rw [MulS.go_size] at e; omega
    simp only [MulS.fin, this, cond_false]
  | succ k ih =>
    intro s h
    rw [MulS.fin]
    conv => rhs; rw [MulS.fin]
    cases s.go with
    | false => rfl
    | true =>
      simp only [cond_true]
      exact ih _ (by rw [MulS.size_next, Nat.pow_succ] at *; omega)

theorem MulS.fin_next (s : MulS) (h : s.go = true) : MulS.fin 64 s.next = MulS.fin 64 s := by
  have e : MulS.fin 64 s = MulS.fin 63 s.next := by
    rw [MulS.fin, h]; rfl
  rw [e]
  refine MulS.fin_more 63 _ ?_
  have : s.size < 2 ^ 64 := (s.a.v ||| s.a.m).isLt
  rw [MulS.size_next]
  omega

theorem mulGoal (a b : Tn) : LoopGoal Try.prog (loopAt Try.prog 61 [1, 1, 0, 4]) (lpMul 7) mulT ⟨a, b, ⟨0#64, 0#64⟩⟩ 8 50 6 := by
  refine lp_rule (cx := ⟨Try.prog, tabOf l2, inlF Try.prog (tabOf l2) noHooks 2⟩) g2 (inlF_ok g2 2) (Λ := fun _ => none) (p := []) (lpMul 7) (fun _ => True) MulS.size MulS.step mulT 8 50 6 (fun _ => ⟨rfl, rfl⟩) ?_ ?_ _ trivial
  · intro s r h _
    exact ⟨.tt, by kernel_rfl, trivial⟩
  · intro s _
    unfold MulS.step
    cases hg : s.go with
    | false =>
      simp only [Rd.sel, Bool.false_eq_true, if_false, Good, mulT]
      rw [MulS.fin, hg]; rfl
    | true =>
      have hsz := (MulS.go_size s).1 hg
      have key : ∀ s', s' = s.next → Good (fun _ => True) MulS.size mulT s (.norm s') := by
        intro s' e
        subst e
        refine ⟨trivial, ?_, ?_⟩
        · rw [MulS.size_next]; omega
        · simp only [mulT, Rd.sel, MulS.fin_next s hg]
      cases ha : s.any with
      | true =>
        simp only [Rd.sel, if_true]
        exact key _ (by simp only [MulS.next, ha, cond_true])
      | false =>
        cases hz : s.zero with
        | true =>
          simp only [Rd.sel, if_true, Bool.false_eq_true, if_false]
          exact key _ (by simp only [MulS.next, ha, hz, cond_true, cond_false])
        | false =>
          simp only [Rd.sel, if_true, Bool.false_eq_true, if_false]
          exact key _ (by simp only [MulS.next, ha, hz, cond_true, cond_false])

def tMul (a b : Tn) : Tn := (MulS.fin 64 ⟨a, b, ⟨0#64, 0#64⟩⟩).s

theorem k19 : ConOk Try.prog 19 (con2 cTn cTn fun a b => resTE (bad2 a b) (tMul a b)) :=
  con2_ok g2 (Λ := hMul) 5 (fun _ _ => rfl) (fun x y => Ev.ob (ob := .imp (bad2 x y) false (.pr (LoopGoal Try.prog (loopAt Try.prog 61 [1, 1, 0, 4]) (lpMul 7) mulT ⟨x, y, ⟨0#64, 0#64⟩⟩ 8 50 6))) (by kernel_rfl) (fun _ => mulGoal x y))

end Go.Rf
