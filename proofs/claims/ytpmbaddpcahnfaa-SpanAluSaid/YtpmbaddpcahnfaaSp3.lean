/- Spans: the document's counting loops; small functions; the statements' awake test. -/
import Derived.Test.YtpmbaddpcahnfaaSp2
set_option linter.unusedVariables false
set_option linter.unusedSimpArgs false
namespace Go.Rf
open Go.Proofs

structure CtS where
  b : W
  n : W
  i : W

def pCt : List Nat := [1, 1, 0, 1, 4]
noncomputable def lpCt (f : FuncId) : Lp CtS where
  keys := [0, 3, 4]
  names := []
  scr := wrAt Try.prog f pCt
  vals s := [eI s.b, eW s.n, eI s.i]
  blks _ := []
  dec vs _ := match vs with
    | [b, n, i] => match cI.dec b, cW.dec n, cI.dec i with
      | some b, some n, some i => some ⟨b, n, i⟩
      | _, _, _ => none
    | _ => none

def CtS.go (s : CtS) : Bool := ltB .i64 s.i s.b
def CtS.nxt (f : W → W) (s : CtS) : CtS := ⟨s.b, f s.n, s.i + 1#64⟩
def CtS.step (f : W → W) (s : CtS) : Rd CtS := .br s.go (.norm (s.nxt f)) (.exit 0 s)
def CtS.inv (s : CtS) : Prop := 0 ≤ s.i.toInt
def CtS.mu (s : CtS) : Nat := (s.b.toInt - s.i.toInt).toNat

theorem ltI {x y : W} : ltB .i64 x y = decide (x.toInt < y.toInt) := by
  show x.slt y = _
  rfl
theorem succ_int {x y : W} (h : x.toInt < y.toInt) : (x + 1#64).toInt = x.toInt + 1 := by
  have h1 := y.toInt_lt
  have h2 := x.le_toInt
  have e : (1#64 : W).toInt = 1 := rfl
  rw [BitVec.toInt_add, e, Int.bmod_def]
  simp only [show (64 - 1 : Nat) = 63 from rfl] at h1 h2
  omega

theorem CtS.dec (f : W → W) (s : CtS) (h : s.inv) (hg : s.go = true) : (s.nxt f).inv ∧ (s.nxt f).mu < s.mu := by
  rw [CtS.go, ltI, decide_eq_true_eq] at hg
  have e : (s.nxt f).i.toInt = s.i.toInt + 1 := succ_int hg
  have e2 : (s.nxt f).b = s.b := rfl
  have h' : 0 ≤ s.i.toInt := h
  simp only [CtS.inv, CtS.mu, e, e2]
  omega

def CtS.run (f : W → W) (s : CtS) : CtS := runN CtS.go (CtS.nxt f) s.mu s
def CtS.T (f : W → W) (s : CtS) : Rd CtS := .exit 0 (s.run f)
theorem CtS.good (f : W → W) : ∀ s, CtS.inv s → Good CtS.inv CtS.mu (CtS.T f) s (s.step f).sel := by
  refine good_mu (go := CtS.go) (next := CtS.nxt f) (CtS.dec f) ?_ ?_
  · intro s hi hg
    simp only [CtS.step, Rd.sel, hg, if_true]
  · intro s hi hg
    simp only [CtS.step, Rd.sel, hg, Bool.false_eq_true, if_false]

def twice1 (n : W) : W := 2#64 * n + 1#64
def twice (n : W) : W := 2#64 * n

theorem goalTop (s : CtS) (h : s.inv) : LoopGoal Try.prog (loopAt Try.prog 29 pCt) (lpCt 29) (CtS.T twice1) s 0 14 0 := by
  refine lp_rule (cx := ⟨Try.prog, tabOf sl3, inlF Try.prog (tabOf sl3) noHooks 2⟩) sg3 (inlF_ok sg3 2) (Λ := fun _ => none) (p := []) (lpCt 29) CtS.inv CtS.mu (CtS.step twice1) (CtS.T twice1) 0 14 0 (fun _ => ⟨rfl, rfl⟩) ?_ ?_ s h
  · intro s r h hi
    exact ⟨.tt, by kernel_rfl, trivial⟩
  · exact CtS.good twice1
theorem goalPow (s : CtS) (h : s.inv) : LoopGoal Try.prog (loopAt Try.prog 48 pCt) (lpCt 48) (CtS.T twice) s 0 13 0 := by
  refine lp_rule (cx := ⟨Try.prog, tabOf sl3, inlF Try.prog (tabOf sl3) noHooks 2⟩) sg3 (inlF_ok sg3 2) (Λ := fun _ => none) (p := []) (lpCt 48) CtS.inv CtS.mu (CtS.step twice) (CtS.T twice) 0 13 0 (fun _ => ⟨rfl, rfl⟩) ?_ ?_ s h
  · intro s r h hi
    exact ⟨.tt, by kernel_rfl, trivial⟩
  · exact CtS.good twice

def topW (b : W) : W := (CtS.run twice1 ⟨b, 0#64, 0#64⟩).n
def powWr (b : W) : W := (CtS.run twice ⟨b, 1#64, 0#64⟩).n
noncomputable def hTop : FuncId → Hook := fun f p => if f == 29 && p == pCt then some ((lpCt 29).hk (CtS.T twice1)) else none
noncomputable def hPow : FuncId → Hook := fun f p => if f == 48 && p == pCt then some ((lpCt 48).hk (CtS.T twice)) else none
theorem k29 : ConOk Try.prog 29 (con1 cI fun b => eW (topW b)) :=
  con1_ok sg3 (Λ := hTop) 5 (fun _ => rfl) (fun b => Ev.fl (g := true) (L := [LoopGoal Try.prog (loopAt Try.prog 29 pCt) (lpCt 29) (CtS.T twice1) ⟨b, 0#64, 0#64⟩ 0 14 0]) (by kernel_rfl)
    (fun _ p hp => by simp only [List.mem_singleton] at hp; subst hp; exact goalTop _ (by show 0 ≤ (0#64 : W).toInt; decide)))
theorem k48 : ConOk Try.prog 48 (con1 cI fun b => eW (powWr b)) :=
  con1_ok sg3 (Λ := hPow) 5 (fun _ => rfl) (fun b => Ev.fl (g := true) (L := [LoopGoal Try.prog (loopAt Try.prog 48 pCt) (lpCt 48) (CtS.T twice) ⟨b, 1#64, 0#64⟩ 0 13 0]) (by kernel_rfl)
    (fun _ p hp => by simp only [List.mem_singleton] at hp; subst hp; exact goalPow _ (by show 0 ≤ (0#64 : W).toInt; decide)))

/-! Small functions. -/
def minU (x y : W) : W := bif ltB .u64 y x then y else x
def maxU (x y : W) : W := bif ltB .u64 x y then y else x
def minI (x y : W) : W := bif ltB .i64 y x then y else x
def maxI (x y : W) : W := bif ltB .i64 x y then y else x
def hasS (s : Sp) (n : W) : Bool := leB .u64 s.lo n && leB .u64 n s.hi
def inS (a b : Sp) : Bool := mayS a && leB .u64 b.lo a.lo && leB .u64 a.hi b.hi
def ofS (n : W) : Sp := ⟨n, n⟩
def allS : Sp := ⟨0, 18446744073709551615#64⟩
def meetS (a b : Sp) : Sp := ⟨maxU a.lo b.lo, minU a.hi b.hi⟩
def noMeetS (a b : Sp) : Bool := !mayS a || !mayS b || !mayS (meetS a b)
def resSB (c : Bool) (s : Sp) : AV := pair (eSp (Sp.mux c nilS s)) (eB (bif c then false else true))
def resSE (c : Bool) (s : Sp) : AV := pair (eSp (Sp.mux c nilS s)) (eI (bif c then 1#64 else 0#64))
def joinS (a b : Sp) : Sp := Sp.mux (mayS a && mayS b) ⟨minU a.lo b.lo, maxU a.hi b.hi⟩ (Sp.mux (mayS a) a (Sp.mux (mayS b) b nilS))
def cutN (n : W) : W := maxI 0#64 (minI n 64#64)
def shI (x n : W) : W := shrB .u64 x (amt .i64 n)
def topK (k : W) : W := (1#64 <<< amt .i64 k) - 1#64
def cutS (s : Sp) (n : W) : Sp :=
  Sp.mux (!mayS s || cutN n == 64#64) (Sp.mux (mayS s) s nilS)
    (Sp.mux (shI s.lo (cutN n) != shI s.hi (cutN n)) ⟨0, topK (cutN n)⟩ ⟨s.lo &&& topK (cutN n), s.hi &&& topK (cutN n)⟩)

theorem k21 : ConOk Try.prog 21 (con2 cSp cW fun s n => eB (hasS s n)) :=
  con2_ok sg3 (Λ := noHooks) 3 (fun _ _ => rfl) (fun x y => Ev.of (by kernel_rfl))
theorem k22 : ConOk Try.prog 22 (con2 cSp cSp fun a b => eB (inS a b)) :=
  con2_ok sg3 (Λ := noHooks) 3 (fun _ _ => rfl) (fun x y => Ev.of (by kernel_rfl))
theorem k23 : ConOk Try.prog 23 (con1 cW fun n => eSp (ofS n)) :=
  con1_ok sg3 (Λ := noHooks) 3 (fun _ => rfl) (fun x => Ev.of (by kernel_rfl))
theorem k24 : ConOk Try.prog 24 (con0 (eSp allS)) :=
  con0_ok sg3 (Λ := noHooks) 3 rfl (Ev.of (by kernel_rfl))
theorem k25 : ConOk Try.prog 25 (con2 cSp cSp fun a b => resSB (noMeetS a b) (meetS a b)) :=
  con2_ok sg3 (Λ := noHooks) 3 (fun _ _ => rfl) (fun x y => Ev.of (by kernel_rfl))
theorem k27 : ConOk Try.prog 27 (con2 cSp cSp fun a b => eSp (joinS a b)) :=
  con2_ok sg3 (Λ := noHooks) 3 (fun _ _ => rfl) (fun x y => Ev.of (by kernel_rfl))

theorem maxI_int (x y : W) : (maxI x y).toInt = max x.toInt y.toInt := by
  unfold maxI
  rw [ltI]
  by_cases h : x.toInt < y.toInt
  · rw [decide_eq_true h]; show y.toInt = _; omega
  · rw [decide_eq_false h]; show x.toInt = _; omega
theorem minI_int (x y : W) : (minI x y).toInt = min x.toInt y.toInt := by
  unfold minI
  rw [ltI]
  by_cases h : y.toInt < x.toInt
  · rw [decide_eq_true h]; show y.toInt = _; omega
  · rw [decide_eq_false h]; show x.toInt = _; omega
theorem cutN_int (n : W) : (cutN n).toInt = max 0 (min n.toInt 64) := by
  unfold cutN
  rw [maxI_int, minI_int]; rfl
theorem cutN_pos (n : W) : 0 ≤ toZ .i64 (cutN n) := by
  show 0 ≤ (cutN n).toInt
  rw [cutN_int]; omega

theorem k12 : ConOk Try.prog 12 (con2 cSp cI fun s n => eSp (cutS s n)) :=
  con2_ok sg3 (Λ := noHooks) 6 (fun _ _ => rfl) (fun s n => Ev.fl (g := !(!mayS s || cutN n == 64#64)) (L := [0 ≤ toZ .i64 (cutN n), 0 ≤ toZ .i64 (cutN n), 0 ≤ toZ .i64 (cutN n)]) (by kernel_rfl)
    (fun _ p hp => by simp only [List.mem_cons, List.not_mem_nil, or_false, or_self] at hp; subst hp; exact cutN_pos n))

/-! The document's. -/
def meetD (a b : Sp) : Sp := ⟨bif ltB .u64 a.lo b.lo then bif ltB .u64 b.hi a.hi then b.lo else b.lo else bif ltB .u64 b.hi a.hi then a.lo else a.lo,
  bif ltB .u64 a.lo b.lo then bif ltB .u64 b.hi a.hi then b.hi else a.hi else bif ltB .u64 b.hi a.hi then b.hi else a.hi⟩
def noMeetD (a b : Sp) : Bool := !mayS a || !mayS b || ltB .u64 a.hi b.lo || ltB .u64 b.hi a.lo
def joinD (a b : Sp) : Sp := Sp.mux (!mayS a && !mayS b) nilS (Sp.mux (!mayS a) b (Sp.mux (!mayS b) a
  ⟨bif ltB .u64 b.lo a.lo then bif ltB .u64 a.hi b.hi then b.lo else b.lo else bif ltB .u64 a.hi b.hi then a.lo else a.lo,
   bif ltB .u64 b.lo a.lo then bif ltB .u64 a.hi b.hi then b.hi else a.hi else bif ltB .u64 a.hi b.hi then b.hi else a.hi⟩))
theorem k26 : ConOk Try.prog 26 (con2 cSp cSp fun a b => resSB (noMeetD a b) (meetD a b)) :=
  con2_ok sg3 (Λ := noHooks) 3 (fun _ _ => rfl) (fun x y => Ev.of (by kernel_rfl))
theorem k28 : ConOk Try.prog 28 (con2 cSp cSp fun a b => eSp (joinD a b)) :=
  con2_ok sg3 (Λ := noHooks) 3 (fun _ _ => rfl) (fun x y => Ev.of (by kernel_rfl))

noncomputable def sl4 : List (FuncId × Con) :=
  (29, con1 cI fun b => eW (topW b)) :: (48, con1 cI fun b => eW (powWr b)) :: (21, con2 cSp cW fun s n => eB (hasS s n)) ::
  (22, con2 cSp cSp fun a b => eB (inS a b)) :: (23, con1 cW fun n => eSp (ofS n)) :: (24, con0 (eSp allS)) ::
  (25, con2 cSp cSp fun a b => resSB (noMeetS a b) (meetS a b)) :: (27, con2 cSp cSp fun a b => eSp (joinS a b)) ::
  (12, con2 cSp cI fun s n => eSp (cutS s n)) :: (26, con2 cSp cSp fun a b => resSB (noMeetD a b) (meetD a b)) ::
  (28, con2 cSp cSp fun a b => eSp (joinD a b)) :: sl3
theorem sg4 : TabOk Try.prog (tabOf sl4) := tabOf_cons (tabOf_cons (tabOf_cons (tabOf_cons (tabOf_cons (tabOf_cons (tabOf_cons (tabOf_cons (tabOf_cons (tabOf_cons (tabOf_cons sg3 k28) k26) k12) k27) k25) k24) k23) k22) k21) k48) k29
end Go.Rf
