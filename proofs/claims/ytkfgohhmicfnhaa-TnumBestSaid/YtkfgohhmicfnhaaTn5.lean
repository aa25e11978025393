/- Tnums: the document's own functions. -/
import Derived.Test.YtkfgohhmicfnhaaTn3
import Derived.Test.YtkfgohhmicfnhaaRfF
set_option linter.unusedVariables false
set_option linter.unusedSimpArgs false
namespace Go.Rf
open Go.Proofs

/-- Bit i of x, as the document asks for it. -/
def bitB (x i : W) : Bool := remB .u64 (shrB .u64 x (amt .u64 (convB .i64 .u64 i))) 2#64 == 1#64
def markB (t : Tn) (i : W) : W := bif bitB t.m i then 3#64 else bif bitB t.v i then 2#64 else 1#64
def bitN (n : W) : W := bif remB .i64 n 2#64 == 1#64 then 2#64 else 1#64

theorem k63 : ConOk Try.prog 63 (con2 cTn cI fun t i => eI (markB t i)) :=
  con2_ok g4 (Λ := noHooks) 5 (fun _ _ => rfl) (fun x y => Ev.of (by kernel_rfl))
theorem k65 : ConOk Try.prog 65 (con1 cI fun n => eI (bitN n)) :=
  con1_ok g4 (Λ := noHooks) 5 (fun _ => rfl) (fun x => Ev.of (by kernel_rfl))
theorem k50 : ConOk Try.prog 50 (con1 cTn fun t => eB (may t)) :=
  con1_ok g4 (Λ := noHooks) 5 (fun _ => rfl) (fun x => Ev.of (by kernel_rfl))
theorem k55 : ConOk Try.prog 55 (con0 (eTn ⟨0#64, 18446744073709551615#64⟩)) :=
  con0_ok g4 (Λ := noHooks) 5 rfl (Ev.of (by kernel_rfl))

def l5 : List (FuncId × Con) := (63, con2 cTn cI fun t i => eI (markB t i)) :: (65, con1 cI fun n => eI (bitN n)) :: (50, con1 cTn fun t => eB (may t)) :: (55, con0 (eTn ⟨0#64, 18446744073709551615#64⟩)) :: l4
theorem g5 : TabOk Try.prog (tabOf l5) := tabOf_cons (tabOf_cons (tabOf_cons (tabOf_cons g4 k55) k50) k65) k63

/-! Made. -/
structure MadeS where
  i : W
  t : Tn
  l : Nat → W

noncomputable def lpMade : Lp MadeS where
  keys := [1, 3, 4]
  names := [0, 2]
  scr := wrAt Try.prog 66 [1, 1, 0, 1, 4]
  vals s := [.ptr 0 [], .ptr 2 [], .int .i64 fun _ => s.i]
  blks s := [⟨71, cA.enc s.l⟩, ⟨24, eTn s.t⟩]
  dec vs bs := match vs, bs with
    | [_, _, v], [⟨_, x⟩, ⟨_, y⟩] => match cI.dec v, cA.dec x, cTn.dec y with
      | some i, some l, some t => some ⟨i, t, l⟩
      | _, _, _ => none
    | _, _ => none

def MadeS.li (s : MadeS) : W := s.l (ixN s.i)
def MadeS.bit (s : MadeS) : W := 1#64 <<< amt .u64 (convB .i64 .u64 s.i)
def MadeS.go (s : MadeS) : Bool := ltB .i64 s.i 64#64
def MadeS.is2 (s : MadeS) : Bool := s.li == 2#64
def MadeS.is3 (s : MadeS) : Bool := s.li == 3#64
def MadeS.to (s : MadeS) (b c : Bool) : MadeS := ⟨s.i + 1#64, ⟨if b then s.t.v + s.bit else s.t.v, if c then s.t.m + s.bit else s.t.m⟩, s.l⟩
def MadeS.step (s : MadeS) : Rd MadeS :=
  .br s.go (.br s.is2 (.br s.is3 (.norm (s.to true true)) (.norm (s.to true false))) (.br s.is3 (.norm (s.to false true)) (.norm (s.to false false)))) (.exit 0 s)
def MadeS.next (s : MadeS) : MadeS := s.to s.is2 s.is3
def MadeS.inv (s : MadeS) : Prop := s.i.toNat ≤ 64
def MadeS.mu (s : MadeS) : Nat := 64 - s.i.toNat

theorem MadeS.go_iff {s : MadeS} (h : s.inv) : s.go = decide (s.i.toNat < 64) := by
  have h' : s.i.toNat ≤ 64 := h
  rw [MadeS.go, ltB_nat (by omega) (by decide)]; rfl

theorem MadeS.dec (s : MadeS) (h : s.inv) (hg : s.go = true) : s.next.inv ∧ s.next.mu < s.mu := by
  rw [MadeS.go_iff h, decide_eq_true_eq] at hg
  have e : s.next.i.toNat = s.i.toNat + 1 := succ_nat (by omega)
  simp only [MadeS.inv, MadeS.mu, e]
  omega

def madeT (s : MadeS) : Rd MadeS := .exit 0 (runN MadeS.go MadeS.next 64 s)

theorem madeGoal (s : MadeS) (h : s.inv) : LoopGoal Try.prog (loopAt Try.prog 66 [1, 1, 0, 1, 4]) lpMade madeT s 3 32 0 := by
  refine lp_rule (cx := ⟨Try.prog, tabOf l5, inlF Try.prog (tabOf l5) noHooks 2⟩) g5 (inlF_ok g5 2) (Λ := fun _ => none) (p := []) lpMade MadeS.inv MadeS.mu MadeS.step madeT 3 32 0 (fun _ => ⟨rfl, rfl⟩) ?_ ?_ s h
  · intro s r h hi
    refine ⟨.imp s.go true ((ixOb s.i 64).two ((Ob.imp s.is2 true (ixOb s.i 64)).two (Ob.imp s.is2 false (ixOb s.i 64)))), by kernel_rfl, ?_⟩
    intro hg
    rw [MadeS.go_iff hi, decide_eq_true_eq] at hg
    have hx := ixOb_holds (by decide) hg
    exact ⟨hx, fun _ => hx, fun _ => hx⟩
  · refine good_run MadeS.dec (fun s h => by simp only [MadeS.mu]; omega) ?_ ?_
    · intro s hi hg
      simp only [MadeS.step, Rd.sel, hg, if_true, MadeS.next]
      cases s.is2 <;> cases s.is3 <;> rfl
    · intro s hi hg
      simp only [MadeS.step, Rd.sel, hg, Bool.false_eq_true, if_false]

def made (l : Nat → W) : Tn := (runN MadeS.go MadeS.next 64 ⟨0#64, ⟨0#64, 0#64⟩, l⟩).t

noncomputable def hMade : FuncId → Hook := fun f p => if f == 66 && p == [1, 1, 0, 1, 4] then some (lpMade.hk madeT) else none

theorem k66 : ConOk Try.prog 66 (con1 cA fun l => eTn (made l)) :=
  con1_ok g5 (Λ := hMade) 5 (fun _ => rfl) (fun l => Ev.ob (ob := .pr (LoopGoal Try.prog (loopAt Try.prog 66 [1, 1, 0, 1, 4]) lpMade madeT ⟨0#64, ⟨0#64, 0#64⟩, l⟩ 3 32 0)) (by kernel_rfl) (madeGoal _ (by show (0#64 : W).toNat ≤ 64; decide)))

end Go.Rf
