/- Tnums: the document's sums, differences and bits. -/
import Derived.Test.YtkfgohhmicfnhaaTn5
set_option linter.unusedVariables false
set_option linter.unusedSimpArgs false
namespace Go.Rf
open Go.Proofs

def l6 : List (FuncId × Con) := (66, con1 cA fun l => eTn (made l)) :: l5
theorem g6 : TabOk Try.prog (tabOf l6) := tabOf_cons g5 k66

def upd (l : Nat → W) (i : Nat) (v : W) : Nat → W := fun j => if j = i then v else l j

structure BIn where
  op : W
  a : Tn
  b : Tn
  i : W
  n : W
  l : Nat → W

noncomputable def lpBIn : Lp BIn where
  keys := [0, 4, 5, 8, 9, 10]
  names := [0, 1, 3]
  scr := wrAt Try.prog 25 [1, 1, 1, 0, 1, 4, 5, 1, 0, 4, 1, 4]
  vals s := [eI s.op, .ptr 0 [], .ptr 1 [], .ptr 3 [], eI s.i, eI s.n]
  blks s := [⟨24, eTn s.a⟩, ⟨24, eTn s.b⟩, ⟨71, cA.enc s.l⟩]
  dec vs bs := match vs, bs with
    | [o, _, _, _, i, n], [⟨_, x⟩, ⟨_, y⟩, ⟨_, z⟩] => match cI.dec o, cI.dec i, cI.dec n, cTn.dec x, cTn.dec y, cA.dec z with
      | some o, some i, some n, some a, some b, some l => some ⟨o, a, b, i, n, l⟩
      | _, _, _, _, _, _ => none
    | _, _ => none

def BIn.go (s : BIn) : Bool := ltB .i64 s.n 4#64
def BIn.x (s : BIn) : W := remB .i64 s.n 2#64
def BIn.y (s : BIn) : W := quoB .i64 s.n 2#64
def BIn.skip (s : BIn) : Bool := (markB s.a s.i &&& bitN s.x == 0#64) || (markB s.b s.i &&& bitN s.y == 0#64)
def BIn.put (s : BIn) (z : W) : BIn := ⟨s.op, s.a, s.b, s.i, s.n + 1#64, upd s.l (ixN s.i) (s.l (ixN s.i) ||| bitN z)⟩
def BIn.one (s : BIn) : Bool := s.op == 1#64
def BIn.two (s : BIn) : Bool := s.op == 2#64
def BIn.step (s : BIn) : Rd BIn :=
  .br s.go (.br s.skip (.norm ⟨s.op, s.a, s.b, s.i, s.n + 1#64, s.l⟩)
    (.br s.one (.br s.two (.norm (s.put (s.x ^^^ s.y))) (.norm (s.put (s.x ||| s.y)))) (.br s.two (.norm (s.put (s.x ^^^ s.y))) (.norm (s.put (s.x &&& s.y)))))) (.exit 2 s)
def BIn.z (s : BIn) : W := if s.two then s.x ^^^ s.y else if s.one then s.x ||| s.y else s.x &&& s.y
def BIn.next (s : BIn) : BIn := if s.skip then ⟨s.op, s.a, s.b, s.i, s.n + 1#64, s.l⟩ else s.put s.z
def BIn.inv (s : BIn) : Prop := s.n.toNat ≤ 4 ∧ s.i.toNat < 64
def BIn.mu (s : BIn) : Nat := 4 - s.n.toNat

theorem BIn.dec (s : BIn) (h : s.inv) (hg : s.go = true) : s.next.inv ∧ s.next.mu < s.mu := by
  have h1 : s.n.toNat ≤ 4 := h.1
  rw [BIn.go, ltB_nat (by omega) (by decide), decide_eq_true_eq] at hg
  have hg : s.n.toNat < 4 := hg
  have e : (s.n + 1#64).toNat = s.n.toNat + 1 := succ_nat (by omega)
  have k : s.next.n = s.n + 1#64 ∧ s.next.i = s.i := by unfold BIn.next; split <;> exact ⟨rfl, rfl⟩
  refine ⟨⟨?_, ?_⟩, ?_⟩
  · rw [k.1, e]; omega
  · rw [k.2]; exact h.2
  · rw [BIn.mu, BIn.mu, k.1, e]; omega

def bInT (s : BIn) : Rd BIn := .exit 2 (runN BIn.go BIn.next 4 s)

theorem bInGoal (s : BIn) (h : s.inv) : LoopGoal Try.prog (loopAt Try.prog 25 [1, 1, 1, 0, 1, 4, 5, 1, 0, 4, 1, 4]) lpBIn bInT s 4 73 0 := by
  refine lp_rule (cx := ⟨Try.prog, tabOf l6, inlF Try.prog (tabOf l6) noHooks 2⟩) g6 (inlF_ok g6 2) (Λ := fun _ => none) (p := []) lpBIn BIn.inv BIn.mu BIn.step bInT 4 73 0 (fun _ => ⟨rfl, rfl⟩) ?_ ?_ s h
  · intro s r h hi
    exact fl_ok (g := s.go) (L := ixs s.i 64 8) (by kernel_rfl) (fun _ => ixs_hold (by decide) hi.2 _)
  · refine good_run BIn.dec (fun s h => by simp only [BIn.mu]; omega) ?_ ?_
    · intro s hi hg
      simp only [BIn.step, Rd.sel, hg, if_true, BIn.next, BIn.z]
      cases s.skip <;> cases s.one <;> cases s.two <;> rfl
    · intro s hi hg
      simp only [BIn.step, Rd.sel, hg, Bool.false_eq_true, if_false]

structure BOut where
  op : W
  a : Tn
  b : Tn
  i : W
  l : Nat → W

noncomputable def lpBOut : Lp BOut where
  keys := [0, 4, 5, 8, 9]
  names := [0, 1, 3]
  scr := wrAt Try.prog 25 [1, 1, 1, 0, 1, 4]
  vals s := [eI s.op, .ptr 0 [], .ptr 1 [], .ptr 3 [], eI s.i]
  blks s := [⟨24, eTn s.a⟩, ⟨24, eTn s.b⟩, ⟨71, cA.enc s.l⟩]
  dec vs bs := match vs, bs with
    | [o, _, _, _, i], [⟨_, x⟩, ⟨_, y⟩, ⟨_, z⟩] => match cI.dec o, cI.dec i, cTn.dec x, cTn.dec y, cA.dec z with
      | some o, some i, some a, some b, some l => some ⟨o, a, b, i, l⟩
      | _, _, _, _, _ => none
    | _, _ => none

def BOut.inn (s : BOut) : BIn := runN BIn.go BIn.next 4 ⟨s.op, s.a, s.b, s.i, 0#64, s.l⟩
def BOut.go (s : BOut) : Bool := ltB .i64 s.i 64#64
def BOut.next (s : BOut) : BOut := ⟨s.inn.op, s.inn.a, s.inn.b, s.inn.i + 1#64, s.inn.l⟩
def BOut.step (s : BOut) : Rd BOut := .br s.go (.norm s.next) (.exit 0 s)
def BOut.inv (s : BOut) : Prop := s.i.toNat ≤ 64
def BOut.mu (s : BOut) : Nat := 64 - s.i.toNat

/-- The inner rounds leave what they are handed. -/
theorem BIn.keep (k : Nat) (s : BIn) : (runN BIn.go BIn.next k s).op = s.op ∧ (runN BIn.go BIn.next k s).a = s.a ∧ (runN BIn.go BIn.next k s).b = s.b ∧ (runN BIn.go BIn.next k s).i = s.i := by
  refine runN_inv (fun t => t.op = s.op ∧ t.a = s.a ∧ t.b = s.b ∧ t.i = s.i) ?_ k s ⟨rfl, rfl, rfl, rfl⟩
  intro t h _
  unfold BIn.next
  split <;> exact h

theorem BOut.dec (s : BOut) (h : s.inv) (hg : s.go = true) : s.next.inv ∧ s.next.mu < s.mu := by
  have h' : s.i.toNat ≤ 64 := h
  rw [BOut.go, ltB_nat (by omega) (by decide), decide_eq_true_eq] at hg
  have hg : s.i.toNat < 64 := hg
  have e : (s.i + 1#64).toNat = s.i.toNat + 1 := succ_nat (by omega)
  have k : s.next.i = s.i + 1#64 := by unfold BOut.next BOut.inn; simp only [(BIn.keep _ _).2.2.2]
  simp only [BOut.inv, BOut.mu, k, e]
  omega

noncomputable def hBIn : Hook := fun p => if p == [1, 1, 1, 0, 1, 4, 5, 1, 0, 4, 1, 4] then some (lpBIn.hk bInT) else none
def bOutT (s : BOut) : Rd BOut := .exit 0 (runN BOut.go BOut.next 64 s)

theorem bOutGoal (s : BOut) (h : s.inv) : LoopGoal Try.prog (loopAt Try.prog 25 [1, 1, 1, 0, 1, 4]) lpBOut bOutT s 4 73 0 := by
  refine lp_rule (cx := ⟨Try.prog, tabOf l6, inlF Try.prog (tabOf l6) noHooks 2⟩) g6 (inlF_ok g6 2) (Λ := hBIn) (p := [1, 1, 1, 0, 1, 4, 5]) lpBOut BOut.inv BOut.mu BOut.step bOutT 4 73 0 (fun _ => ⟨rfl, rfl⟩) ?_ ?_ s h
  · intro s r h hi
    refine fl_ok (g := s.go) (L := [LoopGoal Try.prog (loopAt Try.prog 25 [1, 1, 1, 0, 1, 4, 5, 1, 0, 4, 1, 4]) lpBIn bInT ⟨s.op, s.a, s.b, s.i, 0#64, s.l⟩ 4 73 0]) (by kernel_rfl) ?_
    intro hg p hp
    simp only [List.mem_singleton] at hp
    subst hp
    refine bInGoal _ ⟨by show (0#64 : W).toNat ≤ 4; decide, ?_⟩
    have h' : s.i.toNat ≤ 64 := hi
    rw [BOut.go, ltB_nat (by omega) (by decide), decide_eq_true_eq] at hg
    exact hg
  · refine good_run BOut.dec (fun s h => by simp only [BOut.mu]; omega) ?_ ?_
    · intro s hi hg
      simp only [BOut.step, Rd.sel, hg, if_true]
    · intro s hi hg
      simp only [BOut.step, Rd.sel, hg, Bool.false_eq_true, if_false]

def bitsL (op : W) (a b : Tn) : Nat → W := (runN BOut.go BOut.next 64 ⟨op, a, b, 0#64, fun _ => 0#64⟩).l

noncomputable def hBits : FuncId → Hook := fun f p => if f == 25 && p == [1, 1, 1, 0, 1, 4] then some (lpBOut.hk bOutT) else none

theorem k25 : ConOk Try.prog 25 (con3 cI cTn cTn fun op a b => resTE (bad2 a b) (made (bitsL op a b))) :=
  con3_ok g6 (Λ := hBits) 5 (fun _ _ _ => rfl) (fun op a b => Ev.fl (g := !bad2 a b) (L := [LoopGoal Try.prog (loopAt Try.prog 25 [1, 1, 1, 0, 1, 4]) lpBOut bOutT ⟨op, a, b, 0#64, fun _ => 0#64⟩ 4 73 0]) (by kernel_rfl)
    (fun _ p hp => by simp only [List.mem_singleton] at hp; subst hp; exact bOutGoal _ (by show (0#64 : W).toNat ≤ 64; decide)))

end Go.Rf
