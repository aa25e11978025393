/- Tnums: the document's sums and differences (with the sets of carries). -/
import Derived.Test.YtkfgohhmicfnhaaTn6
set_option linter.unusedVariables false
set_option linter.unusedSimpArgs false
namespace Go.Rf
open Go.Proofs

structure CIn where
  a : Tn
  b : Tn
  less : Bool
  carry : W
  i : W
  next : W
  n : W
  l : Nat → W

def pCOut : List Nat := [1, 1, 1, 0, 1, 4]
def pCIn : List Nat := [1, 1, 1, 0, 1, 4, 5, 1, 0, 4, 1, 0, 1, 4]

noncomputable def lpCIn : Lp CIn where
  keys := [2, 3, 4, 7, 8, 9, 10, 11]
  names := [0, 1, 3]
  scr := wrAt Try.prog 62 pCIn
  vals s := [eB s.less, .ptr 0 [], .ptr 1 [], .ptr 3 [], eI s.carry, eI s.i, eI s.next, eI s.n]
  blks s := [⟨24, eTn s.a⟩, ⟨24, eTn s.b⟩, ⟨71, cA.enc s.l⟩]
  dec vs bs := match vs, bs with
    | [o, _, _, _, c, i, x, n], [⟨_, p⟩, ⟨_, q⟩, ⟨_, z⟩] => match cB.dec o, cI.dec c, cI.dec i, cI.dec x, cI.dec n, cTn.dec p, cTn.dec q, cA.dec z with
      | some o, some c, some i, some x, some n, some a, some b, some l => some ⟨a, b, o, c, i, x, n, l⟩
      | _, _, _, _, _, _, _, _ => none
    | _, _ => none

def CIn.go (s : CIn) : Bool := ltB .i64 s.n 8#64
def CIn.x (s : CIn) : W := remB .i64 s.n 2#64
def CIn.y (s : CIn) : W := remB .i64 (quoB .i64 s.n 2#64) 2#64
def CIn.c (s : CIn) : W := quoB .i64 s.n 4#64
def CIn.skip (s : CIn) : Bool := (markB s.a s.i &&& bitN s.x == 0#64) || (markB s.b s.i &&& bitN s.y == 0#64) || (s.carry &&& bitN s.c == 0#64)
def CIn.put (s : CIn) (over : W) : CIn := ⟨s.a, s.b, s.less, s.carry, s.i, s.next ||| bitN over, s.n + 1#64, upd s.l (ixN s.i) (s.l (ixN s.i) ||| bitN (s.x + s.y + s.c))⟩
def CIn.below (s : CIn) : Bool := ltB .i64 s.x (s.y + s.c)
def CIn.step (s : CIn) : Rd CIn :=
  .br s.go (.br s.skip (.norm ⟨s.a, s.b, s.less, s.carry, s.i, s.next, s.n + 1#64, s.l⟩)
    (.br s.less (.br s.below (.norm (s.put 1#64)) (.norm (s.put 0#64))) (.norm (s.put (quoB .i64 (s.x + s.y + s.c) 2#64))))) (.exit 2 s)
def CIn.over (s : CIn) : W := if s.less then (if s.below then 1#64 else 0#64) else quoB .i64 (s.x + s.y + s.c) 2#64
def CIn.nxt (s : CIn) : CIn := if s.skip then ⟨s.a, s.b, s.less, s.carry, s.i, s.next, s.n + 1#64, s.l⟩ else s.put s.over
def CIn.inv (s : CIn) : Prop := s.n.toNat ≤ 8 ∧ s.i.toNat < 64
def CIn.mu (s : CIn) : Nat := 8 - s.n.toNat

theorem CIn.dec (s : CIn) (h : s.inv) (hg : s.go = true) : s.nxt.inv ∧ s.nxt.mu < s.mu := by
  have h1 : s.n.toNat ≤ 8 := h.1
  rw [CIn.go, ltB_nat (by omega) (by decide), decide_eq_true_eq] at hg
  have hg : s.n.toNat < 8 := hg
  have e : (s.n + 1#64).toNat = s.n.toNat + 1 := succ_nat (by omega)
  have k : s.nxt.n = s.n + 1#64 ∧ s.nxt.i = s.i := by unfold CIn.nxt; split <;> exact ⟨rfl, rfl⟩
  refine ⟨⟨?_, ?_⟩, ?_⟩
  · rw [k.1, e]; omega
  · rw [k.2]; exact h.2
  · rw [CIn.mu, CIn.mu, k.1, e]; omega

def cInT (s : CIn) : Rd CIn := .exit 2 (runN CIn.go CIn.nxt 8 s)

theorem cInGoal (s : CIn) (h : s.inv) : LoopGoal Try.prog (loopAt Try.prog 62 pCIn) lpCIn cInT s 4 84 0 := by
  refine lp_rule (cx := ⟨Try.prog, tabOf l6, inlF Try.prog (tabOf l6) noHooks 2⟩) g6 (inlF_ok g6 2) (Λ := fun _ => none) (p := []) lpCIn CIn.inv CIn.mu CIn.step cInT 4 84 0 (fun _ => ⟨rfl, rfl⟩) ?_ ?_ s h
  · intro s r h hi
    exact fl_ok (g := s.go) (L := ixs s.i 64 2) (by kernel_rfl) (fun _ => ixs_hold (by decide) hi.2 _)
  · refine good_run CIn.dec (fun s h => by simp only [CIn.mu]; omega) ?_ ?_
    · intro s hi hg
      simp only [CIn.step, Rd.sel, hg, if_true, CIn.nxt, CIn.over]
      cases s.skip <;> cases s.less <;> cases s.below <;> rfl
    · intro s hi hg
      simp only [CIn.step, Rd.sel, hg, Bool.false_eq_true, if_false]

structure COut where
  a : Tn
  b : Tn
  less : Bool
  carry : W
  i : W
  l : Nat → W

noncomputable def lpCOut : Lp COut where
  keys := [2, 3, 4, 7, 8, 9]
  names := [0, 1, 3]
  scr := wrAt Try.prog 62 pCOut
  vals s := [eB s.less, .ptr 0 [], .ptr 1 [], .ptr 3 [], eI s.carry, eI s.i]
  blks s := [⟨24, eTn s.a⟩, ⟨24, eTn s.b⟩, ⟨71, cA.enc s.l⟩]
  dec vs bs := match vs, bs with
    | [o, _, _, _, c, i], [⟨_, p⟩, ⟨_, q⟩, ⟨_, z⟩] => match cB.dec o, cI.dec c, cI.dec i, cTn.dec p, cTn.dec q, cA.dec z with
      | some o, some c, some i, some a, some b, some l => some ⟨a, b, o, c, i, l⟩
      | _, _, _, _, _, _ => none
    | _, _ => none

def COut.inn (s : COut) : CIn := runN CIn.go CIn.nxt 8 ⟨s.a, s.b, s.less, s.carry, s.i, 0#64, 0#64, s.l⟩
def COut.go (s : COut) : Bool := ltB .i64 s.i 64#64
def COut.nxt (s : COut) : COut := ⟨s.inn.a, s.inn.b, s.inn.less, s.inn.next, s.inn.i + 1#64, s.inn.l⟩
def COut.step (s : COut) : Rd COut := .br s.go (.norm s.nxt) (.exit 0 s)
def COut.inv (s : COut) : Prop := s.i.toNat ≤ 64
def COut.mu (s : COut) : Nat := 64 - s.i.toNat

theorem CIn.keep (k : Nat) (s : CIn) : (runN CIn.go CIn.nxt k s).a = s.a ∧ (runN CIn.go CIn.nxt k s).b = s.b ∧ (runN CIn.go CIn.nxt k s).less = s.less ∧ (runN CIn.go CIn.nxt k s).carry = s.carry ∧ (runN CIn.go CIn.nxt k s).i = s.i := by
  refine runN_inv (fun t => t.a = s.a ∧ t.b = s.b ∧ t.less = s.less ∧ t.carry = s.carry ∧ t.i = s.i) ?_ k s ⟨rfl, rfl, rfl, rfl, rfl⟩
  intro t h _
  unfold CIn.nxt
  split <;> exact h

theorem COut.dec (s : COut) (h : s.inv) (hg : s.go = true) : s.nxt.inv ∧ s.nxt.mu < s.mu := by
  have h' : s.i.toNat ≤ 64 := h
  rw [COut.go, ltB_nat (by omega) (by decide), decide_eq_true_eq] at hg
  have hg : s.i.toNat < 64 := hg
  have e : (s.i + 1#64).toNat = s.i.toNat + 1 := succ_nat (by omega)
  have k : s.nxt.i = s.i + 1#64 := by unfold COut.nxt COut.inn; simp only [(CIn.keep _ _).2.2.2.2]
  simp only [COut.inv, COut.mu, k, e]
  omega

noncomputable def hCIn : Hook := fun p => if p == pCIn then some (lpCIn.hk cInT) else none
def cOutT (s : COut) : Rd COut := .exit 0 (runN COut.go COut.nxt 64 s)

theorem cOutGoal (s : COut) (h : s.inv) : LoopGoal Try.prog (loopAt Try.prog 62 pCOut) lpCOut cOutT s 4 84 0 := by
  refine lp_rule (cx := ⟨Try.prog, tabOf l6, inlF Try.prog (tabOf l6) noHooks 2⟩) g6 (inlF_ok g6 2) (Λ := hCIn) (p := [1, 1, 1, 0, 1, 4, 5]) lpCOut COut.inv COut.mu COut.step cOutT 4 84 0 (fun _ => ⟨rfl, rfl⟩) ?_ ?_ s h
  · intro s r h hi
    refine fl_ok (g := s.go) (L := [LoopGoal Try.prog (loopAt Try.prog 62 pCIn) lpCIn cInT ⟨s.a, s.b, s.less, s.carry, s.i, 0#64, 0#64, s.l⟩ 4 84 0]) (by kernel_rfl) ?_
    intro hg p hp
    simp only [List.mem_singleton] at hp
    subst hp
    refine cInGoal _ ⟨by show (0#64 : W).toNat ≤ 8; decide, ?_⟩
    have h' : s.i.toNat ≤ 64 := hi
    rw [COut.go, ltB_nat (by omega) (by decide), decide_eq_true_eq] at hg
    exact hg
  · refine good_run COut.dec (fun s h => by simp only [COut.mu]; omega) ?_ ?_
    · intro s hi hg
      simp only [COut.step, Rd.sel, hg, if_true]
    · intro s hi hg
      simp only [COut.step, Rd.sel, hg, Bool.false_eq_true, if_false]

def carL (a b : Tn) (less : Bool) : Nat → W := (runN COut.go COut.nxt 64 ⟨a, b, less, 1#64, 0#64, fun _ => 0#64⟩).l

noncomputable def hCar : FuncId → Hook := fun f p => if f == 62 && p == pCOut then some (lpCOut.hk cOutT) else none

theorem k62 : ConOk Try.prog 62 (con3 cTn cTn cB fun a b less => eTn (made (carL a b less))) :=
  con3_ok g6 (Λ := hCar) 5 (fun _ _ _ => rfl) (fun a b less => Ev.fl (g := true) (L := [LoopGoal Try.prog (loopAt Try.prog 62 pCOut) lpCOut cOutT ⟨a, b, less, 1#64, 0#64, fun _ => 0#64⟩ 4 84 0]) (by kernel_rfl)
    (fun _ p hp => by simp only [List.mem_singleton] at hp; subst hp; exact cOutGoal _ (by show (0#64 : W).toNat ≤ 64; decide)))

def l7 : List (FuncId × Con) := (62, con3 cTn cTn cB fun a b less => eTn (made (carL a b less))) :: (25, con3 cI cTn cTn fun op a b => resTE (bad2 a b) (made (bitsL op a b))) :: l6
theorem g7 : TabOk Try.prog (tabOf l7) := tabOf_cons (tabOf_cons g6 k25) k62

theorem k21 : ConOk Try.prog 21 (con2 cTn cTn fun a b => resTE (bad2 a b) (made (carL a b false))) :=
  con2_ok g7 (Λ := noHooks) 5 (fun _ _ => rfl) (fun a b => Ev.of (by kernel_rfl))
theorem k22 : ConOk Try.prog 22 (con2 cTn cTn fun a b => resTE (bad2 a b) (made (carL a b true))) :=
  con2_ok g7 (Λ := noHooks) 5 (fun _ _ => rfl) (fun a b => Ev.of (by kernel_rfl))
end Go.Rf
