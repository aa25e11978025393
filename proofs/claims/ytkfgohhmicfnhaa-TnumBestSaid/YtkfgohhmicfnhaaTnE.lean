/- Tnums: the document's sets: how many, Join, Meet. -/
import Derived.Test.YtkfgohhmicfnhaaTnD
set_option linter.unusedVariables false
set_option linter.unusedSimpArgs false
namespace Go.Rf
open Go.Proofs

/-! Free. -/
structure FrS where
  t : Tn
  n : W
  i : W

def pFr : List Nat := [1, 1, 1, 0, 1, 4]

noncomputable def lpFr : Lp FrS where
  keys := [1, 3, 4]
  names := [0]
  scr := wrAt Try.prog 53 pFr
  vals s := [.ptr 0 [], eI s.n, eI s.i]
  blks s := [⟨24, eTn s.t⟩]
  dec vs bs := match vs, bs with
    | [_, n, i], [⟨_, p⟩] => match cI.dec n, cI.dec i, cTn.dec p with
      | some n, some i, some t => some ⟨t, n, i⟩
      | _, _, _ => none
    | _, _ => none

def FrS.go (s : FrS) : Bool := ltB .i64 s.i 64#64
def FrS.is (s : FrS) : Bool := markB s.t s.i == 3#64
def FrS.nxt (s : FrS) : FrS := if s.is then ⟨s.t, s.n + 1#64, s.i + 1#64⟩ else ⟨s.t, s.n, s.i + 1#64⟩
def FrS.step (s : FrS) : Rd FrS := .br s.go (.br s.is (.norm ⟨s.t, s.n + 1#64, s.i + 1#64⟩) (.norm ⟨s.t, s.n, s.i + 1#64⟩)) (.exit 0 s)
def FrS.inv (s : FrS) : Prop := s.i.toNat ≤ 64
def FrS.mu (s : FrS) : Nat := 64 - s.i.toNat

theorem FrS.dec (s : FrS) (h : s.inv) (hg : s.go = true) : s.nxt.inv ∧ s.nxt.mu < s.mu := by
  have h' : s.i.toNat ≤ 64 := h
  simp only [FrS.go, le64 h', decide_eq_true_eq] at hg
  have k : s.nxt.i = s.i + 1#64 := by unfold FrS.nxt; split <;> rfl
  have e : s.nxt.i.toNat = s.i.toNat + 1 := by rw [k]; exact succ_nat (by omega)
  simp only [FrS.inv, FrS.mu, e]
  omega

def frT (s : FrS) : Rd FrS := .exit 0 (runN FrS.go FrS.nxt 64 s)

theorem frGoal (s : FrS) (h : s.inv) : LoopGoal Try.prog (loopAt Try.prog 53 pFr) lpFr frT s 1 19 0 := by
  refine lp_rule (cx := ⟨Try.prog, tabOf lG, inlF Try.prog (tabOf lG) noHooks 2⟩) gG (inlF_ok gG 2) (Λ := fun _ => none) (p := []) lpFr FrS.inv FrS.mu FrS.step frT 1 19 0 (fun _ => ⟨rfl, rfl⟩) ?_ ?_ s h
  · intro s r h hi
    exact ⟨.tt, by kernel_rfl, trivial⟩
  · refine good_run FrS.dec (fun s h => by simp only [FrS.mu]; omega) ?_ ?_
    · intro s hi hg
      simp only [FrS.step, Rd.sel, hg, if_true, FrS.nxt]
      cases s.is <;> rfl
    · intro s hi hg
      simp only [FrS.step, Rd.sel, hg, Bool.false_eq_true, if_false]

def freeD (t : Tn) : W := bif !may t then (-1#64) else (runN FrS.go FrS.nxt 64 ⟨t, 0#64, 0#64⟩).n
noncomputable def hFr : FuncId → Hook := fun f p => if f == 53 && p == pFr then some (lpFr.hk frT) else none

theorem k53 : ConOk Try.prog 53 (con1 cTn fun t => eI (freeD t)) :=
  con1_ok gG (Λ := hFr) 5 (fun _ => rfl) (fun t => Ev.fl (g := !(!may t)) (L := [LoopGoal Try.prog (loopAt Try.prog 53 pFr) lpFr frT ⟨t, 0#64, 0#64⟩ 1 19 0]) (by kernel_rfl)
    (fun _ p hp => by simp only [List.mem_singleton] at hp; subst hp; exact frGoal _ (by show (0#64 : W).toNat ≤ 64; decide)))

/-! Join. -/
structure JoS where
  a : Tn
  b : Tn
  i : W
  l : Nat → W

noncomputable def lpJo : Lp JoS where
  keys := [2, 3, 6, 7]
  names := [0, 1, 3]
  scr := wrAt Try.prog 35 pFr
  vals s := [.ptr 0 [], .ptr 1 [], .ptr 3 [], eI s.i]
  blks s := [⟨24, eTn s.a⟩, ⟨24, eTn s.b⟩, ⟨71, cA.enc s.l⟩]
  dec vs bs := match vs, bs with
    | [_, _, _, i], [⟨_, p⟩, ⟨_, q⟩, ⟨_, l⟩] => match cI.dec i, cTn.dec p, cTn.dec q, cA.dec l with
      | some i, some a, some b, some l => some ⟨a, b, i, l⟩
      | _, _, _, _ => none
    | _, _ => none

def JoS.go (s : JoS) : Bool := ltB .i64 s.i 64#64
def JoS.nxt (s : JoS) : JoS := ⟨s.a, s.b, s.i + 1#64, upd s.l (ixN s.i) (markB s.a s.i ||| markB s.b s.i)⟩
def JoS.step (s : JoS) : Rd JoS := .br s.go (.norm s.nxt) (.exit 0 s)
def JoS.inv (s : JoS) : Prop := s.i.toNat ≤ 64
def JoS.mu (s : JoS) : Nat := 64 - s.i.toNat

theorem JoS.dec (s : JoS) (h : s.inv) (hg : s.go = true) : s.nxt.inv ∧ s.nxt.mu < s.mu := by
  have h' : s.i.toNat ≤ 64 := h
  simp only [JoS.go, le64 h', decide_eq_true_eq] at hg
  have e : s.nxt.i.toNat = s.i.toNat + 1 := succ_nat (by omega)
  simp only [JoS.inv, JoS.mu, e]
  omega

def joT (s : JoS) : Rd JoS := .exit 0 (runN JoS.go JoS.nxt 64 s)

theorem joGoal (s : JoS) (h : s.inv) : LoopGoal Try.prog (loopAt Try.prog 35 pFr) lpJo joT s 4 32 0 := by
  refine lp_rule (cx := ⟨Try.prog, tabOf lG, inlF Try.prog (tabOf lG) noHooks 2⟩) gG (inlF_ok gG 2) (Λ := fun _ => none) (p := []) lpJo JoS.inv JoS.mu JoS.step joT 4 32 0 (fun _ => ⟨rfl, rfl⟩) ?_ ?_ s h
  · intro s r h hi
    refine fl_ok (g := s.go) (L := ixs s.i 64 1) (by kernel_rfl) (fun hg => ixs_hold (by decide) ?_ _)
    have h' : s.i.toNat ≤ 64 := hi
    simpa only [JoS.go, le64 h', decide_eq_true_eq] using hg
  · refine good_run JoS.dec (fun s h => by simp only [JoS.mu]; omega) ?_ ?_
    · intro s hi hg
      simp only [JoS.step, Rd.sel, hg, if_true]
    · intro s hi hg
      simp only [JoS.step, Rd.sel, hg, Bool.false_eq_true, if_false]

def joL (a b : Tn) : Nat → W := (runN JoS.go JoS.nxt 64 ⟨a, b, 0#64, fun _ => 0#64⟩).l
noncomputable def hJo : FuncId → Hook := fun f p => if f == 35 && p == pFr then some (lpJo.hk joT) else none

theorem k35 : ConOk Try.prog 35 (con2 cTn cTn fun a b => resTE (bad2 a b) (made (joL a b))) :=
  con2_ok gG (Λ := hJo) 5 (fun _ _ => rfl) (fun a b => Ev.fl (g := !bad2 a b) (L := [LoopGoal Try.prog (loopAt Try.prog 35 pFr) lpJo joT ⟨a, b, 0#64, fun _ => 0#64⟩ 4 32 0]) (by kernel_rfl)
    (fun _ p hp => by simp only [List.mem_singleton] at hp; subst hp; exact joGoal _ (by show (0#64 : W).toNat ≤ 64; decide)))
end Go.Rf
