/- Tnums: the document's sets. -/
import Derived.Test.YtkfgohhmicfnhaaTnC
import Derived.Test.YtkfgohhmicfnhaaRfF
import Derived.KernelRfl
set_option linter.unusedVariables false
set_option linter.unusedSimpArgs false
namespace Go.Rf
open Go.Proofs

theorem le64 {i : W} (h : i.toNat ≤ 64) : ltB .i64 i 64#64 = decide (i.toNat < 64) := by
  rw [ltB_nat (by omega) (by decide)]; rfl

/-! In. -/
structure InS where
  a : Tn
  b : Tn
  res : Bool
  i : W

def pIn : List Nat := [1, 1, 0, 1, 4]

noncomputable def lpIn : Lp InS where
  keys := [2, 3, 4, 5]
  names := [0, 1]
  scr := wrAt Try.prog 36 pIn
  vals s := [.ptr 0 [], .ptr 1 [], eB s.res, eI s.i]
  blks s := [⟨24, eTn s.a⟩, ⟨24, eTn s.b⟩]
  dec vs bs := match vs, bs with
    | [_, _, r, i], [⟨_, p⟩, ⟨_, q⟩] => match cB.dec r, cI.dec i, cTn.dec p, cTn.dec q with
      | some r, some i, some a, some b => some ⟨a, b, r, i⟩
      | _, _, _, _ => none
    | _, _ => none

def InS.more (s : InS) : Bool := ltB .i64 s.i 64#64
def InS.bad (s : InS) : Bool := (markB s.a s.i ||| markB s.b s.i) != markB s.b s.i
def InS.go (s : InS) : Bool := s.more && !s.bad
def InS.nxt (s : InS) : InS := ⟨s.a, s.b, s.res, s.i + 1#64⟩
def InS.rt (s : InS) : InS := ⟨s.a, s.b, false, s.i⟩
def InS.step (s : InS) : Rd InS := .br s.more (.br s.bad (.ret s.rt) (.norm s.nxt)) (.exit 0 s)
def InS.inv (s : InS) : Prop := s.i.toNat ≤ 64
def InS.mu (s : InS) : Nat := 64 - s.i.toNat

theorem InS.dec (s : InS) (h : s.inv) (hg : s.go = true) : s.nxt.inv ∧ s.nxt.mu < s.mu := by
  have h' : s.i.toNat ≤ 64 := h
  simp only [InS.go, InS.more, Bool.and_eq_true, le64 h', decide_eq_true_eq] at hg
  have e : s.nxt.i.toNat = s.i.toNat + 1 := succ_nat (by omega)
  simp only [InS.inv, InS.mu, e]
  omega

def inT (s : InS) : Rd InS := .br (runN InS.go InS.nxt 64 s).more (.ret (runN InS.go InS.nxt 64 s).rt) (.exit 0 (runN InS.go InS.nxt 64 s))

theorem inGoal (s : InS) (h : s.inv) : LoopGoal Try.prog (loopAt Try.prog 36 pIn) lpIn inT s 2 29 0 := by
  refine lp_rule (cx := ⟨Try.prog, tabOf lG, inlF Try.prog (tabOf lG) noHooks 2⟩) gG (inlF_ok gG 2) (Λ := fun _ => none) (p := []) lpIn InS.inv InS.mu InS.step inT 2 29 0 (fun _ => ⟨rfl, rfl⟩) ?_ ?_ s h
  · intro s r h hi
    exact ⟨.tt, by kernel_rfl, trivial⟩
  · refine good_ret InS.dec (fun s h => by simp only [InS.mu]; omega) ?_ ?_ ?_
    · intro s hi hg
      simp only [InS.go, Bool.and_eq_true, Bool.not_eq_true'] at hg
      simp only [InS.step, Rd.sel, hg.1, hg.2, if_true, Bool.false_eq_true, if_false]
    · intro s hi hg ho
      simp only [InS.go, ho, Bool.true_and, Bool.not_eq_false'] at hg
      simp only [InS.step, Rd.sel, ho, hg, if_true]
    · intro s hi hg ho
      simp only [InS.step, Rd.sel, ho, Bool.false_eq_true, if_false]

def inRun (a b : Tn) : Bool := (runN InS.go InS.nxt 64 ⟨a, b, false, 0#64⟩).more
def inD (a b : Tn) : Bool := bif bad2 a b then false else bif inRun a b then false else true
noncomputable def hIn : FuncId → Hook := fun f p => if f == 36 && p == pIn then some (lpIn.hk inT) else none

theorem k36 : ConOk Try.prog 36 (con2 cTn cTn fun a b => eB (inD a b)) :=
  con2_ok gG (Λ := hIn) 5 (fun _ _ => rfl) (fun a b => Ev.fl (g := !bad2 a b) (L := [LoopGoal Try.prog (loopAt Try.prog 36 pIn) lpIn inT ⟨a, b, false, 0#64⟩ 2 29 0]) (by kernel_rfl)
    (fun _ p hp => by simp only [List.mem_singleton] at hp; subst hp; exact inGoal _ (by show (0#64 : W).toNat ≤ 64; decide)))
end Go.Rf
