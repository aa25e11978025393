/- Tnums: the document's Meet. -/
import Derived.Test.YtkfgohhmicfnhaaTnE
import Derived.KernelRfl
set_option linter.unusedVariables false
set_option linter.unusedSimpArgs false
namespace Go.Rf
open Go.Proofs

structure MeS where
  a : Tn
  b : Tn
  r : Tn
  res : Bool
  i : W
  l : Nat → W

noncomputable def lpMe : Lp MeS where
  keys := [2, 3, 4, 5, 6, 7]
  names := [0, 1, 2, 3]
  scr := wrAt Try.prog 49 pFr
  vals s := [.ptr 0 [], .ptr 1 [], .ptr 2 [], eB s.res, .ptr 3 [], eI s.i]
  blks s := [⟨24, eTn s.a⟩, ⟨24, eTn s.b⟩, ⟨24, eTn s.r⟩, ⟨71, cA.enc s.l⟩]
  dec vs bs := match vs, bs with
    | [_, _, _, r, _, i], [⟨_, p⟩, ⟨_, q⟩, ⟨_, z⟩, ⟨_, l⟩] => match cB.dec r, cI.dec i, cTn.dec p, cTn.dec q, cTn.dec z, cA.dec l with
      | some r, some i, some a, some b, some z, some l => some ⟨a, b, z, r, i, l⟩
      | _, _, _, _, _, _ => none
    | _, _ => none

def MeS.more (s : MeS) : Bool := ltB .i64 s.i 64#64
def MeS.l' (s : MeS) : Nat → W := upd s.l (ixN s.i) (markB s.a s.i &&& markB s.b s.i)
def MeS.bad (s : MeS) : Bool := s.l' (ixN s.i) == 0#64
def MeS.go (s : MeS) : Bool := s.more && !s.bad
def MeS.nxt (s : MeS) : MeS := ⟨s.a, s.b, s.r, s.res, s.i + 1#64, s.l'⟩
def MeS.rt (s : MeS) : MeS := ⟨s.a, s.b, nil, false, s.i, s.l'⟩
def MeS.step (s : MeS) : Rd MeS := .br s.more (.br s.bad (.ret s.rt) (.norm s.nxt)) (.exit 0 s)
def MeS.inv (s : MeS) : Prop := s.i.toNat ≤ 64
def MeS.mu (s : MeS) : Nat := 64 - s.i.toNat

theorem MeS.dec (s : MeS) (h : s.inv) (hg : s.go = true) : s.nxt.inv ∧ s.nxt.mu < s.mu := by
  have h' : s.i.toNat ≤ 64 := h
  simp only [MeS.go, MeS.more, Bool.and_eq_true, le64 h', decide_eq_true_eq] at hg
  have e : s.nxt.i.toNat = s.i.toNat + 1 := succ_nat (by omega)
  simp only [MeS.inv, MeS.mu, e]
  omega

def meT (s : MeS) : Rd MeS := .br (runN MeS.go MeS.nxt 64 s).more (.ret (runN MeS.go MeS.nxt 64 s).rt) (.exit 0 (runN MeS.go MeS.nxt 64 s))

theorem meGoal (s : MeS) (h : s.inv) : LoopGoal Try.prog (loopAt Try.prog 49 pFr) lpMe meT s 4 37 0 := by
  refine lp_rule (cx := ⟨Try.prog, tabOf lG, inlF Try.prog (tabOf lG) noHooks 2⟩) gG (inlF_ok gG 2) (Λ := fun _ => none) (p := []) lpMe MeS.inv MeS.mu MeS.step meT 4 37 0 (fun _ => ⟨rfl, rfl⟩) ?_ ?_ s h
  · intro s r h hi
    refine fl_ok (g := s.more) (L := ixs s.i 64 2) (by kernel_rfl) (fun hg => ixs_hold (by decide) ?_ _)
    have h' : s.i.toNat ≤ 64 := hi
    simpa only [MeS.more, le64 h', decide_eq_true_eq] using hg
  · refine good_ret MeS.dec (fun s h => by simp only [MeS.mu]; omega) ?_ ?_ ?_
    · intro s hi hg
      simp only [MeS.go, Bool.and_eq_true, Bool.not_eq_true'] at hg
      simp only [MeS.step, Rd.sel, hg.1, hg.2, if_true, Bool.false_eq_true, if_false]
    · intro s hi hg ho
      simp only [MeS.go, ho, Bool.true_and, Bool.not_eq_false'] at hg
      simp only [MeS.step, Rd.sel, ho, hg, if_true]
    · intro s hi hg ho
      simp only [MeS.step, Rd.sel, ho, Bool.false_eq_true, if_false]

def meRun (a b : Tn) : MeS := runN MeS.go MeS.nxt 64 ⟨a, b, nil, false, 0#64, fun _ => 0#64⟩
def meetD (a b : Tn) : Tn := Tn.mux (bad2 a b) nil (Tn.mux (meRun a b).more nil (made (meRun a b).l))
def meetDB (a b : Tn) : Bool := bif bad2 a b then false else bif (meRun a b).more then false else true
noncomputable def hMe : FuncId → Hook := fun f p => if f == 49 && p == pFr then some (lpMe.hk meT) else none
theorem k49 : ConOk Try.prog 49 (con2 cTn cTn fun a b => pair (eTn (meetD a b)) (eB (meetDB a b))) :=
  con2_ok gG (Λ := hMe) 5 (fun _ _ => rfl) (fun a b => Ev.fl (g := !bad2 a b) (L := [LoopGoal Try.prog (loopAt Try.prog 49 pFr) lpMe meT ⟨a, b, nil, false, 0#64, fun _ => 0#64⟩ 4 37 0]) (by kernel_rfl)
    (fun _ p hp => by simp only [List.mem_singleton] at hp; subst hp; exact meGoal _ (by show (0#64 : W).toNat ≤ 64; decide)))

/-! Has. -/
structure HaS where
  t : Tn
  n : W
  res : Bool
  i : W

noncomputable def lpHa : Lp HaS where
  keys := [1, 2, 4, 5]
  names := [0]
  scr := wrAt Try.prog 51 pIn
  vals s := [cW.enc s.n, .ptr 0 [], eB s.res, eI s.i]
  blks s := [⟨24, eTn s.t⟩]
  dec vs bs := match vs, bs with
    | [n, _, r, i], [⟨_, p⟩] => match cW.dec n, cB.dec r, cI.dec i, cTn.dec p with
      | some n, some r, some i, some t => some ⟨t, n, r, i⟩
      | _, _, _, _ => none
    | _, _ => none

def HaS.more (s : HaS) : Bool := ltB .i64 s.i 64#64
def HaS.one (s : HaS) : Bool := bitB s.n s.i
def HaS.off (s : HaS) (z : W) : Bool := (markB s.t s.i &&& z) == 0#64
def HaS.bad (s : HaS) : Bool := if s.one then s.off 2#64 else s.off 1#64
def HaS.go (s : HaS) : Bool := s.more && !s.bad
def HaS.nxt (s : HaS) : HaS := ⟨s.t, s.n, s.res, s.i + 1#64⟩
def HaS.rt (s : HaS) : HaS := ⟨s.t, s.n, false, s.i⟩
def HaS.step (s : HaS) : Rd HaS := .br s.more (.br s.one (.br (s.off 2#64) (.ret s.rt) (.norm s.nxt)) (.br (s.off 1#64) (.ret s.rt) (.norm s.nxt))) (.exit 0 s)
def HaS.inv (s : HaS) : Prop := s.i.toNat ≤ 64
def HaS.mu (s : HaS) : Nat := 64 - s.i.toNat

theorem HaS.dec (s : HaS) (h : s.inv) (hg : s.go = true) : s.nxt.inv ∧ s.nxt.mu < s.mu := by
  have h' : s.i.toNat ≤ 64 := h
  simp only [HaS.go, HaS.more, Bool.and_eq_true, le64 h', decide_eq_true_eq] at hg
  have e : s.nxt.i.toNat = s.i.toNat + 1 := succ_nat (by omega)
  simp only [HaS.inv, HaS.mu, e]
  omega

def haT (s : HaS) : Rd HaS := .br (runN HaS.go HaS.nxt 64 s).more (.ret (runN HaS.go HaS.nxt 64 s).rt) (.exit 0 (runN HaS.go HaS.nxt 64 s))

theorem haGoal (s : HaS) (h : s.inv) : LoopGoal Try.prog (loopAt Try.prog 51 pIn) lpHa haT s 1 26 0 := by
  refine lp_rule (cx := ⟨Try.prog, tabOf lG, inlF Try.prog (tabOf lG) noHooks 2⟩) gG (inlF_ok gG 2) (Λ := fun _ => none) (p := []) lpHa HaS.inv HaS.mu HaS.step haT 1 26 0 (fun _ => ⟨rfl, rfl⟩) ?_ ?_ s h
  · intro s r h hi
    exact ⟨.tt, by kernel_rfl, trivial⟩
  · refine good_ret HaS.dec (fun s h => by simp only [HaS.mu]; omega) ?_ ?_ ?_
    · intro s hi hg
      simp only [HaS.go, HaS.bad, Bool.and_eq_true, Bool.not_eq_true'] at hg
      simp only [HaS.step, Rd.sel, hg.1, if_true]
      cases h : s.one <;> rw [h] at hg <;> simp_all
    · intro s hi hg ho
      simp only [HaS.go, HaS.bad, ho, Bool.true_and, Bool.not_eq_false'] at hg
      simp only [HaS.step, Rd.sel, ho, if_true]
      cases h : s.one <;> rw [h] at hg <;> simp_all
    · intro s hi hg ho
      simp only [HaS.step, Rd.sel, ho, Bool.false_eq_true, if_false]

def haRun (t : Tn) (n : W) : Bool := (runN HaS.go HaS.nxt 64 ⟨t, n, false, 0#64⟩).more
def hasD (t : Tn) (n : W) : Bool := bif !may t then false else bif haRun t n then false else true
noncomputable def hHa : FuncId → Hook := fun f p => if f == 51 && p == pIn then some (lpHa.hk haT) else none

theorem k51 : ConOk Try.prog 51 (con2 cTn cW fun a b => eB (hasD a b)) :=
  con2_ok gG (Λ := hHa) 5 (fun _ _ => rfl) (fun a b => Ev.fl (g := !(!may a)) (L := [LoopGoal Try.prog (loopAt Try.prog 51 pIn) lpHa haT ⟨a, b, false, 0#64⟩ 1 26 0]) (by kernel_rfl)
    (fun _ p hp => by simp only [List.mem_singleton] at hp; subst hp; exact haGoal _ (by show (0#64 : W).toNat ≤ 64; decide)))

noncomputable def lH : List (FuncId × Con) :=
  (51, con2 cTn cW fun a b => eB (hasD a b)) ::
  (49, con2 cTn cTn fun a b => pair (eTn (meetD a b)) (eB (meetDB a b))) ::
  (35, con2 cTn cTn fun a b => resTE (bad2 a b) (made (joL a b))) ::
  (53, con1 cTn fun t => eI (freeD t)) ::
  (36, con2 cTn cTn fun a b => eB (inD a b)) :: lG
theorem gH : TabOk Try.prog (tabOf lH) := tabOf_cons (tabOf_cons (tabOf_cons (tabOf_cons (tabOf_cons gG k36) k53) k35) k49) k51
end Go.Rf
