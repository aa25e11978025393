/- Tnums: the document's shifts, cuts and products. -/
import Derived.Test.YtkfgohhmicfnhaaTn7
set_option linter.unusedVariables false
set_option linter.unusedSimpArgs false
namespace Go.Rf
open Go.Proofs

structure MvS where
  t : Tn
  by' : W
  size : W
  most : W
  i : W
  l : Nat → W

def pMv : List Nat := [1, 1, 0, 1, 4]

noncomputable def lpMv : Lp MvS where
  keys := [1, 2, 3, 4, 9, 10]
  names := [0, 2]
  scr := wrAt Try.prog 70 pMv
  vals s := [eI s.by', eI s.size, eI s.most, .ptr 0 [], .ptr 2 [], eI s.i]
  blks s := [⟨24, eTn s.t⟩, ⟨71, cA.enc s.l⟩]
  dec vs bs := match vs, bs with
    | [b, z, m, _, _, i], [⟨_, p⟩, ⟨_, q⟩] => match cI.dec b, cI.dec z, cI.dec m, cI.dec i, cTn.dec p, cA.dec q with
      | some b, some z, some m, some i, some t, some l => some ⟨t, b, z, m, i, l⟩
      | _, _, _, _, _, _ => none
    | _, _ => none

def MvS.go (s : MvS) : Bool := ltB .i64 s.i 64#64
def MvS.past (s : MvS) : Bool := leB .i64 0#64 s.most && ltB .i64 s.most (s.i + s.by')
def MvS.fits (s : MvS) (at' : W) : Bool := ltB .i64 s.i s.size && leB .i64 0#64 at' && ltB .i64 at' 64#64
def MvS.put (s : MvS) (l : Nat → W) : MvS := ⟨s.t, s.by', s.size, s.most, s.i + 1#64, l⟩
def MvS.one (s : MvS) : Nat → W := upd s.l (ixN s.i) 1#64
def MvS.mk2 (s : MvS) (at' : W) : Nat → W := upd s.one (ixN s.i) (markB s.t at')
def MvS.step (s : MvS) : Rd MvS :=
  .br s.go (.br s.past
    (.br (s.fits s.most) (.norm (s.put (s.mk2 s.most))) (.norm (s.put s.one)))
    (.br (s.fits (s.i + s.by')) (.norm (s.put (s.mk2 (s.i + s.by')))) (.norm (s.put s.one)))) (.exit 0 s)
def MvS.at' (s : MvS) : W := if s.past then s.most else s.i + s.by'
def MvS.nxt (s : MvS) : MvS := s.put (if s.fits s.at' then s.mk2 s.at' else s.one)
def MvS.inv (s : MvS) : Prop := s.i.toNat ≤ 64
def MvS.mu (s : MvS) : Nat := 64 - s.i.toNat

theorem MvS.dec (s : MvS) (h : s.inv) (hg : s.go = true) : s.nxt.inv ∧ s.nxt.mu < s.mu := by
  have h' : s.i.toNat ≤ 64 := h
  rw [MvS.go, ltB_nat (by omega) (by decide), decide_eq_true_eq] at hg
  have hg : s.i.toNat < 64 := hg
  have e : (s.i + 1#64).toNat = s.i.toNat + 1 := succ_nat (by omega)
  have k : s.nxt.i = s.i + 1#64 := rfl
  simp only [MvS.inv, MvS.mu, k, e]
  omega

def mvT (s : MvS) : Rd MvS := .exit 0 (runN MvS.go MvS.nxt 64 s)

theorem mvGoal (s : MvS) (h : s.inv) : LoopGoal Try.prog (loopAt Try.prog 70 pMv) lpMv mvT s 3 47 0 := by
  refine lp_rule (cx := ⟨Try.prog, tabOf l7, inlF Try.prog (tabOf l7) noHooks 2⟩) g7 (inlF_ok g7 2) (Λ := fun _ => none) (p := []) lpMv MvS.inv MvS.mu MvS.step mvT 3 47 0 (fun _ => ⟨rfl, rfl⟩) ?_ ?_ s h
  · intro s r h hi
    refine fl_ok (g := s.go) (L := ixs s.i 64 3) (by kernel_rfl) (fun hg => ixs_hold (by decide) ?_ _)
    have h' : s.i.toNat ≤ 64 := hi
    rw [MvS.go, ltB_nat (by omega) (by decide), decide_eq_true_eq] at hg
    exact hg
  · refine good_run MvS.dec (fun s h => by simp only [MvS.mu]; omega) ?_ ?_
    · intro s hi hg
      by_cases h1 : s.past = true
      · have e : s.at' = s.most := by unfold MvS.at'; rw [if_pos h1]
        simp only [MvS.step, Rd.sel, hg, if_true, MvS.nxt, e, h1]
        by_cases h2 : s.fits s.most = true <;> simp [h2]
      · have e : s.at' = s.i + s.by' := by unfold MvS.at'; rw [if_neg h1]
        simp only [MvS.step, Rd.sel, hg, if_true, MvS.nxt, e, h1]
        by_cases h2 : s.fits (s.i + s.by') = true <;> simp [h2]
    · intro s hi hg
      simp only [MvS.step, Rd.sel, hg, Bool.false_eq_true, if_false]

def mvL (t : Tn) (by' size most : W) : Nat → W := (runN MvS.go MvS.nxt 64 ⟨t, by', size, most, 0#64, fun _ => 0#64⟩).l

noncomputable def hMv : FuncId → Hook := fun f p => if f == 70 && p == pMv then some (lpMv.hk mvT) else none

theorem k70 : ConOk Try.prog 70 (con4 cTn cI cI cI fun t b z m => eTn (made (mvL t b z m))) :=
  con4_ok g7 (Λ := hMv) 5 (fun _ _ _ _ => rfl) (fun t b z m => Ev.fl (g := true) (L := [LoopGoal Try.prog (loopAt Try.prog 70 pMv) lpMv mvT ⟨t, b, z, m, 0#64, fun _ => 0#64⟩ 3 47 0]) (by kernel_rfl)
    (fun _ p hp => by simp only [List.mem_singleton] at hp; subst hp; exact mvGoal _ (by show (0#64 : W).toNat ≤ 64; decide)))

def l8 : List (FuncId × Con) :=
  (70, con4 cTn cI cI cI fun t b z m => eTn (made (mvL t b z m))) ::
  (21, con2 cTn cTn fun a b => resTE (bad2 a b) (made (carL a b false))) ::
  (22, con2 cTn cTn fun a b => resTE (bad2 a b) (made (carL a b true))) :: l7
theorem g8 : TabOk Try.prog (tabOf l8) := tabOf_cons (tabOf_cons (tabOf_cons g7 k22) k21) k70

def badCut (t : Tn) (s : W) : Bool := !may t || (s != 8#64 && s != 16#64 && s != 32#64 && s != 64#64)

theorem k38 : ConOk Try.prog 38 (con2 cTn cI fun t n => resTE (badSh t n) (made (mvL t (-n) 64#64 (-1#64)))) :=
  con2_ok g8 (Λ := noHooks) 5 (fun _ _ => rfl) (fun a b => Ev.of (by kernel_rfl))
theorem k40 : ConOk Try.prog 40 (con2 cTn cI fun t n => resTE (badSh t n) (made (mvL t n 64#64 (-1#64)))) :=
  con2_ok g8 (Λ := noHooks) 5 (fun _ _ => rfl) (fun a b => Ev.of (by kernel_rfl))
theorem k42 : ConOk Try.prog 42 (con3 cTn cI cI fun t n s => resTE (badArsh t n s) (made (mvL t n s (s - 1#64)))) :=
  con3_ok g8 (Λ := noHooks) 5 (fun _ _ _ => rfl) (fun a b c => Ev.of (by kernel_rfl))
theorem k44 : ConOk Try.prog 44 (con2 cTn cI fun t s => resTE (badCut t s) (made (mvL t 0#64 s (-1#64)))) :=
  con2_ok g8 (Λ := noHooks) 5 (fun _ _ => rfl) (fun a b => Ev.of (by kernel_rfl))

def l9 : List (FuncId × Con) :=
  (38, con2 cTn cI fun t n => resTE (badSh t n) (made (mvL t (-n) 64#64 (-1#64)))) ::
  (40, con2 cTn cI fun t n => resTE (badSh t n) (made (mvL t n 64#64 (-1#64)))) ::
  (42, con3 cTn cI cI fun t n s => resTE (badArsh t n s) (made (mvL t n s (s - 1#64)))) ::
  (44, con2 cTn cI fun t s => resTE (badCut t s) (made (mvL t 0#64 s (-1#64)))) :: l8
theorem g9 : TabOk Try.prog (tabOf l9) := tabOf_cons (tabOf_cons (tabOf_cons (tabOf_cons g8 k44) k42) k40) k38

/-! Products. -/
structure MuS where
  a : Tn
  b : Tn
  s : Tn
  i : W

def pMu : List Nat := [1, 1, 1, 0, 1, 4]

noncomputable def lpMu : Lp MuS where
  keys := [2, 3, 6, 7]
  names := [0, 1, 3]
  scr := wrAt Try.prog 23 pMu
  vals s := [.ptr 0 [], .ptr 1 [], .ptr 3 [], eI s.i]
  blks s := [⟨24, eTn s.a⟩, ⟨24, eTn s.b⟩, ⟨24, eTn s.s⟩]
  dec vs bs := match vs, bs with
    | [_, _, _, i], [⟨_, p⟩, ⟨_, q⟩, ⟨_, z⟩] => match cI.dec i, cTn.dec p, cTn.dec q, cTn.dec z with
      | some i, some a, some b, some s => some ⟨a, b, s, i⟩
      | _, _, _, _ => none
    | _, _ => none

def MuS.go (s : MuS) : Bool := ltB .i64 s.i 64#64
def MuS.m (s : MuS) : W := markB s.a s.i
def MuS.up (s : MuS) : Tn := Tn.mux (badSh s.b s.i) nil (made (mvL s.b (-s.i) 64#64 (-1#64)))
def refAdd (a b : Tn) : Tn := Tn.mux (bad2 a b) nil (made (carL a b false))
def MuS.is2 (s : MuS) : Bool := s.m == 2#64
def MuS.is3 (s : MuS) : Bool := s.m == 3#64
def MuS.put (s : MuS) (t : Tn) : MuS := ⟨s.a, s.b, t, s.i + 1#64⟩
def MuS.anyUp (s : MuS) : Tn := ⟨0#64, s.up.v ||| s.up.m⟩
def MuS.step (s : MuS) : Rd MuS :=
  .br s.go (.br s.is2 (.br s.is3 (.norm (s.put (refAdd (refAdd s.s s.up) s.anyUp))) (.norm (s.put (refAdd s.s s.up)))) (.br s.is3 (.norm (s.put (refAdd s.s s.anyUp))) (.norm (s.put s.s)))) (.exit 0 s)
def MuS.s1 (s : MuS) : Tn := if s.is2 then refAdd s.s s.up else s.s
def MuS.nxt (s : MuS) : MuS := s.put (if s.is3 then refAdd s.s1 s.anyUp else s.s1)
def MuS.inv (s : MuS) : Prop := s.i.toNat ≤ 64
def MuS.mu (s : MuS) : Nat := 64 - s.i.toNat

theorem MuS.dec (s : MuS) (h : s.inv) (hg : s.go = true) : s.nxt.inv ∧ s.nxt.mu < s.mu := by
  have h' : s.i.toNat ≤ 64 := h
  rw [MuS.go, ltB_nat (by omega) (by decide), decide_eq_true_eq] at hg
  have hg : s.i.toNat < 64 := hg
  have e : (s.i + 1#64).toNat = s.i.toNat + 1 := succ_nat (by omega)
  have k : s.nxt.i = s.i + 1#64 := rfl
  simp only [MuS.inv, MuS.mu, k, e]
  omega

def muT (s : MuS) : Rd MuS := .exit 0 (runN MuS.go MuS.nxt 64 s)

theorem muGoal (s : MuS) (h : s.inv) : LoopGoal Try.prog (loopAt Try.prog 23 pMu) lpMu muT s 4 56 0 := by
  refine lp_rule (cx := ⟨Try.prog, tabOf l9, inlF Try.prog (tabOf l9) noHooks 2⟩) g9 (inlF_ok g9 2) (Λ := fun _ => none) (p := []) lpMu MuS.inv MuS.mu MuS.step muT 4 56 0 (fun _ => ⟨rfl, rfl⟩) ?_ ?_ s h
  · intro s r h hi
    exact ⟨.tt, by kernel_rfl, trivial⟩
  · refine good_run MuS.dec (fun s h => by simp only [MuS.mu]; omega) ?_ ?_
    · intro s hi hg
      simp only [MuS.step, Rd.sel, hg, if_true, MuS.nxt, MuS.s1]
      cases s.is2 <;> cases s.is3 <;> rfl
    · intro s hi hg
      simp only [MuS.step, Rd.sel, hg, Bool.false_eq_true, if_false]

def refMul (a b : Tn) : Tn := (runN MuS.go MuS.nxt 64 ⟨a, b, ⟨0#64, 0#64⟩, 0#64⟩).s

noncomputable def hMu : FuncId → Hook := fun f p => if f == 23 && p == pMu then some (lpMu.hk muT) else none

theorem k23 : ConOk Try.prog 23 (con2 cTn cTn fun a b => resTE (bad2 a b) (refMul a b)) :=
  con2_ok g9 (Λ := hMu) 5 (fun _ _ => rfl) (fun a b => Ev.fl (g := !bad2 a b) (L := [LoopGoal Try.prog (loopAt Try.prog 23 pMu) lpMu muT ⟨a, b, ⟨0#64, 0#64⟩, 0#64⟩ 4 56 0]) (by kernel_rfl)
    (fun _ p hp => by simp only [List.mem_singleton] at hp; subst hp; exact muGoal _ (by show (0#64 : W).toNat ≤ 64; decide)))

def lA : List (FuncId × Con) := (23, con2 cTn cTn fun a b => resTE (bad2 a b) (refMul a b)) :: l9
theorem gA : TabOk Try.prog (tabOf lA) := tabOf_cons g9 k23
end Go.Rf
