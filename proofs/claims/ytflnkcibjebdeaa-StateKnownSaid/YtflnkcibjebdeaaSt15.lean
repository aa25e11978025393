/- States: loops of In and Holds. -/
import Derived.Test.YtflnkcibjebdeaaSt14
set_option linter.unusedVariables false
set_option linter.unusedSimpArgs false
set_option maxRecDepth 100000
namespace Go.Rf
open Go.Proofs
noncomputable def fIs : (Slt × Slt) → W → Bool := fun d j => and1 (shr8 d.2.h (jI j)) == 1#8 && !sureD d.1 j
def pIs : List Nat := [1, 0, 1, 2, 0, 1, 4]
noncomputable def lpIs : Lp (AL (Slt × Slt)) where
  keys := [5, 3, 2, 4]
  names := [0, 1]
  scr := wrAt Try.prog 40 pIs
  vals s := [eI s.i, .ptr 1 [], .ptr 0 [], eB false]
  blks s := [⟨33, eSlt s.d.1⟩, ⟨33, eSlt s.d.2⟩]
  dec vs bs := match vs, bs with
    | [i, _, _, _], [⟨_, x⟩, ⟨_, y⟩] => match cI.dec i, cSlt.dec x, cSlt.dec y with
      | some i, some x, some y => some ⟨(x, y), i⟩
      | _, _, _ => none
    | _, _ => none
theorem goalIs (s : AL (Slt × Slt)) (h : s.inv 8) : LoopGoal Try.prog (loopAt Try.prog 40 pIs) lpIs (AL.T 8 fIs 0) s 2 57 0 := by
  refine lp_rule (cx := ⟨Try.prog, tabOf sv7, inlF Try.prog (tabOf sv7) noHooks 2⟩) rsv7 (inlF_ok rsv7 2) (Λ := fun _ => none) (p := []) lpIs (AL.inv 8) (AL.mu 8) (AL.step 8 fIs 0) (AL.T 8 fIs 0) 2 57 0 (fun _ => ⟨rfl, rfl⟩) ?_ ?_ s h
  · intro s r h hi
    exact fl_ok (g := s.lt 8) (L := [0 ≤ toZ .i64 s.i, 0 ≤ toZ .i64 s.i]) (by kernel_rfl) (fun hg p hp => by
      simp only [List.mem_cons, List.not_mem_nil, or_false, or_self] at hp
      subst hp
      exact (AL.ix1 8 hi hg _ (List.mem_singleton.2 rfl)).1)
  · exact AL.good 8 fIs 0
noncomputable def hIs : FuncId → Hook := fun f p => if f == 40 && p == pIs then some (lpIs.hk (AL.T 8 fIs 0)) else none
noncomputable def fIa : (Sta × Sta) → W → Bool := fun d j => !inR (d.1.regs (ixN j)) (d.2.regs (ixN j))
def pIa : List Nat := [1, 1, 0, 1, 4]
noncomputable def lpIa : Lp (AL (Sta × Sta)) where
  keys := [22, 2, 3, 4]
  names := [0, 1]
  scr := wrAt Try.prog 19 pIa
  vals s := [eI s.i, .ptr 0 [], .ptr 1 [], eB false]
  blks s := [⟨36, eSta s.d.1⟩, ⟨36, eSta s.d.2⟩]
  dec vs bs := match vs, bs with
    | [i, _, _, _], [⟨_, x⟩, ⟨_, y⟩] => match cI.dec i, cSta.dec x, cSta.dec y with
      | some i, some x, some y => some ⟨(x, y), i⟩
      | _, _, _ => none
    | _, _ => none
theorem goalIa (s : AL (Sta × Sta)) (h : s.inv 11) : LoopGoal Try.prog (loopAt Try.prog 19 pIa) lpIa (AL.T 11 fIa 0) s 2 50 0 := by
  refine lp_rule (cx := ⟨Try.prog, tabOf sv7, inlF Try.prog (tabOf sv7) noHooks 2⟩) rsv7 (inlF_ok rsv7 2) (Λ := fun _ => none) (p := []) lpIa (AL.inv 11) (AL.mu 11) (AL.step 11 fIa 0) (AL.T 11 fIa 0) 2 50 0 (fun _ => ⟨rfl, rfl⟩) ?_ ?_ s h
  · intro s r h hi
    exact fl_ok (g := s.lt 11) (L := ixs s.i 11 2) (by kernel_rfl) (fun hg => AL.ixs 11 hi hg _)
  · exact AL.good 11 fIa 0
noncomputable def fIb : (Sta × Sta) → W → Bool := fun d j => !coversS (d.1.stk (ixN j)) (d.2.stk (ixN j))
def pIb : List Nat := [1, 1, 1, 0, 1, 4]
noncomputable def lpIb : Lp (AL (Sta × Sta)) where
  keys := [36, 2, 3, 4]
  names := [0, 1]
  scr := wrAt Try.prog 19 pIb
  vals s := [eI s.i, .ptr 0 [], .ptr 1 [], eB false]
  blks s := [⟨36, eSta s.d.1⟩, ⟨36, eSta s.d.2⟩]
  dec vs bs := match vs, bs with
    | [i, _, _, _], [⟨_, x⟩, ⟨_, y⟩] => match cI.dec i, cSta.dec x, cSta.dec y with
      | some i, some x, some y => some ⟨(x, y), i⟩
      | _, _, _ => none
    | _, _ => none
theorem goalIb (s : AL (Sta × Sta)) (h : s.inv 64) : LoopGoal Try.prog (loopAt Try.prog 19 pIb) lpIb (AL.T 64 fIb 2) s 2 50 0 := by
  refine lp_rule (cx := ⟨Try.prog, tabOf sv7, inlF Try.prog (tabOf sv7) noHooks 2⟩) rsv7 (inlF_ok rsv7 2) (Λ := fun _ => none) (p := []) lpIb (AL.inv 64) (AL.mu 64) (AL.step 64 fIb 2) (AL.T 64 fIb 2) 2 50 0 (fun _ => ⟨rfl, rfl⟩) ?_ ?_ s h
  · intro s r h hi
    exact fl_ok (g := s.lt 64) (L := ixs s.i 64 2) (by kernel_rfl) (fun hg => AL.ixs 64 hi hg _)
  · exact AL.good 64 fIb 2
noncomputable def hIP : FuncId → Hook := fun f p => if f == 19 && p == pIa then some (lpIa.hk (AL.T 11 fIa 0)) else if f == 19 && p == pIb then some (lpIb.hk (AL.T 64 fIb 2)) else none
noncomputable def fOa : (Sta × Vw) → W → Bool := fun d j => !mayV (d.2.regs (ixN j)) || !holdsR (d.1.regs (ixN j)) (d.2.regs (ixN j)) d.2.pk
def pOa : List Nat := [1, 1, 0, 1, 4]
noncomputable def lpOa : Lp (AL (Sta × Vw)) where
  keys := [28, 3, 2, 4]
  names := [0, 1]
  scr := wrAt Try.prog 16 pOa
  vals s := [eI s.i, .ptr 1 [], .ptr 0 [], eB false]
  blks s := [⟨36, eSta s.d.1⟩, ⟨55, eVw s.d.2⟩]
  dec vs bs := match vs, bs with
    | [i, _, _, _], [⟨_, x⟩, ⟨_, y⟩] => match cI.dec i, cSta.dec x, cVw.dec y with
      | some i, some x, some y => some ⟨(x, y), i⟩
      | _, _, _ => none
    | _, _ => none
theorem goalOa (s : AL (Sta × Vw)) (h : s.inv 11) : LoopGoal Try.prog (loopAt Try.prog 16 pOa) lpOa (AL.T 11 fOa 0) s 2 68 0 := by
  refine lp_rule (cx := ⟨Try.prog, tabOf sv7, inlF Try.prog (tabOf sv7) noHooks 2⟩) rsv7 (inlF_ok rsv7 2) (Λ := fun _ => none) (p := []) lpOa (AL.inv 11) (AL.mu 11) (AL.step 11 fOa 0) (AL.T 11 fOa 0) 2 68 0 (fun _ => ⟨rfl, rfl⟩) ?_ ?_ s h
  · intro s r h hi
    exact fl_ok (g := s.lt 11) (L := ixs s.i 11 3) (by kernel_rfl) (fun hg => AL.ixs 11 hi hg _)
  · exact AL.good 11 fOa 0
noncomputable def fOb : (Sta × Vw) → W → Bool := fun d j => !bytesS (d.1.stk (ixN j)) (d.2.fr (ixN j)) d.2.pk
def pOb : List Nat := [1, 1, 1, 0, 1, 4]
noncomputable def lpOb : Lp (AL (Sta × Vw)) where
  keys := [52, 2, 3, 4]
  names := [0, 1]
  scr := wrAt Try.prog 16 pOb
  vals s := [eI s.i, .ptr 0 [], .ptr 1 [], eB false]
  blks s := [⟨36, eSta s.d.1⟩, ⟨55, eVw s.d.2⟩]
  dec vs bs := match vs, bs with
    | [i, _, _, _], [⟨_, x⟩, ⟨_, y⟩] => match cI.dec i, cSta.dec x, cVw.dec y with
      | some i, some x, some y => some ⟨(x, y), i⟩
      | _, _, _ => none
    | _, _ => none
theorem goalOb (s : AL (Sta × Vw)) (h : s.inv 64) : LoopGoal Try.prog (loopAt Try.prog 16 pOb) lpOb (AL.T 64 fOb 2) s 2 68 0 := by
  refine lp_rule (cx := ⟨Try.prog, tabOf sv7, inlF Try.prog (tabOf sv7) noHooks 2⟩) rsv7 (inlF_ok rsv7 2) (Λ := fun _ => none) (p := []) lpOb (AL.inv 64) (AL.mu 64) (AL.step 64 fOb 2) (AL.T 64 fOb 2) 2 68 0 (fun _ => ⟨rfl, rfl⟩) ?_ ?_ s h
  · intro s r h hi
    exact fl_ok (g := s.lt 64) (L := ixs s.i 64 2) (by kernel_rfl) (fun hg => AL.ixs 64 hi hg _)
  · exact AL.good 64 fOb 2
noncomputable def hOP : FuncId → Hook := fun f p => if f == 16 && p == pOa then some (lpOa.hk (AL.T 11 fOa 0)) else if f == 16 && p == pOb then some (lpOb.hk (AL.T 64 fOb 2)) else none
end Go.Rf
