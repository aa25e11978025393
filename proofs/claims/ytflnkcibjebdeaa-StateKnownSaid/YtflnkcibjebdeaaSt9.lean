/- States: which may be. -/
import Derived.Test.YtflnkcibjebdeaaSt8
set_option linter.unusedVariables false
set_option linter.unusedSimpArgs false
set_option maxRecDepth 100000
namespace Go.Rf
open Go.Proofs
def cRgs : Cod (Nat → Reg) := fReg.arr 11
def cStk : Cod (Nat → Slt) := fSlt.arr 64
noncomputable def fMa : (Nat → Reg) → W → Bool := fun d j => !mayR (d (ixN j))
def pMa : List Nat := [1, 0, 1, 4]
noncomputable def lpMa : Lp (AL (Nat → Reg)) where
  keys := [9, 8, 2]
  names := []
  scr := wrAt Try.prog 11 pMa
  vals s := [eI s.i, cRgs.enc s.d, eB false]
  blks s := []
  dec vs bs := match vs, bs with
    | [i, d, _], [] => match cI.dec i, cRgs.dec d with
      | some i, some d => some ⟨d, i⟩
      | _, _ => none
    | _, _ => none
theorem goalMa (s : AL (Nat → Reg)) (h : s.inv 11) : LoopGoal Try.prog (loopAt Try.prog 11 pMa) lpMa (AL.T 11 fMa 0) s 1 33 0 := by
  refine lp_rule (cx := ⟨Try.prog, tabOf sv3, inlF Try.prog (tabOf sv3) noHooks 2⟩) rsv3 (inlF_ok rsv3 2) (Λ := fun _ => none) (p := []) lpMa (AL.inv 11) (AL.mu 11) (AL.step 11 fMa 0) (AL.T 11 fMa 0) 1 33 0 (fun _ => ⟨rfl, rfl⟩) ?_ ?_ s h
  · intro s r h hi
    exact fl_ok (g := s.lt 11) (L := [0 ≤ toZ .i64 s.i ∧ toZ .i64 s.i < ((11 : Nat) : Int)]) (by kernel_rfl) (fun hg => AL.ix1 11 hi hg)
  · exact AL.good 11 fMa 0
noncomputable def fMb : (Nat → Slt) → W → Bool := fun d j => !knownS (d (ixN j))
def pMb : List Nat := [1, 1, 0, 1, 4]
noncomputable def lpMb : Lp (AL (Nat → Slt)) where
  keys := [18, 17, 2]
  names := []
  scr := wrAt Try.prog 11 pMb
  vals s := [eI s.i, cStk.enc s.d, eB false]
  blks s := []
  dec vs bs := match vs, bs with
    | [i, d, _], [] => match cI.dec i, cStk.dec d with
      | some i, some d => some ⟨d, i⟩
      | _, _ => none
    | _, _ => none
theorem goalMb (s : AL (Nat → Slt)) (h : s.inv 64) : LoopGoal Try.prog (loopAt Try.prog 11 pMb) lpMb (AL.T 64 fMb 2) s 1 33 0 := by
  refine lp_rule (cx := ⟨Try.prog, tabOf sv3, inlF Try.prog (tabOf sv3) noHooks 2⟩) rsv3 (inlF_ok rsv3 2) (Λ := fun _ => none) (p := []) lpMb (AL.inv 64) (AL.mu 64) (AL.step 64 fMb 2) (AL.T 64 fMb 2) 1 33 0 (fun _ => ⟨rfl, rfl⟩) ?_ ?_ s h
  · intro s r h hi
    exact fl_ok (g := s.lt 64) (L := [0 ≤ toZ .i64 s.i ∧ toZ .i64 s.i < ((64 : Nat) : Int)]) (by kernel_rfl) (fun hg => AL.ix1 64 hi hg)
  · exact AL.good 64 fMb 2
noncomputable def fMc : (Sta) → W → Bool := fun d j => mayR (d.regs (ixN j))
def pMc : List Nat := [1, 1, 0, 1, 4]
noncomputable def lpMc : Lp (AC (Sta)) where
  keys := [4, 3, 1]
  names := [0]
  scr := wrAt Try.prog 12 pMc
  vals s := [eI s.i, eB s.ok, .ptr 0 []]
  blks s := [⟨36, eSta s.d⟩]
  dec vs bs := match vs, bs with
    | [i, ok, _], [⟨_, d⟩] => match cI.dec i, cB.dec ok, cSta.dec d with
      | some i, some ok, some d => some ⟨d, i, ok⟩
      | _, _, _ => none
    | _, _ => none
theorem goalMc (s : AC (Sta)) (h : s.inv 11) : LoopGoal Try.prog (loopAt Try.prog 12 pMc) lpMc (AC.T 11 fMc 0) s 1 39 0 := by
  refine lp_rule (cx := ⟨Try.prog, tabOf sv3, inlF Try.prog (tabOf sv3) noHooks 2⟩) rsv3 (inlF_ok rsv3 2) (Λ := fun _ => none) (p := []) lpMc (AC.inv 11) (AC.mu 11) (AC.step 11 fMc 0) (AC.T 11 fMc 0) 1 39 0 (fun _ => ⟨rfl, rfl⟩) ?_ ?_ s h
  · intro s r h hi
    exact fl_ok (g := s.lt 11) (L := ixs s.i 11 1) (by kernel_rfl) (fun hg => AC.ixs 11 hi hg _)
  · exact AC.good 11 fMc 0
noncomputable def fMd : (Sta) → W → Bool := fun d j => knownS (d.stk (ixN j))
def pMd : List Nat := [1, 1, 1, 0, 1, 4]
noncomputable def lpMd : Lp (AC (Sta)) where
  keys := [5, 3, 1]
  names := [0]
  scr := wrAt Try.prog 12 pMd
  vals s := [eI s.i, eB s.ok, .ptr 0 []]
  blks s := [⟨36, eSta s.d⟩]
  dec vs bs := match vs, bs with
    | [i, ok, _], [⟨_, d⟩] => match cI.dec i, cB.dec ok, cSta.dec d with
      | some i, some ok, some d => some ⟨d, i, ok⟩
      | _, _, _ => none
    | _, _ => none
theorem goalMd (s : AC (Sta)) (h : s.inv 64) : LoopGoal Try.prog (loopAt Try.prog 12 pMd) lpMd (AC.T 64 fMd 2) s 1 39 0 := by
  refine lp_rule (cx := ⟨Try.prog, tabOf sv3, inlF Try.prog (tabOf sv3) noHooks 2⟩) rsv3 (inlF_ok rsv3 2) (Λ := fun _ => none) (p := []) lpMd (AC.inv 64) (AC.mu 64) (AC.step 64 fMd 2) (AC.T 64 fMd 2) 1 39 0 (fun _ => ⟨rfl, rfl⟩) ?_ ?_ s h
  · intro s r h hi
    exact fl_ok (g := s.lt 64) (L := ixs s.i 64 1) (by kernel_rfl) (fun hg => AC.ixs 64 hi hg _)
  · exact AC.good 64 fMd 2
noncomputable def hMP : FuncId → Hook := fun f p => if f == 11 && p == pMa then some (lpMa.hk (AL.T 11 fMa 0)) else if f == 11 && p == pMb then some (lpMb.hk (AL.T 64 fMb 2)) else none
noncomputable def hMD : FuncId → Hook := fun f p => if f == 12 && p == pMc then some (lpMc.hk (AC.T 11 fMc 0)) else if f == 12 && p == pMd then some (lpMd.hk (AC.T 64 fMd 2)) else none
end Go.Rf
