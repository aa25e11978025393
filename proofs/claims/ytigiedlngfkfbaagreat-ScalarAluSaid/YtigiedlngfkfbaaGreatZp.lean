/- Spans: the document's counting loops and its One, in the great seat. -/
import Derived.Test.YtigiedlngfkfbaaGreatZHA
set_option linter.unusedVariables false
set_option linter.unusedSimpArgs false
set_option maxRecDepth 100000
namespace Go.Rf
open Go.Proofs
noncomputable def zl3 : List (FuncId × Con) := th5
theorem zg3 : TabOk Tryz.prog (tabOf zl3) := rth5
noncomputable def lpCt (f : FuncId) : Lp CtS where
  keys := [0, 3, 4]
  names := []
  scr := wrAt Tryz.prog f pCt
  vals s := [eI s.b, eW s.n, eI s.i]
  blks _ := []
  dec vs _ := match vs with
    | [b, n, i] => match cI.dec b, cW.dec n, cI.dec i with
      | some b, some n, some i => some ⟨b, n, i⟩
      | _, _, _ => none
    | _ => none
theorem goalTop (s : CtS) (h : s.inv) : LoopGoal Tryz.prog (loopAt Tryz.prog 85 pCt) (lpCt 85) (CtS.T twice1) s 0 14 0 := by
  refine lp_rule (cx := ⟨Tryz.prog, tabOf zl3, inlF Tryz.prog (tabOf zl3) noHooks 2⟩) zg3 (inlF_ok zg3 2) (Λ := fun _ => none) (p := []) (lpCt 85) CtS.inv CtS.mu (CtS.step twice1) (CtS.T twice1) 0 14 0 (fun _ => ⟨rfl, rfl⟩) ?_ ?_ s h
  · intro s r h hi
    exact ⟨.tt, by kernel_rfl, trivial⟩
  · exact CtS.good twice1
theorem goalPow (s : CtS) (h : s.inv) : LoopGoal Tryz.prog (loopAt Tryz.prog 131 pCt) (lpCt 131) (CtS.T twice) s 0 13 0 := by
  refine lp_rule (cx := ⟨Tryz.prog, tabOf zl3, inlF Tryz.prog (tabOf zl3) noHooks 2⟩) zg3 (inlF_ok zg3 2) (Λ := fun _ => none) (p := []) (lpCt 131) CtS.inv CtS.mu (CtS.step twice) (CtS.T twice) 0 13 0 (fun _ => ⟨rfl, rfl⟩) ?_ ?_ s h
  · intro s r h hi
    exact ⟨.tt, by kernel_rfl, trivial⟩
  · exact CtS.good twice
noncomputable def hTop : FuncId → Hook := fun f p => if f == 85 && p == pCt then some ((lpCt 85).hk (CtS.T twice1)) else none
noncomputable def hPow : FuncId → Hook := fun f p => if f == 131 && p == pCt then some ((lpCt 131).hk (CtS.T twice)) else none
theorem k85 : ConOk Tryz.prog 85 (con1 cI fun b => eW (topW b)) :=
  con1_ok zg3 (Λ := hTop) 5 (fun _ => rfl) (fun b => Ev.fl (g := true) (L := [LoopGoal Tryz.prog (loopAt Tryz.prog 85 pCt) (lpCt 85) (CtS.T twice1) ⟨b, 0#64, 0#64⟩ 0 14 0]) (by kernel_rfl)
    (fun _ p hp => by simp only [List.mem_singleton] at hp; subst hp; exact goalTop _ (by show 0 ≤ (0#64 : W).toInt; decide)))
theorem k131 : ConOk Tryz.prog 131 (con1 cI fun b => eW (powWr b)) :=
  con1_ok zg3 (Λ := hPow) 5 (fun _ => rfl) (fun b => Ev.fl (g := true) (L := [LoopGoal Tryz.prog (loopAt Tryz.prog 131 pCt) (lpCt 131) (CtS.T twice) ⟨b, 1#64, 0#64⟩ 0 13 0]) (by kernel_rfl)
    (fun _ p hp => by simp only [List.mem_singleton] at hp; subst hp; exact goalPow _ (by show 0 ≤ (0#64 : W).toInt; decide)))
noncomputable def zl4 : List (FuncId × Con) := (85, con1 cI fun b => eW (topW b)) :: (131, con1 cI fun b => eW (powWr b)) :: zl3
theorem zg4 : TabOk Tryz.prog (tabOf zl4) := tabOf_cons (tabOf_cons zg3 k131) k85
theorem k84 : ConOk Tryz.prog 84 (con2 cSp cI fun s n => eSp (cutD s n)) :=
  con2_ok zg4 (Λ := noHooks) 3 (fun _ _ => rfl) (fun x y => Ev.of (by kernel_rfl))
noncomputable def zl7 : List (FuncId × Con) := (84, con2 cSp cI fun s n => eSp (cutD s n)) :: zl4
theorem zg7 : TabOk Tryz.prog (tabOf zl7) := tabOf_cons zg4 k84
noncomputable def lpDr : Lp DrS where
  keys := [0, 1, 2, 7]
  names := []
  scr := wrAt Tryz.prog 132 pDr
  vals s := [eW s.x, eI s.k, eI s.z, eI s.i]
  blks _ := []
  dec vs _ := match vs with
    | [x, k, z, i] => match cW.dec x, cI.dec k, cI.dec z, cI.dec i with
      | some x, some k, some z, some i => some ⟨x, k, z, i⟩
      | _, _, _, _ => none
    | _ => none

theorem goalDr (s : DrS) (h : s.inv) : LoopGoal Tryz.prog (loopAt Tryz.prog 132 pDr) lpDr DrS.T s 0 24 0 := by
  refine lp_rule (cx := ⟨Tryz.prog, tabOf zl7, inlF Tryz.prog (tabOf zl7) noHooks 2⟩) zg7 (inlF_ok zg7 2) (Λ := fun _ => none) (p := []) lpDr DrS.inv DrS.mu DrS.step DrS.T 0 24 0 (fun _ => ⟨rfl, rfl⟩) ?_ ?_ s h
  · intro s r h hi
    exact ⟨.tt, by kernel_rfl, trivial⟩
  · refine good_mu (go := DrS.go) (next := DrS.nxt) DrS.dec ?_ ?_
    · intro s hi hg
      simp only [DrS.step, Rd.sel, hg, if_true]
    · intro s hi hg
      simp only [DrS.step, Rd.sel, hg, Bool.false_eq_true, if_false]
noncomputable def hDr : FuncId → Hook := fun f p => if f == 132 && p == pDr then some (lpDr.hk DrS.T) else none
theorem k132 : ConOk Tryz.prog 132 (con3 cW cI cI fun x k z => eW (drawnR x k z)) :=
  con3_ok zg7 (Λ := hDr) 5 (fun _ _ _ => rfl) (fun x k z => Ev.fl (g := true) (L := [LoopGoal Tryz.prog (loopAt Tryz.prog 132 pDr) lpDr DrS.T ⟨x, k, z, 0#64⟩ 0 24 0]) (by kernel_rfl)
    (fun _ p hp => by simp only [List.mem_singleton] at hp; subst hp; exact goalDr _ (by show 0 ≤ (0#64 : W).toInt; decide)))
noncomputable def zl8 : List (FuncId × Con) := (132, con3 cW cI cI fun x k z => eW (drawnR x k z)) :: zl7
theorem zg8 : TabOk Tryz.prog (tabOf zl8) := tabOf_cons zg7 k132

theorem k137 : ConOk Tryz.prog 137 (con4 cI cB cW cW fun op w x y => eW (oneR op w x y)) :=
  con4_ok zg8 (Λ := noHooks) 6 (fun _ _ _ _ => rfl) (fun op w x y => Ev.fg (L := oneObs op (y &&& topW 32#64) 32#64 (!w) ++ oneObs op (y &&& topW 64#64) 64#64 (!(!w))) (by kernel_rfl) (fun e he => by
    rw [List.mem_append] at he
    rcases he with he | he
    · exact oneObs_hold _ _ _ _ (.inl rfl) e he
    · exact oneObs_hold _ _ _ _ (.inr rfl) e he))
noncomputable def zl9 : List (FuncId × Con) := (137, con4 cI cB cW cW fun op w x y => eW (oneR op w x y)) :: zl8
theorem zg9 : TabOk Tryz.prog (tabOf zl9) := tabOf_cons zg8 k137
end Go.Rf
