/- Scalars: Below; the document's small functions. -/
import Derived.Test.YtigiedlngfkfbaaGreatZa5
import Derived.Test.YtigiedlngfkfbaaGreatPs6
set_option linter.unusedVariables false
set_option linter.unusedSimpArgs false
set_option maxRecDepth 100000
namespace Go.Rf
open Go.Proofs
theorem k19 : ConOk Tryz.prog 19 (con1 cI fun z => eSc (belowC z)) :=
  con1_ok rse4 (Λ := noHooks) 5 (fun _ => rfl) (fun x => Ev.of (by kernel_rfl))
theorem k16 : ConOk Tryz.prog 16 (con1 cW fun n => eSc (ofC n)) :=
  con1_ok rse4 (Λ := noHooks) 5 (fun _ => rfl) (fun x => Ev.of (by kernel_rfl))
theorem k18 : ConOk Tryz.prog 18 (con0 (eSc allC)) :=
  con0_ok rse4 (Λ := noHooks) 5 rfl (Ev.of (by kernel_rfl))
theorem k22 : ConOk Tryz.prog 22 (con1 cSc fun x => eB (mayC x)) :=
  con1_ok rse4 (Λ := noHooks) 5 (fun _ => rfl) (fun x => Ev.of (by kernel_rfl))
noncomputable def sf2 : List (FuncId × Con) :=
  (19, con1 cI fun z => eSc (belowC z)) :: (16, con1 cW fun n => eSc (ofC n)) :: (18, con0 (eSc allC)) :: (22, con1 cSc fun x => eB (mayC x)) :: se4
theorem rsf2 : TabOk Tryz.prog (tabOf sf2) := tabOf_cons (tabOf_cons (tabOf_cons (tabOf_cons rse4 k22) k18) k16) k19

def pBl : List Nat := [1, 1, 1, 1, 0, 1, 4]
noncomputable def lpBl : Lp CtS where
  keys := [0, 3, 4]
  names := []
  scr := wrAt Tryz.prog 20 pBl
  vals s := [eI s.b, eW s.n, eI s.i]
  blks _ := []
  dec vs _ := match vs with
    | [b, n, i] => match cI.dec b, cW.dec n, cI.dec i with
      | some b, some n, some i => some ⟨b, n, i⟩
      | _, _, _ => none
    | _ => none
theorem goalBl (s : CtS) (h : s.inv) : LoopGoal Tryz.prog (loopAt Tryz.prog 20 pBl) lpBl (CtS.T dbl) s 1 33 0 := by
  refine lp_rule (cx := ⟨Tryz.prog, tabOf sf2, inlF Tryz.prog (tabOf sf2) noHooks 2⟩) rsf2 (inlF_ok rsf2 2) (Λ := fun _ => none) (p := []) lpBl CtS.inv CtS.mu (CtS.step dbl) (CtS.T dbl) 1 33 0 (fun _ => ⟨rfl, rfl⟩) ?_ ?_ s h
  · intro s r h hi
    exact ⟨.tt, by kernel_rfl, trivial⟩
  · exact CtS.good dbl
noncomputable def hBl : FuncId → Hook := fun f p => if f == 20 && p == pBl then some (lpBl.hk (CtS.T dbl)) else none
theorem kk20 : ConOk Tryz.prog 20 (con1 cI fun z => eSc (belowD z)) :=
  con1_ok rsf2 (Λ := hBl) 5 (fun _ => rfl) (fun z => Ev.fg (L := [([!(bad3 z), !(z == 64#64)], LoopGoal Tryz.prog (loopAt Tryz.prog 20 pBl) lpBl (CtS.T dbl) ⟨z, 1#64, 0#64⟩ 1 33 0)]) (by kernel_rfl)
    (fun e he _ => by simp only [List.mem_singleton] at he; subst he; exact goalBl _ (by show 0 ≤ (0#64 : W).toInt; decide)))
theorem k20 : ConOk Tryz.prog 20 (con1 cI fun z => eSc (belowC z)) :=
  (show (con1 cI fun z => eSc (belowD z)) = (con1 cI fun z => eSc (belowC z)) from congrArg _ (by funext z; rw [below_same])) ▸ kk20
noncomputable def sf3 : List (FuncId × Con) := (20, con1 cI fun z => eSc (belowC z)) :: sf2
theorem rsf3 : TabOk Tryz.prog (tabOf sf3) := tabOf_cons rsf2 k20
end Go.Rf
