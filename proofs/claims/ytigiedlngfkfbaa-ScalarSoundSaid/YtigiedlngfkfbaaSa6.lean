/- Scalars: turned bytes. -/
import Derived.Test.YtigiedlngfkfbaaSa5
import Derived.Test.YtigiedlngfkfbaaPs6
set_option linter.unusedVariables false
set_option linter.unusedSimpArgs false
set_option maxRecDepth 100000
namespace Go.Rf
open Go.Proofs
theorem k76 : ConOk Try.prog 76 (con1 cW fun a => eW (revW a)) :=
  con1_ok rse4 (Λ := noHooks) 5 (fun _ => rfl) (fun x => Ev.of (by kernel_rfl))
noncomputable def sf1 : List (FuncId × Con) := (76, con1 cW fun a => eW (revW a)) :: se4
theorem rsf1 : TabOk Try.prog (tabOf sf1) := tabOf_cons rse4 k76

theorem k51 : ConOk Try.prog 51 (con2 cI cW fun z a => pair (eW (swP z a)) (eI (swE z))) :=
  con2_ok rsf1 (Λ := noHooks) 5 (fun _ _ => rfl) (fun x y => Ev.of (by kernel_rfl))
theorem k23 : ConOk Try.prog 23 (con1 cI fun z => eSc (belowC z)) :=
  con1_ok rsf1 (Λ := noHooks) 5 (fun _ => rfl) (fun x => Ev.of (by kernel_rfl))
theorem k78 : ConOk Try.prog 78 (con1 cW fun n => eSc (ofC n)) :=
  con1_ok rsf1 (Λ := noHooks) 5 (fun _ => rfl) (fun x => Ev.of (by kernel_rfl))
theorem k77 : ConOk Try.prog 77 (con0 (eSc allC)) :=
  con0_ok rsf1 (Λ := noHooks) 5 rfl (Ev.of (by kernel_rfl))
theorem k36 : ConOk Try.prog 36 (con1 cSc fun x => eB (mayC x)) :=
  con1_ok rsf1 (Λ := noHooks) 5 (fun _ => rfl) (fun x => Ev.of (by kernel_rfl))

def pSw : List Nat := [1, 1, 1, 0, 1, 4]
noncomputable def lpSw : Lp SwS where
  keys := [0, 1, 6, 7]
  names := []
  scr := wrAt Try.prog 25 pSw
  vals s := [eI s.z, eW s.a, eW s.r, eI s.i]
  blks _ := []
  dec vs _ := match vs with
    | [z, a, r, i] => match cI.dec z, cW.dec a, cW.dec r, cI.dec i with
      | some z, some a, some r, some i => some ⟨z, a, r, i⟩
      | _, _, _, _ => none
    | _ => none
theorem goalSw (s : SwS) (h : s.inv) : LoopGoal Try.prog (loopAt Try.prog 25 pSw) lpSw SwS.T s 0 32 0 := by
  refine lp_rule (cx := ⟨Try.prog, tabOf sf1, inlF Try.prog (tabOf sf1) noHooks 2⟩) rsf1 (inlF_ok rsf1 2) (Λ := fun _ => none) (p := []) lpSw SwS.inv SwS.mu SwS.step SwS.T 0 32 0 (fun _ => ⟨rfl, rfl⟩) ?_ ?_ s h
  · intro s r h hi
    exact ⟨.tt, by kernel_rfl, trivial⟩
  · exact SwS.good
noncomputable def hSw : FuncId → Hook := fun f p => if f == 25 && p == pSw then some (lpSw.hk SwS.T) else none
theorem k25 : ConOk Try.prog 25 (con2 cI cW fun z a => pair (eW (swD z a)) (eI (bif swBad z then 1#64 else 0#64))) :=
  con2_ok rsf1 (Λ := hSw) 5 (fun _ _ => rfl) (fun z a => Ev.fl (g := !swBad z) (L := [LoopGoal Try.prog (loopAt Try.prog 25 pSw) lpSw SwS.T ⟨z, a, 0#64, 0#64⟩ 0 32 0]) (by kernel_rfl)
    (fun _ p hp => by simp only [List.mem_singleton] at hp; subst hp; exact goalSw _ (by show 0 ≤ (0#64 : W).toInt; decide)))
noncomputable def sf2 : List (FuncId × Con) :=
  (51, con2 cI cW fun z a => pair (eW (swP z a)) (eI (swE z))) :: (23, con1 cI fun z => eSc (belowC z)) :: (78, con1 cW fun n => eSc (ofC n)) :: (77, con0 (eSc allC)) ::
  (36, con1 cSc fun x => eB (mayC x)) :: (25, con2 cI cW fun z a => pair (eW (swD z a)) (eI (bif swBad z then 1#64 else 0#64))) :: sf1
theorem rsf2 : TabOk Try.prog (tabOf sf2) := tabOf_cons (tabOf_cons (tabOf_cons (tabOf_cons (tabOf_cons (tabOf_cons rsf1 k25) k36) k77) k78) k23) k51

def pBl : List Nat := [1, 1, 1, 1, 0, 1, 4]
noncomputable def lpBl : Lp CtS where
  keys := [0, 3, 4]
  names := []
  scr := wrAt Try.prog 52 pBl
  vals s := [eI s.b, eW s.n, eI s.i]
  blks _ := []
  dec vs _ := match vs with
    | [b, n, i] => match cI.dec b, cW.dec n, cI.dec i with
      | some b, some n, some i => some ⟨b, n, i⟩
      | _, _, _ => none
    | _ => none
theorem goalBl (s : CtS) (h : s.inv) : LoopGoal Try.prog (loopAt Try.prog 52 pBl) lpBl (CtS.T dbl) s 1 33 0 := by
  refine lp_rule (cx := ⟨Try.prog, tabOf sf2, inlF Try.prog (tabOf sf2) noHooks 2⟩) rsf2 (inlF_ok rsf2 2) (Λ := fun _ => none) (p := []) lpBl CtS.inv CtS.mu (CtS.step dbl) (CtS.T dbl) 1 33 0 (fun _ => ⟨rfl, rfl⟩) ?_ ?_ s h
  · intro s r h hi
    exact ⟨.tt, by kernel_rfl, trivial⟩
  · exact CtS.good dbl
noncomputable def hBl : FuncId → Hook := fun f p => if f == 52 && p == pBl then some (lpBl.hk (CtS.T dbl)) else none
theorem k52 : ConOk Try.prog 52 (con1 cI fun z => eSc (belowD z)) :=
  con1_ok rsf2 (Λ := hBl) 5 (fun _ => rfl) (fun z => Ev.fg (L := [([!(bad3 z), !(z == 64#64)], LoopGoal Try.prog (loopAt Try.prog 52 pBl) lpBl (CtS.T dbl) ⟨z, 1#64, 0#64⟩ 1 33 0)]) (by kernel_rfl)
    (fun e he _ => by simp only [List.mem_singleton] at he; subst he; exact goalBl _ (by show 0 ≤ (0#64 : W).toInt; decide)))
noncomputable def sf3 : List (FuncId × Con) := (52, con1 cI fun z => eSc (belowD z)) :: sf2
theorem rsf3 : TabOk Try.prog (tabOf sf3) := tabOf_cons rsf2 k52
end Go.Rf
