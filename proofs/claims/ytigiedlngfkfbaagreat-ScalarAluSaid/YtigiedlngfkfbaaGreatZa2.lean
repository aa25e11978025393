/- Scalars: Settle, and what asks it. -/
import Derived.Test.YtigiedlngfkfbaaGreatZa1
import Derived.Test.YtigiedlngfkfbaaGreatPs1
set_option linter.unusedVariables false
set_option linter.unusedSimpArgs false
set_option maxRecDepth 100000
namespace Go.Rf
open Go.Proofs

def pSt : List Nat := [1, 1, 4]
noncomputable def lpSt : Lp StS where
  keys := [2, 3, 4, 5]
  names := [0, 1, 2]
  scr := wrAt Tryz.prog 9 pSt
  vals s := [.ptr 0 [], .ptr 1 [], .ptr 2 [], eB s.ok]
  blks s := [⟨24, eTn s.t⟩, ⟨26, eSp s.s⟩, ⟨28, eSc s.r⟩]
  dec vs bs := match vs, bs with
    | [_, _, _, b], [⟨_, t⟩, ⟨_, s⟩, ⟨_, r⟩] => match cB.dec b, T.cTn.dec t, cSp.dec s, cSc.dec r with
      | some b, some t, some s, some r => some ⟨t, s, r, b⟩
      | _, _, _, _ => none
    | _, _ => none

theorem goalSt (s : StS) (h : s.inv) : LoopGoal Tryz.prog (loopAt Tryz.prog 9 pSt) lpSt StS.T s 3 65 0 := by
  refine lp_rule (cx := ⟨Tryz.prog, tabOf sa3, inlF Tryz.prog (tabOf sa3) noHooks 2⟩) rsa3 (inlF_ok rsa3 2) (Λ := fun _ => none) (p := []) lpSt StS.inv StS.mu StS.step StS.T 3 65 0 (fun _ => ⟨rfl, rfl⟩) ?_ ?_ s h
  · intro s r h hi
    exact ⟨.tt, by kernel_rfl, trivial⟩
  · exact StS.good
noncomputable def hSt : FuncId → Hook := fun f p => if f == 9 && p == pSt then some (lpSt.hk StS.T) else none
noncomputable def resC (c : Bool) (x : Sc) (ok : Bool) : AV := pair (eSc (Sc.mux c nilC x)) (eB (bif c then false else ok))
theorem k9 : ConOk Tryz.prog 9 (con2 T.cTn cSp fun t s => pair (eSc (setR t s)) (eB (setOk t s))) :=
  con2_ok rsa3 (Λ := hSt) 5 (fun _ _ => rfl) (fun t s => Ev.fl (g := !setBad t s) (L := [LoopGoal Tryz.prog (loopAt Tryz.prog 9 pSt) lpSt StS.T ⟨t, s, nilC, false⟩ 3 65 0]) (by kernel_rfl)
    (fun hg p hp => by
      simp only [List.mem_singleton] at hp
      subst hp
      simp only [setBad, Bool.not_or, Bool.not_not, Bool.and_eq_true] at hg
      exact goalSt _ hg))
noncomputable def sb1 : List (FuncId × Con) := (9, con2 T.cTn cSp fun t s => pair (eSc (setR t s)) (eB (setOk t s))) :: sa3
theorem rsb1 : TabOk Tryz.prog (tabOf sb1) := tabOf_cons rsa3 k9
end Go.Rf
