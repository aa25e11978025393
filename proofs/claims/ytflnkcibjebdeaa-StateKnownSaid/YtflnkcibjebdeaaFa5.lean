/- Scalars: the document's small functions. -/
import Derived.Test.YtflnkcibjebdeaaFa4
import Derived.Test.YtflnkcibjebdeaaPs3
set_option linter.unusedVariables false
set_option linter.unusedSimpArgs false
set_option maxRecDepth 100000
namespace Go.Rf
open Go.Proofs
theorem k78 : ConOk Try.prog 78 (con1 cW fun n => eSc (ofC n)) :=
  con1_ok rse4 (Λ := noHooks) 5 (fun _ => rfl) (fun x => Ev.of (by kernel_rfl))
theorem k62 : ConOk Try.prog 62 (con0 (eSc allC)) :=
  con0_ok rse4 (Λ := noHooks) 5 rfl (Ev.of (by kernel_rfl))
theorem k47 : ConOk Try.prog 47 (con1 cSc fun x => eB (mayC x)) :=
  con1_ok rse4 (Λ := noHooks) 5 (fun _ => rfl) (fun x => Ev.of (by kernel_rfl))
noncomputable def fe1 : List (FuncId × Con) :=
  (78, con1 cW fun n => eSc (ofC n)) :: (62, con0 (eSc allC)) :: (47, con1 cSc fun x => eB (mayC x)) :: se4
theorem rfe1 : TabOk Try.prog (tabOf fe1) := tabOf_cons (tabOf_cons (tabOf_cons rse4 k47) k62) k78

theorem hasC_D (x : Sc) (n : W) : (mayC x && T.has x.t n && leB .u64 x.s.lo n && leB .u64 n x.s.hi) = hasC x n := by
  unfold hasC hasS
  rw [Bool.and_assoc]
theorem inC_D (a b : Sc) : (mayC a && mayC b && T.isIn a.t b.t && leB .u64 b.s.lo a.s.lo && leB .u64 a.s.hi b.s.hi) = inC a b := by
  unfold inC
  cases h : mayC a with
  | false => rfl
  | true =>
    unfold inS
    rw [(mayC_parts h).2]
    simp only [Bool.true_and, Bool.and_assoc]
theorem kk54 : ConOk Try.prog 54 (con2 cSc cW fun x n => eB (mayC x && T.has x.t n && leB .u64 x.s.lo n && leB .u64 n x.s.hi)) :=
  con2_ok rfe1 (Λ := noHooks) 5 (fun _ _ => rfl) (fun x n => Ev.of (by kernel_rfl))
theorem kk60 : ConOk Try.prog 60 (con2 cSc cSc fun a b => eB (mayC a && mayC b && T.isIn a.t b.t && leB .u64 b.s.lo a.s.lo && leB .u64 a.s.hi b.s.hi)) :=
  con2_ok rfe1 (Λ := noHooks) 5 (fun _ _ => rfl) (fun x n => Ev.of (by kernel_rfl))
theorem k54 : ConOk Try.prog 54 (con2 cSc cW fun x n => eB (hasC x n)) :=
  (show (con2 cSc cW fun x n => eB (mayC x && T.has x.t n && leB .u64 x.s.lo n && leB .u64 n x.s.hi)) = (con2 cSc cW fun x n => eB (hasC x n)) from congrArg _ (by funext x n; rw [hasC_D])) ▸ kk54
theorem k60 : ConOk Try.prog 60 (con2 cSc cSc fun a b => eB (inC a b)) :=
  (show (con2 cSc cSc fun a b => eB (mayC a && mayC b && T.isIn a.t b.t && leB .u64 b.s.lo a.s.lo && leB .u64 a.s.hi b.s.hi)) = (con2 cSc cSc fun a b => eB (inC a b)) from congrArg _ (by funext a b; rw [inC_D])) ▸ kk60
theorem k66 : ConOk Try.prog 66 (con2 cSc cSc fun a b => pair (eSc (joinCR a b)) (eI (joinCE a b))) :=
  con2_ok rfe1 (Λ := noHooks) 5 (fun _ _ => rfl) (fun x n => Ev.of (by kernel_rfl))
noncomputable def fe2 : List (FuncId × Con) :=
  (54, con2 cSc cW fun x n => eB (hasC x n)) :: (60, con2 cSc cSc fun a b => eB (inC a b)) :: (66, con2 cSc cSc fun a b => pair (eSc (joinCR a b)) (eI (joinCE a b))) :: fe1
theorem rfe2 : TabOk Try.prog (tabOf fe2) := tabOf_cons (tabOf_cons (tabOf_cons rfe1 k66) k60) k54
end Go.Rf
