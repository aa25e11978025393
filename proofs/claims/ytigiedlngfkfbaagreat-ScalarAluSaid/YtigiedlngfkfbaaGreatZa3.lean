/- Scalars: small functions. -/
import Derived.Test.YtigiedlngfkfbaaGreatZa2
import Derived.Test.YtigiedlngfkfbaaGreatPs2
set_option linter.unusedVariables false
set_option linter.unusedSimpArgs false
set_option maxRecDepth 100000
namespace Go.Rf
open Go.Proofs
theorem k21 : ConOk Tryz.prog 21 (con1 cSc fun x => eB (mayC x)) :=
  con1_ok rsb1 (Λ := noHooks) 4 (fun _ => rfl) (fun x => Ev.of (by kernel_rfl))
theorem k15 : ConOk Tryz.prog 15 (con1 cW fun n => eSc (ofC n)) :=
  con1_ok rsb1 (Λ := noHooks) 4 (fun _ => rfl) (fun x => Ev.of (by kernel_rfl))
theorem k17 : ConOk Tryz.prog 17 (con0 (eSc allC)) :=
  con0_ok rsb1 (Λ := noHooks) 4 rfl (Ev.of (by kernel_rfl))
noncomputable def sc1 : List (FuncId × Con) :=
  (21, con1 cSc fun x => eB (mayC x)) ::
  (15, con1 cW fun n => eSc (ofC n)) ::
  (17, con0 (eSc allC)) :: sb1
theorem rsc1 : TabOk Tryz.prog (tabOf sc1) := (tabOf_cons (tabOf_cons (tabOf_cons rsb1 k17) k15) k21)

theorem k23 : ConOk Tryz.prog 23 (con2 cSc cW fun x n => eB (hasC x n)) :=
  con2_ok rsc1 (Λ := noHooks) 4 (fun _ _ => rfl) (fun x y => Ev.of (by kernel_rfl))
theorem k25 : ConOk Tryz.prog 25 (con2 cSc cSc fun a b => eB (inC a b)) :=
  con2_ok rsc1 (Λ := noHooks) 4 (fun _ _ => rfl) (fun x y => Ev.of (by kernel_rfl))
theorem k11 : ConOk Tryz.prog 11 (con2 cSc cSc fun a b => pair (eSc (joinCR a b)) (eI (joinCE a b))) :=
  con2_ok rsc1 (Λ := noHooks) 4 (fun _ _ => rfl) (fun x y => Ev.of (by kernel_rfl))
theorem k13 : ConOk Tryz.prog 13 (con2 cSc cSc fun a b => pair (eSc (meetC a b)) (eB (meetCB a b))) :=
  con2_ok rsc1 (Λ := noHooks) 4 (fun _ _ => rfl) (fun x y => Ev.of (by kernel_rfl))
noncomputable def sc2 : List (FuncId × Con) :=
  (23, con2 cSc cW fun x n => eB (hasC x n)) ::
  (25, con2 cSc cSc fun a b => eB (inC a b)) ::
  (11, con2 cSc cSc fun a b => pair (eSc (joinCR a b)) (eI (joinCE a b))) ::
  (13, con2 cSc cSc fun a b => pair (eSc (meetC a b)) (eB (meetCB a b))) :: sc1
theorem rsc2 : TabOk Tryz.prog (tabOf sc2) := (tabOf_cons (tabOf_cons (tabOf_cons (tabOf_cons rsc1 k13) k11) k25) k23)

end Go.Rf
