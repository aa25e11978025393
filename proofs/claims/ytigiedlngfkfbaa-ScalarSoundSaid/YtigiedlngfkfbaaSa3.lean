/- Scalars: small functions. -/
import Derived.Test.YtigiedlngfkfbaaSa2
import Derived.Test.YtigiedlngfkfbaaPs2
set_option linter.unusedVariables false
set_option linter.unusedSimpArgs false
set_option maxRecDepth 100000
namespace Go.Rf
open Go.Proofs
theorem k16 : ConOk Try.prog 16 (con1 cSc fun x => eB (mayC x)) :=
  con1_ok rsb1 (Λ := noHooks) 4 (fun _ => rfl) (fun x => Ev.of (by kernel_rfl))
theorem k22 : ConOk Try.prog 22 (con1 cW fun n => eSc (ofC n)) :=
  con1_ok rsb1 (Λ := noHooks) 4 (fun _ => rfl) (fun x => Ev.of (by kernel_rfl))
theorem k21 : ConOk Try.prog 21 (con0 (eSc allC)) :=
  con0_ok rsb1 (Λ := noHooks) 4 rfl (Ev.of (by kernel_rfl))
noncomputable def sc1 : List (FuncId × Con) :=
  (16, con1 cSc fun x => eB (mayC x)) ::
  (22, con1 cW fun n => eSc (ofC n)) ::
  (21, con0 (eSc allC)) :: sb1
theorem rsc1 : TabOk Try.prog (tabOf sc1) := (tabOf_cons (tabOf_cons (tabOf_cons rsb1 k21) k22) k16)

theorem k15 : ConOk Try.prog 15 (con2 cSc cW fun x n => eB (hasC x n)) :=
  con2_ok rsc1 (Λ := noHooks) 4 (fun _ _ => rfl) (fun x y => Ev.of (by kernel_rfl))
theorem k26 : ConOk Try.prog 26 (con2 cSc cSc fun a b => eB (inC a b)) :=
  con2_ok rsc1 (Λ := noHooks) 4 (fun _ _ => rfl) (fun x y => Ev.of (by kernel_rfl))
theorem k27 : ConOk Try.prog 27 (con2 cSc cSc fun a b => pair (eSc (joinCR a b)) (eI (joinCE a b))) :=
  con2_ok rsc1 (Λ := noHooks) 4 (fun _ _ => rfl) (fun x y => Ev.of (by kernel_rfl))
theorem k28 : ConOk Try.prog 28 (con2 cSc cSc fun a b => pair (eSc (meetC a b)) (eB (meetCB a b))) :=
  con2_ok rsc1 (Λ := noHooks) 4 (fun _ _ => rfl) (fun x y => Ev.of (by kernel_rfl))
noncomputable def sc2 : List (FuncId × Con) :=
  (15, con2 cSc cW fun x n => eB (hasC x n)) ::
  (26, con2 cSc cSc fun a b => eB (inC a b)) ::
  (27, con2 cSc cSc fun a b => pair (eSc (joinCR a b)) (eI (joinCE a b))) ::
  (28, con2 cSc cSc fun a b => pair (eSc (meetC a b)) (eB (meetCB a b))) :: sc1
theorem rsc2 : TabOk Try.prog (tabOf sc2) := (tabOf_cons (tabOf_cons (tabOf_cons (tabOf_cons rsc1 k28) k27) k26) k15)

end Go.Rf
