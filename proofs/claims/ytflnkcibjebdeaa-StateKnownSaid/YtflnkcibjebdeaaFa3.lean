/- Scalars: small functions. -/
import Derived.Test.YtflnkcibjebdeaaFa2
import Derived.Test.YtflnkcibjebdeaaPs2
set_option linter.unusedVariables false
set_option linter.unusedSimpArgs false
set_option maxRecDepth 100000
namespace Go.Rf
open Go.Proofs
theorem k45 : ConOk Try.prog 45 (con1 cSc fun x => eB (mayC x)) :=
  con1_ok rfb1 (Λ := noHooks) 4 (fun _ => rfl) (fun x => Ev.of (by kernel_rfl))
theorem k58 : ConOk Try.prog 58 (con0 (eSc allC)) :=
  con0_ok rfb1 (Λ := noHooks) 4 rfl (Ev.of (by kernel_rfl))
noncomputable def sc1 : List (FuncId × Con) :=
  (45, con1 cSc fun x => eB (mayC x)) ::
  (58, con0 (eSc allC)) :: fb1
theorem rsc1 : TabOk Try.prog (tabOf sc1) := (tabOf_cons (tabOf_cons rfb1 k58) k45)

theorem k50 : ConOk Try.prog 50 (con2 cSc cW fun x n => eB (hasC x n)) :=
  con2_ok rsc1 (Λ := noHooks) 4 (fun _ _ => rfl) (fun x y => Ev.of (by kernel_rfl))
theorem k57 : ConOk Try.prog 57 (con2 cSc cSc fun a b => eB (inC a b)) :=
  con2_ok rsc1 (Λ := noHooks) 4 (fun _ _ => rfl) (fun x y => Ev.of (by kernel_rfl))
theorem k64 : ConOk Try.prog 64 (con2 cSc cSc fun a b => pair (eSc (joinCR a b)) (eI (joinCE a b))) :=
  con2_ok rsc1 (Λ := noHooks) 4 (fun _ _ => rfl) (fun x y => Ev.of (by kernel_rfl))
noncomputable def sc2 : List (FuncId × Con) :=
  (50, con2 cSc cW fun x n => eB (hasC x n)) ::
  (57, con2 cSc cSc fun a b => eB (inC a b)) ::
  (64, con2 cSc cSc fun a b => pair (eSc (joinCR a b)) (eI (joinCE a b))) :: sc1
theorem rsc2 : TabOk Try.prog (tabOf sc2) := (tabOf_cons (tabOf_cons (tabOf_cons rsc1 k64) k57) k50)

end Go.Rf
