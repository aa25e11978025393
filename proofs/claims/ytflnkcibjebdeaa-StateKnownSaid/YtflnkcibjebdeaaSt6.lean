/- States: contracts of registers. -/
import Derived.Test.YtflnkcibjebdeaaSt3
import Derived.Test.YtflnkcibjebdeaaSt5
set_option linter.unusedVariables false
set_option linter.unusedSimpArgs false
set_option maxRecDepth 100000
namespace Go.Rf
open Go.Proofs
theorem k24 : ConOk Try.prog 24 (con1 cReg fun r => eB (mayR r)) := con1_ok rsv1 (Λ := noHooks) 5 (fun _ => rfl) (fun x => Ev.of (by kernel_rfl))
theorem kk26 : ConOk Try.prog 26 (con1 cReg fun r => eB (mayRD r)) := con1_ok rsv1 (Λ := noHooks) 5 (fun _ => rfl) (fun x => Ev.of (by kernel_rfl))
theorem k26 : ConOk Try.prog 26 (con1 cReg fun r => eB (mayR r)) := (show (con1 cReg fun r => eB (mayRD r)) = (con1 cReg fun r => eB (mayR r)) from congrArg _ (by funext r; rw [mayR_same])) ▸ kk26
theorem k81 : ConOk Try.prog 81 (con1 cReg fun r => eB (oneP r)) := con1_ok rsv1 (Λ := noHooks) 5 (fun _ => rfl) (fun x => Ev.of (by kernel_rfl))
theorem k65 : ConOk Try.prog 65 (con1 cReg fun r => eB (thirdD r)) := con1_ok rsv1 (Λ := noHooks) 5 (fun _ => rfl) (fun x => Ev.of (by kernel_rfl))
theorem k37 : ConOk Try.prog 37 (con2 cReg cReg fun a b => eB (inR a b)) := con2_ok rsv1 (Λ := noHooks) 5 (fun _ _ => rfl) (fun x y => Ev.of (by kernel_rfl))
theorem k39 : ConOk Try.prog 39 (con2 cReg cReg fun a b => eB (inRD a b)) := con2_ok rsv1 (Λ := noHooks) 5 (fun _ _ => rfl) (fun x y => Ev.of (by kernel_rfl))
noncomputable def sv2 : List (FuncId × Con) :=
  (24, con1 cReg fun r => eB (mayR r)) :: (26, con1 cReg fun r => eB (mayR r)) :: (81, con1 cReg fun r => eB (oneP r)) :: (65, con1 cReg fun r => eB (thirdD r)) ::
  (37, con2 cReg cReg fun a b => eB (inR a b)) :: (39, con2 cReg cReg fun a b => eB (inRD a b)) :: sv1
theorem rsv2 : TabOk Try.prog (tabOf sv2) := tabOf_cons (tabOf_cons (tabOf_cons (tabOf_cons (tabOf_cons (tabOf_cons rsv1 k39) k37) k65) k81) k26) k24
end Go.Rf
