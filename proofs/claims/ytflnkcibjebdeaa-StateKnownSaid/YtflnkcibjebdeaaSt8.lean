/- States: contracts of slots and of joins. -/
import Derived.Test.YtflnkcibjebdeaaSt6
import Derived.Test.YtflnkcibjebdeaaSt7
set_option linter.unusedVariables false
set_option linter.unusedSimpArgs false
set_option maxRecDepth 100000
namespace Go.Rf
open Go.Proofs
def cPk : Cod W := cI
theorem k25 : ConOk Try.prog 25 (con1 cSlt fun r => eB (knownS r)) := con1_ok rsv2 (Λ := noHooks) 5 (fun _ => rfl) (fun x => Ev.of (by kernel_rfl))
theorem kk27 : ConOk Try.prog 27 (con1 cSlt fun r => eB (maySD r)) := con1_ok rsv2 (Λ := noHooks) 5 (fun _ => rfl) (fun x => Ev.of (by kernel_rfl))
theorem k27 : ConOk Try.prog 27 (con1 cSlt fun r => eB (knownS r)) := (show (con1 cSlt fun r => eB (maySD r)) = (con1 cSlt fun r => eB (knownS r)) from congrArg _ (by funext r; rw [maySD_same])) ▸ kk27
theorem k31 : ConOk Try.prog 31 (con3 cReg cVal cI fun x v p => eB (holdsR x v p)) := con3_ok rsv2 (Λ := noHooks) 5 (fun _ _ _ => rfl) (fun x v p => Ev.of (by kernel_rfl))
theorem k35 : ConOk Try.prog 35 (con3 cReg cVal cI fun x v p => eB (holdsRD x v p)) := con3_ok rsv2 (Λ := noHooks) 5 (fun _ _ _ => rfl) (fun x v p => Ev.of (by kernel_rfl))
theorem k38 : ConOk Try.prog 38 (con2 cSlt cSlt fun x y => eB (coversS x y)) := con2_ok rsv2 (Λ := noHooks) 5 (fun _ _ => rfl) (fun x y => Ev.of (by kernel_rfl))
theorem k41 : ConOk Try.prog 41 (con2 cReg cReg fun x y => eReg (joinR x y)) := con2_ok rsv2 (Λ := noHooks) 5 (fun _ _ => rfl) (fun x y => Ev.of (by kernel_rfl))
theorem k43 : ConOk Try.prog 43 (con2 cReg cReg fun x y => eReg (joinRD x y)) := con2_ok rsv2 (Λ := noHooks) 5 (fun _ _ => rfl) (fun x y => Ev.of (by kernel_rfl))
noncomputable def sv3 : List (FuncId × Con) :=
  (25, con1 cSlt fun r => eB (knownS r)) :: (27, con1 cSlt fun r => eB (knownS r)) :: (31, con3 cReg cVal cI fun x v p => eB (holdsR x v p)) :: (35, con3 cReg cVal cI fun x v p => eB (holdsRD x v p)) ::
  (38, con2 cSlt cSlt fun x y => eB (coversS x y)) :: (41, con2 cReg cReg fun x y => eReg (joinR x y)) :: (43, con2 cReg cReg fun x y => eReg (joinRD x y)) :: sv2
theorem rsv3 : TabOk Try.prog (tabOf sv3) := tabOf_cons (tabOf_cons (tabOf_cons (tabOf_cons (tabOf_cons (tabOf_cons (tabOf_cons rsv2 k43) k41) k38) k35) k31) k27) k25
end Go.Rf
