/- States: contracts of leaves. -/
import Derived.Test.YtflnkcibjebdeaaFa5
import Derived.Test.YtflnkcibjebdeaaSt2
set_option linter.unusedVariables false
set_option linter.unusedSimpArgs false
set_option maxRecDepth 100000
namespace Go.Rf
open Go.Proofs
theorem k46 : ConOk Try.prog 46 (con1 cReg fun r => eB (spreadR r)) := con1_ok rfe2 (Λ := noHooks) 5 (fun _ => rfl) (fun x => Ev.of (by kernel_rfl))
theorem kk48 : ConOk Try.prog 48 (con1 cReg fun r => eB (farR r)) := con1_ok rfe2 (Λ := noHooks) 5 (fun _ => rfl) (fun x => Ev.of (by kernel_rfl))
theorem k48 : ConOk Try.prog 48 (con1 cReg fun r => eB (spreadR r)) := (show (con1 cReg fun r => eB (farR r)) = (con1 cReg fun r => eB (spreadR r)) from congrArg _ (by funext r; rw [far_same])) ▸ kk48
theorem k55 : ConOk Try.prog 55 (con1 cReg fun r => eB (noughtR r)) := con1_ok rfe2 (Λ := noHooks) 5 (fun _ => rfl) (fun x => Ev.of (by kernel_rfl))
theorem k56 : ConOk Try.prog 56 (con1 cReg fun r => eB (firstR r)) := con1_ok rfe2 (Λ := noHooks) 5 (fun _ => rfl) (fun x => Ev.of (by kernel_rfl))
theorem k59 : ConOk Try.prog 59 (con1 cReg fun r => eB (noughtD r)) := con1_ok rfe2 (Λ := noHooks) 5 (fun _ => rfl) (fun x => Ev.of (by kernel_rfl))
theorem k42 : ConOk Try.prog 42 (con1 cSlt fun r => eB8 (sureS r)) := con1_ok rfe2 (Λ := noHooks) 5 (fun _ => rfl) (fun x => Ev.of (by kernel_rfl))
theorem k61 : ConOk Try.prog 61 (con2o cSlt cI (fun x j => eB (sureD x j)) (fun x j => 0 ≤ toZ .i64 j)) :=
  con2o_ok rfe2 (Λ := noHooks) 5 (fun _ _ => rfl) (fun x j h => Ev.fg (L := [([x.r.k == 0#8, !(x.r.k == 1#8)], 0 ≤ toZ .i64 j)]) (by kernel_rfl) (fun e he _ => by simp only [List.mem_singleton] at he; subst he; exact h))
theorem k69 : ConOk Try.prog 69 (con1 cVal fun r => eB (addrV r)) := con1_ok rfe2 (Λ := noHooks) 5 (fun _ => rfl) (fun x => Ev.of (by kernel_rfl))
theorem k52 : ConOk Try.prog 52 (con1 cVal fun r => eB (addrD r)) := con1_ok rfe2 (Λ := noHooks) 5 (fun _ => rfl) (fun x => Ev.of (by kernel_rfl))
theorem k53 : ConOk Try.prog 53 (con2 cMSl cI fun x j => eB (hasM x j)) := con2_ok rfe2 (Λ := noHooks) 5 (fun _ _ => rfl) (fun x j => Ev.of (by kernel_rfl))
theorem k30 : ConOk Try.prog 30 (con1 cVal fun r => eB (mayV r)) := con1_ok rfe2 (Λ := noHooks) 5 (fun _ => rfl) (fun x => Ev.of (by kernel_rfl))
theorem kk34 : ConOk Try.prog 34 (con1 cVal fun r => eB (mayVD r)) := con1_ok rfe2 (Λ := noHooks) 5 (fun _ => rfl) (fun x => Ev.of (by kernel_rfl))
theorem k34 : ConOk Try.prog 34 (con1 cVal fun r => eB (mayV r)) := (show (con1 cVal fun r => eB (mayVD r)) = (con1 cVal fun r => eB (mayV r)) from congrArg _ (by funext r; rw [mayV_same])) ▸ kk34
noncomputable def sv1 : List (FuncId × Con) :=
  (46, con1 cReg fun r => eB (spreadR r)) :: (48, con1 cReg fun r => eB (spreadR r)) :: (55, con1 cReg fun r => eB (noughtR r)) :: (56, con1 cReg fun r => eB (firstR r)) ::
  (59, con1 cReg fun r => eB (noughtD r)) :: (42, con1 cSlt fun r => eB8 (sureS r)) :: (61, con2o cSlt cI (fun x j => eB (sureD x j)) (fun x j => 0 ≤ toZ .i64 j)) ::
  (69, con1 cVal fun r => eB (addrV r)) :: (52, con1 cVal fun r => eB (addrD r)) :: (53, con2 cMSl cI fun x j => eB (hasM x j)) :: (30, con1 cVal fun r => eB (mayV r)) :: (34, con1 cVal fun r => eB (mayV r)) :: fe2
theorem rsv1 : TabOk Try.prog (tabOf sv1) :=
  tabOf_cons (tabOf_cons (tabOf_cons (tabOf_cons (tabOf_cons (tabOf_cons (tabOf_cons (tabOf_cons (tabOf_cons (tabOf_cons (tabOf_cons (tabOf_cons rfe2 k34) k30) k53) k52) k69) k61) k42) k59) k56) k55) k48) k46
end Go.Rf
