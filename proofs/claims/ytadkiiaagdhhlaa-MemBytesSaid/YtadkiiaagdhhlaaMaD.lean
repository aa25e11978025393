/- Memory: the awake test's contract; MemLoads, evaluated. -/
import Derived.Test.YtadkiiaagdhhlaaMaC
set_option linter.unusedVariables false
set_option linter.unusedSimpArgs false
set_option maxRecDepth 100000
namespace Go.Rf
open Go.Proofs
theorem Ev.fl3 {P : Program} {Γ : Tab} {Λ : FuncId → Hook} {n : Nat} {f : FuncId} {args : List AV} {r : AV} {L : List Prop} (h1 : (Rf.fl (evalN P Γ Λ n f args)).map (fun y => y.1) = some r) (h2 : (Rf.fl (evalN P Γ Λ n f args)).map (fun y => y.2.2) = some L) (hL : ∀ p ∈ L, p) : Ev P Γ Λ n f args r := by
  cases e : Rf.fl (evalN P Γ Λ n f args) with
  | none => rw [e] at h1; cases h1
  | some x =>
    obtain ⟨r', g, L'⟩ := x
    rw [e] at h1 h2
    simp only [Option.map_some, Option.some.injEq] at h1 h2
    subst h1 h2
    exact Ev.fl e (fun _ => hL)
theorem ev14a : (fl (evalN Try.prog (tabOf ma8) hAw 8 14 [])).map (fun y => y.1) = some (eB true) := by kernel_rfl
theorem ev14b : (fl (evalN Try.prog (tabOf ma8) hAw 8 14 [])).map (fun y => y.2.2) = some [LoopGoal Try.prog (loopAt Try.prog 24 pGt) (lpGt (sl3 5) 5 bk3) (GtS.T b3) ⟨1#64, 0#64, 1#64⟩ 6 35 6] := by kernel_rfl
theorem ev14 : Ev Try.prog (tabOf ma8) hAw 8 14 [] (eB true) := Ev.fl3 ev14a ev14b (fun p hp => by
  simp only [List.mem_singleton] at hp
  subst hp
  exact goalG3 _ ⟨by decide, by decide, by decide, by decide, by decide⟩)
theorem k14 : ConOk Try.prog 14 (con0 (eB true)) := con0_ok rma8 (Λ := hAw) 8 rfl ev14
noncomputable def ma9 : List (FuncId × Con) := (14, con0 (eB true)) :: (19, con2 cFra cFra fun f g => eB (eqFra f g)) :: ma8
theorem rma9 : TabOk Try.prog (tabOf ma9) := tabOf_cons (tabOf_cons rma8 k19) k14
def lawLoads (f : Fra) (o s : W) : Bool := (true && eqVal (loadV f o s) (loadV f o s) && loadE f o s == loadE f o s) && rightF f == rightF f
theorem ev3 (f : Fra) (o s : W) : Ev Try.prog (tabOf ma9) noHooks 8 3 [eFra f, eI o, eI s] (eB true) := by
  have h : Ev Try.prog (tabOf ma9) noHooks 8 3 [eFra f, eI o, eI s] (eB (lawLoads f o s)) := Ev.of (by kernel_rfl)
  have e : lawLoads f o s = true := by unfold lawLoads; rw [eqVal_self]; simp
  rwa [e] at h
end Go.Rf
