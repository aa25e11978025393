/- Scalars: the awake test. -/
import Derived.Test.YtigiedlngfkfbaaGreatZa3
import Derived.Test.YtigiedlngfkfbaaGreatRfG
set_option linter.unusedVariables false
set_option linter.unusedSimpArgs false
set_option maxRecDepth 100000
namespace Go.Rf
open Go.Proofs

def allTn : Tn := ⟨0, 18446744073709551615#64⟩
def is5 (op z : W) : Bool := op == 5#64 && z == 64#64
def bits5 (a b : Sc) : Tn := T.Tn.mux ((bif T.bad2 a.t b.t then 1#64 else 0#64) != 0#64) allTn (T.Tn.mux (T.bad2 a.t b.t) T.nil (T.tAnd a.t b.t))
theorem k29 : ConOk Tryz.prog 29 (con4c is5 cI cI cSc cSc fun _ _ a b => eTn (bits5 a b)) :=
  con4l_ok rsc2 (Λ := noHooks) 5 (.lit .i64 5) (.lit .i64 64) rfl rfl (fun _ _ _ _ => rfl) (fun op z h => by
    have h1 : op = 5#64 ∧ z = 64#64 := by simpa [is5] using h
    obtain ⟨rfl, rfl⟩ := h1
    exact ⟨rfl, rfl⟩) (fun op z a b h => Ev.of (by kernel_rfl))
noncomputable def sd1 : List (FuncId × Con) := (29, con4c is5 cI cI cSc cSc fun _ _ a b => eTn (bits5 a b)) :: sc2
theorem rsd1 : TabOk Tryz.prog (tabOf sd1) := tabOf_cons rsc2 k29

theorem k8 : ConOk Tryz.prog 8 (con0 (eB true)) :=
  con0_ok rsd1 (Λ := noHooks) 8 rfl (Ev.of (by kernel_rfl))
noncomputable def sd2 : List (FuncId × Con) := (8, con0 (eB true)) :: sd1
theorem rsd2 : TabOk Tryz.prog (tabOf sd2) := tabOf_cons rsd1 k8
end Go.Rf
