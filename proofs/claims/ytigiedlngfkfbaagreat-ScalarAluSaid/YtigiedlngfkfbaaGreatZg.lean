/- Contracts case by case (free of numbers). -/
import Derived.Test.YtigiedlngfkfbaaGreatZa6
import Derived.Test.YtigiedlngfkfbaaGreatRfG
set_option linter.unusedVariables false
set_option linter.unusedSimpArgs false
set_option maxRecDepth 100000
namespace Go.Rf
open Go.Proofs

/-- It answers so at these values, by whatever table. -/
def EvAt (P : Program) (f : FuncId) (vs : List Value) (r : AV) : Prop := ∃ (Γ : Tab) (Λ : FuncId → Hook) (n : Nat) (l : List AV), TabOk P Γ ∧ (∀ v ∈ l, pf v = true) ∧ l.map (val E0) = vs ∧ Ev P Γ Λ n f l r
theorem evAt {P : Program} {f : FuncId} {Γ : Tab} {Λ : FuncId → Hook} {n : Nat} {l : List AV} {vs : List Value} {r : AV} (hΓ : TabOk P Γ) (hp : l.all pf = true) (hv : l.map (val E0) = vs) (h : Ev P Γ Λ n f l r) : EvAt P f vs r :=
  ⟨Γ, Λ, n, l, hΓ, fun v hv => List.all_eq_true.1 hp v hv, hv, h⟩
def cBl : Cod Bool := FCod.bl.one
def single (a : Sc) : Bool := a.s.lo == a.s.hi
end Go.Rf
