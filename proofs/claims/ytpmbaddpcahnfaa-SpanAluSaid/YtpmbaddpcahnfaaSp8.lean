/- Spans: a number that is counted round into a span. -/
import Derived.Test.YtpmbaddpcahnfaaSr4
set_option linter.unusedVariables false
set_option linter.unusedSimpArgs false
namespace Go.Rf
open Go.Proofs

theorem pick_n0 {x : W} (h : (!(x == t64)) = true) : x + 1#64 ≠ 0#64 := by
  intro e
  rw [Bool.not_eq_true', beq_eq_false_iff_ne] at h
  apply h
  apply BitVec.eq_of_toNat_eq
  have := congrArg BitVec.toNat e
  rw [BitVec.toNat_add] at this
  have e1 : (1#64 : W).toNat = 1 := rfl
  have z : (0#64 : W).toNat = 0 := rfl
  have tn : t64.toNat = 18446744073709551615 := rfl
  have := x.isLt
  omega
theorem k19 : ConOk Try.prog 19 (con2 cSp cW fun s n => eW (pickW s n)) :=
  con2_ok sg9 (Λ := noHooks) 3 (fun _ _ => rfl) (fun s n => Ev.fg (L := [([!(s.hi - s.lo == t64)], s.hi - s.lo + 1#64 ≠ 0#64)]) (by kernel_rfl) (by
    intro e he hg
    simp only [List.mem_singleton] at he
    subst he
    exact pick_n0 (hg _ (List.mem_cons_self ..))))
noncomputable def sl10 : List (FuncId × Con) := (19, con2 cSp cW fun s n => eW (pickW s n)) :: sl9
theorem sg10 : TabOk Try.prog (tabOf sl10) := tabOf_cons sg9 k19

theorem ev5 (g : Gv) : Ev Try.prog (tabOf sl10) noHooks 6 5 [eGv g] (eB true) := by
  have h : Ev Try.prog (tabOf sl10) noHooks 6 5 [eGv g] (eB (soundG g)) := Ev.of (by kernel_rfl)
  rwa [soundG_true] at h
end Go.Rf
