/- Proved: the law SpanSets answers true at every input: what one of two spans holds, and what both hold, are the document's. No condition. -/
import Derived.Test.YtpmbaddpcahnfaaSpr
set_option linter.unusedVariables false
set_option linter.unusedSimpArgs false
namespace Go.Rf
open Go.Proofs Go.Proofs.Ytpmbaddpcahnfaa

theorem ev8 (a b : Sp) : Ev Try.prog (tabOf sl5) noHooks 6 8 [eSp a, eSp b] (eB true) := by
  have h : Ev Try.prog (tabOf sl5) noHooks 6 8 [eSp a, eSp b] (eB (spSets a b)) := Ev.of (by kernel_rfl)
  rwa [spSets_true] at h

theorem lift8 (os : Os) (started : os.Started) (H : Type) (enc : TypeId × Value → H) :
    ReturnsInHanded {} Try.checked os 8 .any (Rows.spanSetsSpec.pre6 enc Try.prog Try.f8 Rows.spanSetsRow.domain false) (Rows.spanSetsSpec.post enc Try.prog Try.f8 false true false false) :=
  law_lift (C := Try.checked) (tb := 4) [sSp, sSp] own started (by kernel_rfl) Try.func8
    (ChangeSpec.witness6 (enc := enc) (C := Try.checked) false ⟨#[], #[.agg #[.int .u64 0, .int .u64 0], .agg #[.int .u64 0, .int .u64 0]], []⟩ 8 (by kernel_rfl) (by kernel_rfl) (by kernel_rfl) (by kernel_rfl))
    (by kernel_rfl) rfl Try.underlying4 rfl
    (fun ds h => match ds, h with | [_, _], _ => rfl)
    (fun xs w => match xs with
      | (a, b, ()) => (ev8 ⟨a.1, a.2.1⟩ ⟨b.1, b.2.1⟩).calls sg5 (encs_ok (l := [sSp, sSp]) (ts := Try.f8.params.toList) (by kernel_rfl) (a, b, ())) w)

theorem spanSets_row : Rows.SpanSetsSaid :=
  OpenClaim.holds_of_wide 8 Try.f8 rfl rfl rfl rfl rfl rfl rfl ⟨rfl, rfl, rfl, rfl, rfl⟩ rfl rfl rfl rfl rfl (by kernel_rfl) Try.func8 (by kernel_rfl)
    (of_decide_eq_true (by kernel_rfl)) (by unfold Func.isWrapper; first | (rw [if_pos (by decide +kernel)]; kernel_rfl) | (rw [if_neg (by decide +kernel)]; exact ⟨rfl, rfl⟩))
    (fun os started H enc _ => lift8 os started H enc)
end Go.Rf

namespace Go.Proofs.Ytpmbaddpcahnfaa
theorem spanSets_holds : Rows.SpanSetsSaid := Go.Rf.spanSets_row
end Go.Proofs.Ytpmbaddpcahnfaa
