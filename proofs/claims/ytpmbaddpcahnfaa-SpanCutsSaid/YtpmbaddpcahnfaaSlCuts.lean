/- Proved: the law SpanCuts answers true at every input: what a span holds, cut to any number of bits, is the document's. No condition. -/
import Derived.Test.YtpmbaddpcahnfaaSpr
set_option linter.unusedVariables false
set_option linter.unusedSimpArgs false
namespace Go.Rf
open Go.Proofs Go.Proofs.Ytpmbaddpcahnfaa

theorem ev3 (s : Sp) (n : W) : Ev Try.prog (tabOf sl5) noHooks 6 3 [eSp s, eI n] (eB true) := by
  have h : Ev Try.prog (tabOf sl5) noHooks 6 3 [eSp s, eI n] (eB (spCuts s n)) := Ev.of (by kernel_rfl)
  rwa [spCuts_true] at h

theorem lift3 (os : Os) (started : os.Started) (H : Type) (enc : TypeId × Value → H) :
    ReturnsInHanded {} Try.checked os 3 .any (Rows.spanCutsSpec.pre6 enc Try.prog Try.f3 Rows.spanCutsRow.domain false) (Rows.spanCutsSpec.post enc Try.prog Try.f3 false true false false) :=
  law_lift (C := Try.checked) (tb := 4) [sSp, sI] own started (by kernel_rfl) Try.func3
    (ChangeSpec.witness6 (enc := enc) (C := Try.checked) false ⟨#[], #[.agg #[.int .u64 0, .int .u64 0], .int .i64 0], []⟩ 8 (by kernel_rfl) (by kernel_rfl) (by kernel_rfl) (by kernel_rfl))
    (by kernel_rfl) rfl Try.underlying4 rfl
    (fun ds h => match ds, h with | [_, _], _ => rfl)
    (fun xs w => match xs with
      | (a, n, ()) => (ev3 ⟨a.1, a.2.1⟩ n).calls sg5 (encs_ok (l := [sSp, sI]) (ts := Try.f3.params.toList) (by kernel_rfl) (a, n, ())) w)

theorem spanCuts_row : Rows.SpanCutsSaid :=
  OpenClaim.holds_of_wide 3 Try.f3 rfl rfl rfl rfl rfl rfl rfl ⟨rfl, rfl, rfl, rfl, rfl⟩ rfl rfl rfl rfl rfl (by kernel_rfl) Try.func3 (by kernel_rfl)
    (of_decide_eq_true (by kernel_rfl)) (by unfold Func.isWrapper; first | (rw [if_pos (by decide +kernel)]; kernel_rfl) | (rw [if_neg (by decide +kernel)]; exact ⟨rfl, rfl⟩))
    (fun os started H enc _ => lift3 os started H enc)
end Go.Rf

namespace Go.Proofs.Ytpmbaddpcahnfaa
theorem spanCuts_holds : Rows.SpanCutsSaid := Go.Rf.spanCuts_row
end Go.Proofs.Ytpmbaddpcahnfaa
