/- Proved: the law SpanHas answers true at every input: whether spans may be, what they hold, whether one holds another one, are as the document says. No condition. -/
import Derived.Test.YtpmbaddpcahnfaaSpr
set_option linter.unusedVariables false
set_option linter.unusedSimpArgs false
namespace Go.Rf
open Go.Proofs Go.Proofs.Ytpmbaddpcahnfaa

theorem ev7 (a b : Sp) (n : W) : Ev Try.prog (tabOf sl5) noHooks 6 7 [eSp a, eSp b, eW n] (eB true) := by
  have h : Ev Try.prog (tabOf sl5) noHooks 6 7 [eSp a, eSp b, eW n] (eB (spHas a b n)) := Ev.of (by kernel_rfl)
  rwa [spHas_true] at h

theorem lift7 (os : Os) (started : os.Started) (H : Type) (enc : TypeId × Value → H) :
    ReturnsInHanded {} Try.checked os 7 .any (Rows.spanHasSpec.pre6 enc Try.prog Try.f7 Rows.spanHasRow.domain false) (Rows.spanHasSpec.post enc Try.prog Try.f7 false true false false) :=
  law_lift (C := Try.checked) (tb := 4) [sSp, sSp, sW] own started (by kernel_rfl) Try.func7
    (ChangeSpec.witness6 (enc := enc) (C := Try.checked) false ⟨#[], #[.agg #[.int .u64 0, .int .u64 0], .agg #[.int .u64 0, .int .u64 0], .int .u64 0], []⟩ 8 (by kernel_rfl) (by kernel_rfl) (by kernel_rfl) (by kernel_rfl))
    (by kernel_rfl) rfl Try.underlying4 rfl
    (fun ds h => match ds, h with | [_, _, _], _ => rfl)
    (fun xs w => match xs with
      | (a, b, n, ()) => (ev7 ⟨a.1, a.2.1⟩ ⟨b.1, b.2.1⟩ n).calls sg5 (encs_ok (l := [sSp, sSp, sW]) (ts := Try.f7.params.toList) (by kernel_rfl) (a, b, n, ())) w)

theorem spanHas_row : Rows.SpanHasSaid :=
  OpenClaim.holds_of_wide 7 Try.f7 rfl rfl rfl rfl rfl rfl rfl ⟨rfl, rfl, rfl, rfl, rfl⟩ rfl rfl rfl rfl rfl (by kernel_rfl) Try.func7 (by kernel_rfl)
    (of_decide_eq_true (by kernel_rfl)) (by unfold Func.isWrapper; first | (rw [if_pos (by decide +kernel)]; kernel_rfl) | (rw [if_neg (by decide +kernel)]; exact ⟨rfl, rfl⟩))
    (fun os started H enc _ => lift7 os started H enc)
end Go.Rf

namespace Go.Proofs.Ytpmbaddpcahnfaa
theorem spanHas_holds : Rows.SpanHasSaid := Go.Rf.spanHas_row
end Go.Proofs.Ytpmbaddpcahnfaa
