/- Proved: the law ScalarSwaps answers true at every input: what turned bytes may be is the document's. No condition. -/
import Derived.Test.YtigiedlngfkfbaaScr
import Derived.Test.YtigiedlngfkfbaaSa6
set_option linter.unusedVariables false
set_option linter.unusedSimpArgs false
set_option maxRecDepth 100000
namespace Go.Rf
open Go.Proofs Go.Proofs.Ytigiedlngfkfbaa

theorem ev6 (z : W) (x : Sc) : Ev Try.prog (tabOf sf3) noHooks 8 6 [eI z, eSc x] (eB true) := by
  have h : Ev Try.prog (tabOf sf3) noHooks 8 6 [eI z, eSc x] (eB (swaps z x)) := Ev.of (by kernel_rfl)
  rwa [swaps_true] at h

theorem lift6 (os : Os) (started : os.Started) (H : Type) (enc : TypeId × Value → H) :
    ReturnsInHanded {} Try.checked os 6 .any (Rows.scalarSwapsSpec.pre6 enc Try.prog Try.f6 Rows.scalarSwapsRow.domain false) (Rows.scalarSwapsSpec.post enc Try.prog Try.f6 false true false false) :=
  law_lift (C := Try.checked) (tb := 4) [sI, sSc] own started (by kernel_rfl) Try.func6
    (ChangeSpec.witness6 (enc := enc) (C := Try.checked) false ⟨#[], #[.int .i64 0, .agg #[.int .u64 0, .int .u64 0, .int .u64 0, .int .u64 0]], []⟩ 8 (by kernel_rfl) (by kernel_rfl) (by kernel_rfl) (by kernel_rfl))
    (by kernel_rfl) rfl Try.underlying4 rfl
    (fun ds h => match ds, h with | [_, _], _ => rfl)
    (fun xs w => match xs with
      | (z, c, ()) => (ev6 z ⟨⟨c.1.1, c.1.2.1⟩, ⟨c.2.1.1, c.2.1.2.1⟩⟩).calls rsf3 (encs_ok (l := [sI, sSc]) (ts := Try.f6.params.toList) (by kernel_rfl) (z, c, ())) w)

theorem scalarSwaps_row : Rows.ScalarSwapsSaid :=
  OpenClaim.holds_of_wide 6 Try.f6 rfl rfl rfl rfl rfl rfl rfl ⟨rfl, rfl, rfl, rfl, rfl⟩ rfl rfl rfl rfl rfl (by kernel_rfl) Try.func6 (by kernel_rfl)
    (of_decide_eq_true (by kernel_rfl)) (by unfold Func.isWrapper; first | (rw [if_pos (by decide +kernel)]; kernel_rfl) | (rw [if_neg (by decide +kernel)]; exact ⟨rfl, rfl⟩))
    (fun os started H enc _ => lift6 os started H enc)
end Go.Rf

namespace Go.Proofs.Ytigiedlngfkfbaa
theorem scalarSwaps_holds : Rows.ScalarSwapsSaid := Go.Rf.scalarSwaps_row
end Go.Proofs.Ytigiedlngfkfbaa
