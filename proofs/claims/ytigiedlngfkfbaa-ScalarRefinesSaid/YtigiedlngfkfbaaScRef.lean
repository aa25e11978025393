/- Proved: the law ScalarRefines answers true at every input: what a condition tells of both sides is the document's. No condition. -/
import Derived.Test.YtigiedlngfkfbaaScr
import Derived.Test.YtigiedlngfkfbaaSe9
set_option linter.unusedVariables false
set_option linter.unusedSimpArgs false
set_option maxRecDepth 100000
namespace Go.Rf
open Go.Proofs Go.Proofs.Ytigiedlngfkfbaa

theorem encs3 (g : sSm'.T) (h : Bool) : encs [sSm', .bool] (g, h, ()) = [eSm (mkSm g), eB h] := by kernel_rfl
theorem lift3 (os : Os) (started : os.Started) (H : Type) (enc : TypeId × Value → H) :
    ReturnsInHanded {} Try.checked os 3 .any (Rows.scalarRefinesSpec.pre6 enc Try.prog Try.f3 Rows.scalarRefinesRow.domain false) (Rows.scalarRefinesSpec.post enc Try.prog Try.f3 false true false false) :=
  law_lift (C := Try.checked) (tb := 4) [sSm', .bool] own started (by kernel_rfl) Try.func3
    (ChangeSpec.witness6 (enc := enc) (C := Try.checked) false ⟨#[], #[.agg #[.int .i64 0, .bool false, .int .u64 0, .int .u64 0, .int .u64 0, .int .u64 0, .int .u64 0, .int .u64 0, .int .u64 0, .int .u64 0], .bool false], []⟩ 8 (by kernel_rfl) (by kernel_rfl) (by kernel_rfl) (by kernel_rfl))
    (by kernel_rfl) rfl Try.underlying4 rfl
    (fun ds h => match ds, h with | [_, _], _ => rfl)
    (fun xs w => match xs with
      | (g, h, ()) => by rw [encs3 g h]; exact calls3 (mkSm g) h w)

theorem scalarRefines_row : Rows.ScalarRefinesSaid :=
  OpenClaim.holds_of_wide 3 Try.f3 rfl rfl rfl rfl rfl rfl rfl ⟨rfl, rfl, rfl, rfl, rfl⟩ rfl rfl rfl rfl rfl (by kernel_rfl) Try.func3 (by kernel_rfl)
    (of_decide_eq_true (by kernel_rfl)) (by unfold Func.isWrapper; first | (rw [if_pos (by decide +kernel)]; kernel_rfl) | (rw [if_neg (by decide +kernel)]; exact ⟨rfl, rfl⟩))
    (fun os started H enc _ => lift3 os started H enc)
end Go.Rf

namespace Go.Proofs.Ytigiedlngfkfbaa
theorem scalarRefines_holds : Rows.ScalarRefinesSaid := Go.Rf.scalarRefines_row
end Go.Proofs.Ytigiedlngfkfbaa
