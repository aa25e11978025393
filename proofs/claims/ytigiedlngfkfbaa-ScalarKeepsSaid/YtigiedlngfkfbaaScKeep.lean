/- Proved: the law ScalarKeeps answers true at every input: what a condition tells keeps what there is. No condition. -/
import Derived.Test.YtigiedlngfkfbaaScr
import Derived.Test.YtigiedlngfkfbaaSf6
set_option linter.unusedVariables false
set_option linter.unusedSimpArgs false
set_option maxRecDepth 100000
namespace Go.Rf
open Go.Proofs Go.Proofs.Ytigiedlngfkfbaa

theorem encs5 (g : sSm'.T) (x y : W) : encs [sSm', .int .u64, .int .u64] (g, x, y, ()) = [eSm (mkSm g), eW x, eW y] := by kernel_rfl
theorem lift5 (os : Os) (started : os.Started) (H : Type) (enc : TypeId × Value → H) :
    ReturnsInHanded {} Try.checked os 5 .any (Rows.scalarKeepsSpec.pre6 enc Try.prog Try.f5 Rows.scalarKeepsRow.domain false) (Rows.scalarKeepsSpec.post enc Try.prog Try.f5 false true false false) :=
  law_lift (C := Try.checked) (tb := 4) [sSm', .int .u64, .int .u64] own started (by kernel_rfl) Try.func5
    (ChangeSpec.witness6 (enc := enc) (C := Try.checked) false ⟨#[], #[.agg #[.int .i64 0, .bool false, .int .u64 0, .int .u64 0, .int .u64 0, .int .u64 0, .int .u64 0, .int .u64 0, .int .u64 0, .int .u64 0], .int .u64 0, .int .u64 0], []⟩ 8 (by kernel_rfl) (by kernel_rfl) (by kernel_rfl) (by kernel_rfl))
    (by kernel_rfl) rfl Try.underlying4 rfl
    (fun ds h => match ds, h with | [_, _, _], _ => rfl)
    (fun xs w => match xs with
      | (g, x, y, ()) => by rw [encs5 g x y]; exact calls5 (mkSm g) (x, y) w)

theorem scalarKeeps_row : Rows.ScalarKeepsSaid :=
  OpenClaim.holds_of_wide 5 Try.f5 rfl rfl rfl rfl rfl rfl rfl ⟨rfl, rfl, rfl, rfl, rfl⟩ rfl rfl rfl rfl rfl (by kernel_rfl) Try.func5 (by kernel_rfl)
    (of_decide_eq_true (by kernel_rfl)) (by unfold Func.isWrapper; first | (rw [if_pos (by decide +kernel)]; kernel_rfl) | (rw [if_neg (by decide +kernel)]; exact ⟨rfl, rfl⟩))
    (fun os started H enc _ => lift5 os started H enc)
end Go.Rf

namespace Go.Proofs.Ytigiedlngfkfbaa
theorem scalarKeeps_holds : Rows.ScalarKeepsSaid := Go.Rf.scalarKeeps_row
end Go.Proofs.Ytigiedlngfkfbaa
