/- Proved: the law ScalarSound answers true at every input: whatever numbers two scalars hold, what an operation makes of them is held by the answer, single ones by a single one, and so are turned bytes. No condition. -/
import Derived.Test.YtigiedlngfkfbaaScr
import Derived.Test.YtigiedlngfkfbaaSi2
set_option linter.unusedVariables false
set_option linter.unusedSimpArgs false
set_option maxRecDepth 100000
namespace Go.Rf
open Go.Proofs Go.Proofs.Ytigiedlngfkfbaa

theorem encs8 (g : sSm'.T) (x y : W) : encs [sSm', .int .u64, .int .u64] (g, x, y, ()) = [eSm (mkSm g), eW x, eW y] := by kernel_rfl
theorem lift8 (os : Os) (started : os.Started) (H : Type) (enc : TypeId × Value → H) :
    ReturnsInHanded {} Try.checked os 8 .any (Rows.scalarSoundSpec.pre6 enc Try.prog Try.f8 Rows.scalarSoundRow.domain false) (Rows.scalarSoundSpec.post enc Try.prog Try.f8 false true false false) :=
  law_lift (C := Try.checked) (tb := 4) [sSm', .int .u64, .int .u64] own started (by kernel_rfl) Try.func8
    (ChangeSpec.witness6 (enc := enc) (C := Try.checked) false ⟨#[], #[.agg #[.int .i64 0, .bool false, .int .u64 0, .int .u64 0, .int .u64 0, .int .u64 0, .int .u64 0, .int .u64 0, .int .u64 0, .int .u64 0], .int .u64 0, .int .u64 0], []⟩ 8 (by kernel_rfl) (by kernel_rfl) (by kernel_rfl) (by kernel_rfl))
    (by kernel_rfl) rfl Try.underlying4 rfl
    (fun ds h => match ds, h with | [_, _, _], _ => rfl)
    (fun xs w => match xs with
      | (g, x, y, ()) => by rw [encs8 g x y]; exact calls8 (mkSm g) (x, y) w)

theorem scalarSound_row : Rows.ScalarSoundSaid :=
  OpenClaim.holds_of_wide 8 Try.f8 rfl rfl rfl rfl rfl rfl rfl ⟨rfl, rfl, rfl, rfl, rfl⟩ rfl rfl rfl rfl rfl (by kernel_rfl) Try.func8 (by kernel_rfl)
    (of_decide_eq_true (by kernel_rfl)) (by unfold Func.isWrapper; first | (rw [if_pos (by decide +kernel)]; kernel_rfl) | (rw [if_neg (by decide +kernel)]; exact ⟨rfl, rfl⟩))
    (fun os started H enc _ => lift8 os started H enc)
end Go.Rf

namespace Go.Proofs.Ytigiedlngfkfbaa
theorem scalarSound_holds : Rows.ScalarSoundSaid := Go.Rf.scalarSound_row
end Go.Proofs.Ytigiedlngfkfbaa
