/- Proved: the law ScalarAlu answers true at every input: what operations make of scalars is the document's. No condition. -/
import Derived.Test.YtigiedlngfkfbaaGreatZy
import Derived.Test.YtigiedlngfkfbaaGreatRfG
import Derived.Test.YtigiedlngfkfbaaGreatRows
set_option linter.unusedVariables false
set_option linter.unusedSimpArgs false
set_option maxRecDepth 100000
namespace Go.Rf.E
open Go.Proofs Go.Proofs.YtigiedlngfkfbaaGreat

theorem own : ownKnob Tryz.prog.godebug = none := by kernel_rfl
theorem encs3 (g : sSm'.T) : encs [sSm'] (g, ()) = [eSm (mkSm g)] := by kernel_rfl
theorem lift3 (os : Os) (started : os.Started) (H : Type) (enc : TypeId × Value → H) :
    ReturnsInHanded {} Tryz.checked os 3 .any (Rows.scalarAluSpec.pre6 enc Tryz.prog Tryz.f3 Rows.scalarAluRow.domain false) (Rows.scalarAluSpec.post enc Tryz.prog Tryz.f3 false true false false) :=
  law_lift (C := Tryz.checked) (tb := 4) [sSm'] own started (by kernel_rfl) Tryz.func3
    (ChangeSpec.witness6 (enc := enc) (C := Tryz.checked) false ⟨#[], #[.agg #[.int .i64 0, .bool false, .int .u64 0, .int .u64 0, .int .u64 0, .int .u64 0, .int .u64 0, .int .u64 0, .int .u64 0, .int .u64 0]], []⟩ 8 (by kernel_rfl) (by kernel_rfl) (by kernel_rfl) (by kernel_rfl))
    (by kernel_rfl) rfl Tryz.underlying4 rfl
    (fun ds h => match ds, h with | [_], _ => rfl)
    (fun xs w => match xs with
      | (g, ()) => by rw [encs3 g]; exact calls3 (mkSm g) w)

theorem scalarAlu_row : Rows.ScalarAluSaid :=
  OpenClaim.holds_of_wide 3 Tryz.f3 rfl rfl rfl rfl rfl rfl rfl ⟨rfl, rfl, rfl, rfl, rfl⟩ rfl rfl rfl rfl rfl (by kernel_rfl) Tryz.func3 (by kernel_rfl)
    (of_decide_eq_true (by kernel_rfl)) (by unfold Func.isWrapper; first | (rw [if_pos (by decide +kernel)]; kernel_rfl) | (rw [if_neg (by decide +kernel)]; exact ⟨rfl, rfl⟩))
    (fun os started H enc _ => lift3 os started H enc)
end Go.Rf.E

namespace Go.Proofs.YtigiedlngfkfbaaGreat
theorem scalarAlu_holds : Rows.ScalarAluSaid := Go.Rf.E.scalarAlu_row
end Go.Proofs.YtigiedlngfkfbaaGreat
