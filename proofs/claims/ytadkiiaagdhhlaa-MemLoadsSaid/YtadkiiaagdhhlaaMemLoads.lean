/- Proved: the law MemLoads answers true at every input: what lies at a place of any frame is the document's. No condition. -/
import Derived.Test.YtadkiiaagdhhlaaMar
set_option linter.unusedVariables false
set_option linter.unusedSimpArgs false
set_option maxRecDepth 100000
namespace Go.Rf
open Go.Proofs Go.Proofs.Ytadkiiaagdhhlaa

theorem lift3 (os : Os) (started : os.Started) (H : Type) (enc : TypeId × Value → H) :
    ReturnsInHanded {} Try.checked os 3 .any (Rows.memLoadsSpec.pre6 enc Try.prog Try.f3 Rows.memLoadsRow.domain false) (Rows.memLoadsSpec.post enc Try.prog Try.f3 false true false false) :=
  law_lift (C := Try.checked) (tb := 4) [sFra, sI, sI] own started (by kernel_rfl) Try.func3
    (witZ (enc := enc) (C := Try.checked) [zFra, .int .i64 0, .int .i64 0] 8 Try.func3 (by kernel_rfl) (by kernel_rfl) (by kernel_rfl) (by kernel_rfl) (by kernel_rfl) (by kernel_rfl) (by kernel_rfl))
    (by kernel_rfl) rfl Try.underlying4 rfl
    (fun ds h => match ds, h with | [_, _, _], _ => rfl)
    (fun xs w => match xs with
      | (f, o, s, ()) => calls_of (ts := Try.f3.params.toList) (enc3 (enc_Fra f) (enc_I o) (enc_I s)) (by kernel_rfl) rma9 (ev3 (mkFra f) o s) w)

theorem memLoads_row : Rows.MemLoadsSaid :=
  OpenClaim.holds_of_wide 3 Try.f3 rfl rfl rfl rfl rfl rfl rfl ⟨rfl, rfl, rfl, rfl, rfl⟩ rfl rfl rfl rfl rfl (by kernel_rfl) Try.func3 (by kernel_rfl)
    (of_decide_eq_true (by kernel_rfl)) (by unfold Func.isWrapper; first | (rw [if_pos (by decide +kernel)]; kernel_rfl) | (rw [if_neg (by decide +kernel)]; exact ⟨rfl, rfl⟩))
    (fun os started H enc _ => lift3 os started H enc)
end Go.Rf

namespace Go.Proofs.Ytadkiiaagdhhlaa
theorem memLoads_holds : Rows.MemLoadsSaid := Go.Rf.memLoads_row
end Go.Proofs.Ytadkiiaagdhhlaa
