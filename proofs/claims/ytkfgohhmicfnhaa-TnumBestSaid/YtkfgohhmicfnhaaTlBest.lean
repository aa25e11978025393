/- Proved: the law TnumBest answers true at every input: of narrow tnums the answer of each operation but Mul is just what joins all that comes, and that of Mul is at least that. No condition. -/
import Derived.Test.YtkfgohhmicfnhaaTnr
import Derived.Test.YtkfgohhmicfnhaaTbB0
set_option linter.unusedVariables false
set_option linter.unusedSimpArgs false
set_option maxRecDepth 100000
namespace Go.Rf
open Go.Proofs Go.Proofs.Ytkfgohhmicfnhaa

theorem lift6 (os : Os) (started : os.Started) (H : Type) (enc : TypeId × Value → H) :
    ReturnsInHanded {} Try.checked os 6 .any (Rows.tnumBestSpec.pre6 enc Try.prog Try.f6 Rows.tnumBestRow.domain false) (Rows.tnumBestSpec.post enc Try.prog Try.f6 false true false false) :=
  law_lift (C := Try.checked) (tb := 4) [sTn, sTn] own started (by kernel_rfl) Try.func6
    (ChangeSpec.witness6 (enc := enc) (C := Try.checked) false ⟨#[], #[.agg #[.int .u64 0, .int .u64 0], .agg #[.int .u64 0, .int .u64 0]], []⟩ 8 (by kernel_rfl) (by kernel_rfl) (by kernel_rfl) (by kernel_rfl))
    (by kernel_rfl) rfl Try.underlying4 rfl
    (fun ds h => match ds, h with | [_, _], _ => rfl)
    (fun xs w => match xs with
      | (a, b, ()) => calls6 ⟨a.1, a.2.1⟩ ⟨b.1, b.2.1⟩ w)

theorem tnumBest_row : Rows.TnumBestSaid :=
  OpenClaim.holds_of_wide 6 Try.f6 rfl rfl rfl rfl rfl rfl rfl ⟨rfl, rfl, rfl, rfl, rfl⟩ rfl rfl rfl rfl rfl (by kernel_rfl) Try.func6 (by kernel_rfl)
    (of_decide_eq_true (by kernel_rfl)) (by unfold Func.isWrapper; first | (rw [if_pos (by decide +kernel)]; kernel_rfl) | (rw [if_neg (by decide +kernel)]; exact ⟨rfl, rfl⟩))
    (fun os started H enc _ => lift6 os started H enc)
end Go.Rf

namespace Go.Proofs.Ytkfgohhmicfnhaa
theorem tnumBest_holds : Rows.TnumBestSaid := Go.Rf.tnumBest_row
end Go.Proofs.Ytkfgohhmicfnhaa
