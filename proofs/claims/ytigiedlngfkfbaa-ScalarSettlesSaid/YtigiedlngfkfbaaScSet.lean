/- Proved: the law ScalarSettles answers true at every input: settling keeps each number that tnum and span both hold, and is over. No condition. -/
import Derived.Test.YtigiedlngfkfbaaScr
set_option linter.unusedVariables false
set_option linter.unusedSimpArgs false
set_option maxRecDepth 100000
namespace Go.Rf
open Go.Proofs Go.Proofs.Ytigiedlngfkfbaa

noncomputable def settles' (t : Tn) (s : Sp) (n : W) : Bool := bif !true then false else settles t s n
theorem ev4 (t : Tn) (s : Sp) (n : W) : Ev Try.prog (tabOf sd2) noHooks 8 4 [eTn t, eSp s, eW n] (eB true) := by
  have h : Ev Try.prog (tabOf sd2) noHooks 8 4 [eTn t, eSp s, eW n] (eB (settles' t s n)) := Ev.of (by kernel_rfl)
  have e : settles' t s n = true := settles_true t s n
  rwa [e] at h

theorem lift4 (os : Os) (started : os.Started) (H : Type) (enc : TypeId × Value → H) :
    ReturnsInHanded {} Try.checked os 4 .any (Rows.scalarSettlesSpec.pre6 enc Try.prog Try.f4 Rows.scalarSettlesRow.domain false) (Rows.scalarSettlesSpec.post enc Try.prog Try.f4 false true false false) :=
  law_lift (C := Try.checked) (tb := 4) [sTn, sTn, sW] own started (by kernel_rfl) Try.func4
    (ChangeSpec.witness6 (enc := enc) (C := Try.checked) false ⟨#[], #[.agg #[.int .u64 0, .int .u64 0], .agg #[.int .u64 0, .int .u64 0], .int .u64 0], []⟩ 8 (by kernel_rfl) (by kernel_rfl) (by kernel_rfl) (by kernel_rfl))
    (by kernel_rfl) rfl Try.underlying4 rfl
    (fun ds h => match ds, h with | [_, _, _], _ => rfl)
    (fun xs w => match xs with
      | (a, b, n, ()) => (ev4 ⟨a.1, a.2.1⟩ ⟨b.1, b.2.1⟩ n).calls rsd2 (encs_ok (l := [sTn, sTn, sW]) (ts := Try.f4.params.toList) (by kernel_rfl) (a, b, n, ())) w)

theorem scalarSettles_row : Rows.ScalarSettlesSaid :=
  OpenClaim.holds_of_wide 4 Try.f4 rfl rfl rfl rfl rfl rfl rfl ⟨rfl, rfl, rfl, rfl, rfl⟩ rfl rfl rfl rfl rfl (by kernel_rfl) Try.func4 (by kernel_rfl)
    (of_decide_eq_true (by kernel_rfl)) (by unfold Func.isWrapper; first | (rw [if_pos (by decide +kernel)]; kernel_rfl) | (rw [if_neg (by decide +kernel)]; exact ⟨rfl, rfl⟩))
    (fun os started H enc _ => lift4 os started H enc)
end Go.Rf

namespace Go.Proofs.Ytigiedlngfkfbaa
theorem scalarSettles_holds : Rows.ScalarSettlesSaid := Go.Rf.scalarSettles_row
end Go.Proofs.Ytigiedlngfkfbaa
