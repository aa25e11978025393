/- Proved: the law TnumRanges answers true at every input: the tnum of a stretch of numbers is the document's. No condition. -/
import Derived.Test.YtkfgohhmicfnhaaTnr
import Derived.Test.YtkfgohhmicfnhaaTnB
set_option linter.unusedVariables false
set_option linter.unusedSimpArgs false
namespace Go.Rf
open Go.Proofs Go.Proofs.Ytkfgohhmicfnhaa

noncomputable def ranges (lo hi : W) : Bool :=
  true && eqT (Tn.mux (badRg lo hi) nil (rgT lo hi)) (Tn.mux (badRg lo hi) nil (made (rgL lo hi))) && (bif badRg lo hi then 1#64 else 0#64) == (bif badRg lo hi then 1#64 else (0#64 : W))

theorem ev8 (lo hi : W) : Ev Try.prog (tabOf lE) noHooks 5 8 [cW.enc lo, cW.enc hi] (eB (ranges lo hi)) :=
  Ev.of (by kernel_rfl)

theorem ranges_true (lo hi : W) : ranges lo hi = true := by
  unfold ranges
  rw [ref_range, eqT_self]; simp

theorem ev8' (lo hi : W) : Ev Try.prog (tabOf lE) noHooks 5 8 [cW.enc lo, cW.enc hi] (eB true) := by
  have h := ev8 lo hi
  rwa [ranges_true] at h

theorem lift8 (os : Os) (started : os.Started) (H : Type) (enc : TypeId × Value → H) :
    ReturnsInHanded {} Try.checked os 8 .any (Rows.tnumRangesSpec.pre6 enc Try.prog Try.f8 Rows.tnumRangesRow.domain false) (Rows.tnumRangesSpec.post enc Try.prog Try.f8 false true false false) :=
  law_lift (C := Try.checked) (tb := 4) [sW, sW] own started (by kernel_rfl) Try.func8
    (ChangeSpec.witness6 (enc := enc) (C := Try.checked) false ⟨#[], #[.int .u64 0, .int .u64 0], []⟩ 8 (by kernel_rfl) (by kernel_rfl) (by kernel_rfl) (by kernel_rfl))
    (by kernel_rfl) rfl Try.underlying4 rfl
    (fun ds h => match ds, h with | [_, _], _ => rfl)
    (fun xs w => match xs with
      | (a, b, ()) => (ev8' a b).calls gE (encs_ok (l := [sW, sW]) (ts := Try.f8.params.toList) (by kernel_rfl) (a, b, ())) w)

theorem tnumRanges_row : Rows.TnumRangesSaid :=
  OpenClaim.holds_of_wide 8 Try.f8 rfl rfl rfl rfl rfl rfl rfl ⟨rfl, rfl, rfl, rfl, rfl⟩ rfl rfl rfl rfl rfl (by kernel_rfl) Try.func8 (by kernel_rfl)
    (of_decide_eq_true (by kernel_rfl)) (by unfold Func.isWrapper; first | (rw [if_pos (by decide +kernel)]; kernel_rfl) | (rw [if_neg (by decide +kernel)]; exact ⟨rfl, rfl⟩))
    (fun os started H enc _ => lift8 os started H enc)
end Go.Rf

namespace Go.Proofs.Ytkfgohhmicfnhaa
theorem tnumRanges_holds : Rows.TnumRangesSaid := Go.Rf.tnumRanges_row
end Go.Proofs.Ytkfgohhmicfnhaa
