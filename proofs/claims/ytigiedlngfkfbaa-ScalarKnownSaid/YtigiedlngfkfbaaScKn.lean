/- Proved: the law ScalarKnown answers true: the chapter's examples. No condition. -/
import Derived.Test.YtigiedlngfkfbaaScr
import Derived.Test.YtigiedlngfkfbaaSa6
set_option linter.unusedVariables false
set_option linter.unusedSimpArgs false
set_option maxRecDepth 100000
namespace Go.Rf
open Go.Proofs Go.Proofs.Ytigiedlngfkfbaa

noncomputable def sg1 : List (FuncId × Con) := selfs Try.prog (tabOf sf3) 6 [55, 53, 54, 33, 34, 31, 30, 32] sf3
theorem rsg1 : TabOk Try.prog (tabOf sg1) := selfs_ok rsf3 6 rsf3 _
noncomputable def sg2 : List (FuncId × Con) := selfs Try.prog (tabOf sg1) 6 [20, 11, 18] sg1
theorem rsg2 : TabOk Try.prog (tabOf sg2) := selfs_ok rsg1 6 rsg1 _

def z0 (x : W) : Prop := 0 ≤ toZ .i64 x
theorem ev7 : Ev Try.prog (tabOf sg2) noHooks 6 7 [] (eB true) := by
  have h1 : (fl (evalN Try.prog (tabOf sg2) noHooks 6 7 [])).map (fun y => (y.1, y.2.2)) = some (eB true, [z0 31#64, z0 0#64, z0 28#64, z0 28#64]) := by kernel_rfl
  cases e : fl (evalN Try.prog (tabOf sg2) noHooks 6 7 []) with
  | none => rw [e] at h1; cases h1
  | some x =>
    obtain ⟨r, g, L⟩ := x
    rw [e] at h1
    simp only [Option.map_some, Option.some.injEq, Prod.mk.injEq] at h1
    obtain ⟨rfl, rfl⟩ := h1
    refine Ev.fl e (fun _ p hp => ?_)
    simp only [List.mem_cons, List.not_mem_nil, or_false] at hp
    rcases hp with rfl | rfl | rfl | rfl <;> (show (0 : Int) ≤ _; decide)

theorem lift7 (os : Os) (started : os.Started) (H : Type) (enc : TypeId × Value → H) :
    ReturnsInHanded {} Try.checked os 7 .any (Rows.scalarKnownSpec.pre6 enc Try.prog Try.f7 Rows.scalarKnownRow.domain false) (Rows.scalarKnownSpec.post enc Try.prog Try.f7 false true false false) :=
  law_lift (C := Try.checked) (tb := 4) [] own started (by kernel_rfl) Try.func7
    (ChangeSpec.witness6 (enc := enc) (C := Try.checked) false ⟨#[], #[], []⟩ 8 (by kernel_rfl) (by kernel_rfl) (by kernel_rfl) (by kernel_rfl))
    (by kernel_rfl) rfl Try.underlying4 rfl
    (fun ds h => match ds, h with | [], _ => rfl)
    (fun xs w => match xs with
      | () => (ev7).calls rsg2 (encs_ok (l := []) (ts := Try.f7.params.toList) (by kernel_rfl) ()) w)

theorem scalarKnown_row : Rows.ScalarKnownSaid :=
  OpenClaim.holds_of_wide 7 Try.f7 rfl rfl rfl rfl rfl rfl rfl ⟨rfl, rfl, rfl, rfl, rfl⟩ rfl rfl rfl rfl rfl (by kernel_rfl) Try.func7 (by kernel_rfl)
    (of_decide_eq_true (by kernel_rfl)) (by unfold Func.isWrapper; first | (rw [if_pos (by decide +kernel)]; kernel_rfl) | (rw [if_neg (by decide +kernel)]; exact ⟨rfl, rfl⟩))
    (fun os started H enc _ => lift7 os started H enc)
end Go.Rf

namespace Go.Proofs.Ytigiedlngfkfbaa
theorem scalarKnown_holds : Rows.ScalarKnownSaid := Go.Rf.scalarKnown_row
end Go.Proofs.Ytigiedlngfkfbaa
