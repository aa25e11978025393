/- Proved: the law ScalarOrder answers true at every input: being in is an order; Join and Meet are what they are called. No condition. -/
import Derived.Test.YtigiedlngfkfbaaScr
import Derived.Test.YtigiedlngfkfbaaPs3
set_option linter.unusedVariables false
set_option linter.unusedSimpArgs false
set_option maxRecDepth 100000
namespace Go.Rf
open Go.Proofs Go.Proofs.Ytigiedlngfkfbaa

structure SmV where
  op : W
  w : Bool
  a : Sc
  b : Sc
def eSm (g : SmV) : AV := .agg (.cons (eI g.op) (.cons (eB g.w) (.cons (eSc g.a) (.cons (eSc g.b) .nil))))
def sSm : Sh := .agg (.cons (.int .i64) (.cons .bool (.cons sSc (.cons sSc .nil))))
noncomputable def order' (a b c : Sc) (n : W) : Bool := bif !true then false else orderC a b c n
theorem ev9 (g : SmV) (c : Sc) (n : W) : Ev Try.prog (tabOf sd2) noHooks 8 9 [eSm g, eSc c, eW n] (eB true) := by
  have h : Ev Try.prog (tabOf sd2) noHooks 8 9 [eSm g, eSc c, eW n] (eB (order' g.a g.b c n)) := Ev.of (by kernel_rfl)
  have e : order' g.a g.b c n = true := orderC_true g.a g.b c n
  rwa [e] at h

theorem lift9 (os : Os) (started : os.Started) (H : Type) (enc : TypeId × Value → H) :
    ReturnsInHanded {} Try.checked os 9 .any (Rows.scalarOrderSpec.pre6 enc Try.prog Try.f9 Rows.scalarOrderRow.domain false) (Rows.scalarOrderSpec.post enc Try.prog Try.f9 false true false false) :=
  law_lift (C := Try.checked) (tb := 4) [sSm, sSc, sW] own started (by kernel_rfl) Try.func9
    (ChangeSpec.witness6 (enc := enc) (C := Try.checked) false ⟨#[], #[.agg #[.int .i64 0, .bool false, .int .u64 0, .int .u64 0, .int .u64 0, .int .u64 0, .int .u64 0, .int .u64 0, .int .u64 0, .int .u64 0], .agg #[.int .u64 0, .int .u64 0, .int .u64 0, .int .u64 0], .int .u64 0], []⟩ 8 (by kernel_rfl) (by kernel_rfl) (by kernel_rfl) (by kernel_rfl))
    (by kernel_rfl) rfl Try.underlying4 rfl
    (fun ds h => match ds, h with | [_, _, _], _ => rfl)
    (fun xs w => match xs with
      | (g, c, n, ()) => (ev9 ⟨g.1, g.2.1, ⟨⟨g.2.2.1.1.1, g.2.2.1.1.2.1⟩, ⟨g.2.2.1.2.1.1, g.2.2.1.2.1.2.1⟩⟩, ⟨⟨g.2.2.2.1.1.1, g.2.2.2.1.1.2.1⟩, ⟨g.2.2.2.1.2.1.1, g.2.2.2.1.2.1.2.1⟩⟩⟩ ⟨⟨c.1.1, c.1.2.1⟩, ⟨c.2.1.1, c.2.1.2.1⟩⟩ n).calls rsd2 (encs_ok (l := [sSm, sSc, sW]) (ts := Try.f9.params.toList) (by kernel_rfl) (g, c, n, ())) w)

theorem scalarOrder_row : Rows.ScalarOrderSaid :=
  OpenClaim.holds_of_wide 9 Try.f9 rfl rfl rfl rfl rfl rfl rfl ⟨rfl, rfl, rfl, rfl, rfl⟩ rfl rfl rfl rfl rfl (by kernel_rfl) Try.func9 (by kernel_rfl)
    (of_decide_eq_true (by kernel_rfl)) (by unfold Func.isWrapper; first | (rw [if_pos (by decide +kernel)]; kernel_rfl) | (rw [if_neg (by decide +kernel)]; exact ⟨rfl, rfl⟩))
    (fun os started H enc _ => lift9 os started H enc)
end Go.Rf

namespace Go.Proofs.Ytigiedlngfkfbaa
theorem scalarOrder_holds : Rows.ScalarOrderSaid := Go.Rf.scalarOrder_row
end Go.Proofs.Ytigiedlngfkfbaa
