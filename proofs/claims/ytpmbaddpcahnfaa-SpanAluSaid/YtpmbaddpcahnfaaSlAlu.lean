/- Proved: the law SpanAlu answers true at every input: what Alu tells of an operation on two spans is what the document tells. No condition. -/
import Derived.Test.YtpmbaddpcahnfaaSpr
import Derived.Test.YtpmbaddpcahnfaaSzB
set_option linter.unusedVariables false
set_option linter.unusedSimpArgs false
set_option maxRecDepth 100000
namespace Go.Rf
open Go.Proofs Go.Proofs.Ytpmbaddpcahnfaa

def sSp2 : Sh := .arr 2 sSp
def mkSp2 (x : sSp2.T) : Nat → Sp := fun i => ⟨(x i).1, (x i).2.1⟩
theorem lift4 (os : Os) (started : os.Started) (H : Type) (enc : TypeId × Value → H) :
    ReturnsInHanded {} Try.checked os 4 .any (Rows.spanAluSpec.pre6 enc Try.prog Try.f4 Rows.spanAluRow.domain false) (Rows.spanAluSpec.post enc Try.prog Try.f4 false true false false) :=
  law_lift (C := Try.checked) (tb := 4) [sI, .bool, sSp2] own started (by kernel_rfl) Try.func4
    (ChangeSpec.witness6 (enc := enc) (C := Try.checked) false ⟨#[], #[.int .i64 0, .bool false, .agg #[.int .u64 0, .int .u64 0, .int .u64 0, .int .u64 0]], []⟩ 8 (by kernel_rfl) (by kernel_rfl) (by kernel_rfl) (by kernel_rfl))
    (by kernel_rfl) rfl Try.underlying4 rfl
    (fun ds h => match ds, h with | [_, _, _], _ => rfl)
    (fun xs w => match xs with
      | (op, w', l, ()) => (ev4 op w' (mkSp2 l)).calls rtz4 (encs_ok (l := [sI, .bool, sSp2]) (ts := Try.f4.params.toList) (by kernel_rfl) (op, w', l, ())) w)

theorem spanAlu_row : Rows.SpanAluSaid :=
  OpenClaim.holds_of_wide 4 Try.f4 rfl rfl rfl rfl rfl rfl rfl ⟨rfl, rfl, rfl, rfl, rfl⟩ rfl rfl rfl rfl rfl (by kernel_rfl) Try.func4 (by kernel_rfl)
    (of_decide_eq_true (by kernel_rfl)) (by unfold Func.isWrapper; first | (rw [if_pos (by decide +kernel)]; kernel_rfl) | (rw [if_neg (by decide +kernel)]; exact ⟨rfl, rfl⟩))
    (fun os started H enc _ => lift4 os started H enc)
end Go.Rf

namespace Go.Proofs.Ytpmbaddpcahnfaa
theorem spanAlu_holds : Rows.SpanAluSaid := Go.Rf.spanAlu_row
end Go.Proofs.Ytpmbaddpcahnfaa
