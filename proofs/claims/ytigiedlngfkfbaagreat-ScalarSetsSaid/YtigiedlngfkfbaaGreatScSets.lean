/- Proved: the law ScalarSets answers true at every input: settling, what scalars hold, what joins and meets them, are the document's. No condition. -/
import Derived.Test.YtigiedlngfkfbaaGreatZa6
import Derived.Test.YtigiedlngfkfbaaGreatPs3
import Derived.Test.YtigiedlngfkfbaaGreatRf17
import Derived.Test.YtigiedlngfkfbaaGreatRows
set_option linter.unusedVariables false
set_option linter.unusedSimpArgs false
set_option maxRecDepth 100000
namespace Go.Rf
open Go.Proofs Go.Proofs.YtigiedlngfkfbaaGreat

def sTn : Sh := .agg (.cons (.int .u64) (.cons (.int .u64) .nil))
def sSc : Sh := .agg (.cons sTn (.cons sTn .nil))
def sW : Sh := .int .u64
theorem own : ownKnob Tryz.prog.godebug = none := by kernel_rfl
theorem encs_ok {l : List Sh} {ts : List TypeId} (h : shAll Tryz.prog l ts = true) (xs : HL l) : ∀ v ∈ encs l xs, pf v = true := encs_pf l ts h xs

noncomputable def hasCD (a : Sc) (n : W) : Bool := mayC a && T.has a.t n && leB .u64 a.s.lo n && leB .u64 n a.s.hi
noncomputable def inCD (a b : Sc) : Bool := mayC a && mayC b && T.isIn a.t b.t && leB .u64 b.s.lo a.s.lo && leB .u64 a.s.hi b.s.hi
theorem hasCD_eq (a : Sc) (n : W) : hasCD a n = hasC a n := by
  unfold hasCD hasC hasS
  rw [Bool.and_assoc]
theorem inCD_eq (a b : Sc) : inCD a b = inC a b := by
  unfold inCD inC inS
  cases ha : mayC a with
  | false => rfl
  | true =>
    rw [(mayC_parts ha).2]
    simp only [Bool.true_and, Bool.and_assoc]

theorem k24 : ConOk Tryz.prog 24 (con2 cSc cW fun a n => eB (hasCD a n)) :=
  con2_ok rsf3 (Λ := noHooks) 5 (fun _ _ => rfl) (fun x y => Ev.of (by kernel_rfl))
theorem k26 : ConOk Tryz.prog 26 (con2 cSc cSc fun a b => eB (inCD a b)) :=
  con2_ok rsf3 (Λ := noHooks) 5 (fun _ _ => rfl) (fun x y => Ev.of (by kernel_rfl))
noncomputable def sf4 : List (FuncId × Con) := (24, con2 cSc cW fun a n => eB (hasCD a n)) :: (26, con2 cSc cSc fun a b => eB (inCD a b)) :: sf3
theorem rsf4 : TabOk Tryz.prog (tabOf sf4) := tabOf_cons (tabOf_cons rsf3 k26) k24

noncomputable def sets (a b : Sc) (n : W) : Bool :=
  bif !eqC (setR a.t b.s) (setR a.t b.s) || setOk a.t b.s != setOk a.t b.s || !eqC (joinCR a b) (joinCR a b) || joinCE a b != joinCE a b || !eqC (meetC a b) (meetC a b) || meetCB a b != meetCB a b then false
  else bif !eqC (ofC n) (ofC n) || !eqC allC allC || !eqC (belowC (toIS (remW n 100#64))) (belowC (toIS (remW n 100#64))) then false
  else true && mayC a == mayC a && hasC a n == hasCD a n && inC a b == inCD a b
theorem sets_true (a b : Sc) (n : W) : sets a b n = true := by
  unfold sets
  rw [hasCD_eq, inCD_eq]
  simp [eqC_iff.2 rfl]

theorem ev4 (a b : Sc) (n : W) : Ev Tryz.prog (tabOf sf4) noHooks 8 4 [eSc a, eSc b, eW n] (eB true) := by
  have h : Ev Tryz.prog (tabOf sf4) noHooks 8 4 [eSc a, eSc b, eW n] (eB (sets a b n)) := Ev.of (by kernel_rfl)
  rwa [sets_true] at h

theorem lift4 (os : Os) (started : os.Started) (H : Type) (enc : TypeId × Value → H) :
    ReturnsInHanded {} Tryz.checked os 4 .any (Rows.scalarSetsSpec.pre6 enc Tryz.prog Tryz.f4 Rows.scalarSetsRow.domain false) (Rows.scalarSetsSpec.post enc Tryz.prog Tryz.f4 false true false false) :=
  law_lift (C := Tryz.checked) (tb := 4) [sSc, sSc, sW] own started (by kernel_rfl) Tryz.func4
    (ChangeSpec.witness6 (enc := enc) (C := Tryz.checked) false ⟨#[], #[.agg #[.int .u64 0, .int .u64 0, .int .u64 0, .int .u64 0], .agg #[.int .u64 0, .int .u64 0, .int .u64 0, .int .u64 0], .int .u64 0], []⟩ 8 (by kernel_rfl) (by kernel_rfl) (by kernel_rfl) (by kernel_rfl))
    (by kernel_rfl) rfl Tryz.underlying4 rfl
    (fun ds h => match ds, h with | [_, _, _], _ => rfl)
    (fun xs w => match xs with
      | (a, b, n, ()) => (ev4 ⟨⟨a.1.1, a.1.2.1⟩, ⟨a.2.1.1, a.2.1.2.1⟩⟩ ⟨⟨b.1.1, b.1.2.1⟩, ⟨b.2.1.1, b.2.1.2.1⟩⟩ n).calls rsf4 (encs_ok (l := [sSc, sSc, sW]) (ts := Tryz.f4.params.toList) (by kernel_rfl) (a, b, n, ())) w)

theorem scalarSets_row : Rows.ScalarSetsSaid :=
  OpenClaim.holds_of_wide 4 Tryz.f4 rfl rfl rfl rfl rfl rfl rfl ⟨rfl, rfl, rfl, rfl, rfl⟩ rfl rfl rfl rfl rfl (by kernel_rfl) Tryz.func4 (by kernel_rfl)
    (of_decide_eq_true (by kernel_rfl)) (by unfold Func.isWrapper; first | (rw [if_pos (by decide +kernel)]; kernel_rfl) | (rw [if_neg (by decide +kernel)]; exact ⟨rfl, rfl⟩))
    (fun os started H enc _ => lift4 os started H enc)
end Go.Rf

namespace Go.Proofs.YtigiedlngfkfbaaGreat
theorem scalarSets_holds : Rows.ScalarSetsSaid := Go.Rf.scalarSets_row
end Go.Proofs.YtigiedlngfkfbaaGreat
