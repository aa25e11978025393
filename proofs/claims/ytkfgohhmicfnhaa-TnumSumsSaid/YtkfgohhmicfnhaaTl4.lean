/- Proved: the law TnumSums answers true at every input: sums, differences, products and what is done bit by bit are the document's. No condition. -/
import Derived.Test.YtkfgohhmicfnhaaTnr
import Derived.Test.YtkfgohhmicfnhaaTp4
set_option linter.unusedVariables false
set_option linter.unusedSimpArgs false
namespace Go.Rf
open Go.Proofs Go.Proofs.Ytkfgohhmicfnhaa

def muxN (a b t : Tn) : Tn := Tn.mux (bad2 a b) nil t
def off (a b x y : Tn) : Bool := !eqT (muxN a b x) (muxN a b y) || err2 a b != err2 a b
def sums (a b : Tn) : Bool :=
  bif off a b (tAdd a b) (made (carL a b false)) then false
  else bif off a b (tSub a b) (made (carL a b true)) then false
  else bif off a b (tMul a b) (refMul a b) then false
  else bif off a b (tAnd a b) (made (bitsL 0#64 a b)) then false
  else bif off a b (tOr a b) (made (bitsL 1#64 a b)) then false
  else true && eqT (muxN a b (tXor a b)) (muxN a b (made (bitsL 2#64 a b))) && err2 a b == err2 a b

theorem ev4 (a b : Tn) : Ev Try.prog (tabOf lA) noHooks 5 4 [eTn a, eTn b] (eB (sums a b)) :=
  Ev.of (by kernel_rfl)

theorem mux_same {a b x y : Tn} (h : may a = true → may b = true → y = x) : muxN a b y = muxN a b x := by
  unfold muxN Tn.mux
  cases ha : may a with
  | false => simp [bad2, ha]
  | true => cases hb : may b with
    | false => simp [bad2, ha, hb]
    | true => rw [h ha hb]

theorem off_not {a b x y : Tn} (h : may a = true → may b = true → y = x) : off a b x y = false := by
  unfold off
  rw [mux_same h, eqT_self]; simp

theorem sums_true (a b : Tn) : sums a b = true := by
  unfold sums
  rw [off_not (fun ha hb => ref_add ha hb), off_not (fun ha hb => ref_sub ha hb), off_not (fun ha hb => ref_mul ha hb), off_not (fun ha hb => ref_and ha hb), off_not (fun ha hb => ref_or ha hb),
    mux_same (fun ha hb => ref_xor ha hb), eqT_self]
  simp

theorem ev4' (a b : Tn) : Ev Try.prog (tabOf lA) noHooks 5 4 [eTn a, eTn b] (eB true) := by
  have h := ev4 a b
  rwa [sums_true] at h

theorem lift4 (os : Os) (started : os.Started) (H : Type) (enc : TypeId × Value → H) :
    ReturnsInHanded {} Try.checked os 4 .any (Rows.tnumSumsSpec.pre6 enc Try.prog Try.f4 Rows.tnumSumsRow.domain false) (Rows.tnumSumsSpec.post enc Try.prog Try.f4 false true false false) :=
  law_lift (C := Try.checked) (tb := 4) [sTn, sTn] own started (by kernel_rfl) Try.func4
    (ChangeSpec.witness6 (enc := enc) (C := Try.checked) false ⟨#[], #[.agg #[.int .u64 0, .int .u64 0], .agg #[.int .u64 0, .int .u64 0]], []⟩ 8 (by kernel_rfl) (by kernel_rfl) (by kernel_rfl) (by kernel_rfl))
    (by kernel_rfl) rfl Try.underlying4 rfl
    (fun ds h => match ds, h with | [_, _], _ => rfl)
    (fun xs w => match xs with
      | (a, b, ()) => (ev4' ⟨a.1, a.2.1⟩ ⟨b.1, b.2.1⟩).calls gA (encs_ok (l := [sTn, sTn]) (ts := Try.f4.params.toList) (by kernel_rfl) (a, b, ())) w)

theorem tnumSums_row : Rows.TnumSumsSaid :=
  OpenClaim.holds_of_wide 4 Try.f4 rfl rfl rfl rfl rfl rfl rfl ⟨rfl, rfl, rfl, rfl, rfl⟩ rfl rfl rfl rfl rfl (by kernel_rfl) Try.func4 (by kernel_rfl)
    (of_decide_eq_true (by kernel_rfl)) (by unfold Func.isWrapper; first | (rw [if_pos (by decide +kernel)]; kernel_rfl) | (rw [if_neg (by decide +kernel)]; exact ⟨rfl, rfl⟩))
    (fun os started H enc _ => lift4 os started H enc)
end Go.Rf

namespace Go.Proofs.Ytkfgohhmicfnhaa
theorem tnumSums_holds : Rows.TnumSumsSaid := Go.Rf.tnumSums_row
end Go.Proofs.Ytkfgohhmicfnhaa
