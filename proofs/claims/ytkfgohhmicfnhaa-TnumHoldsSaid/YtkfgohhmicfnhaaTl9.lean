/- Proved: the law TnumHolds answers true at every input: meetings, joinings and stretches hold the numbers that they should. No condition. -/
import Derived.Test.YtkfgohhmicfnhaaTnr
import Derived.Test.YtkfgohhmicfnhaaTp5
set_option linter.unusedVariables false
set_option linter.unusedSimpArgs false
namespace Go.Rf
open Go.Proofs Go.Proofs.Ytkfgohhmicfnhaa

def mnW (a b : W) : W := bif ltB .u64 b a then b else a
def mxW (a b : W) : W := bif ltB .u64 a b then b else a
noncomputable def rgR (lo hi : W) : Tn := Tn.mux (badRg lo hi) nil (rgT lo hi)
def meetR (a b : Tn) : Tn := Tn.mux (noMeet a b) nil (tMeet a b)
def joinR (a b : Tn) : Tn := Tn.mux (bad2 a b) nil (tJoin a b)
noncomputable def holdsR (lo hi x : W) (r : Tn) : Bool :=
  bif (bif badRg lo hi then 1#64 else 0#64) != 0#64 || !has r lo || !has r hi || (leB .u64 lo x && leB .u64 x hi && !has r x) then false
  else (r.m &&& (r.m + 1#64) == 0#64) && ((lo == hi) == (r.m == 0#64)) && ((lo ^^^ hi) &&& ~~~r.m == 0#64) && (r.m == 0#64 || ltB .u64 (shrW r.m 1) (lo ^^^ hi))
noncomputable def holds (a b : Tn) (f : Nat → W) : Bool :=
  bif !true || !may a || !may b then true
  else bif (((bif noMeet a b then false else true) && has (meetR a b) (f 0)) != (has a (f 0) && has b (f 0))) || ((has a (f 0) || has b (f 0)) && !has (joinR a b) (f 0)) then false
  else holdsR (mnW (f 1) (f 2)) (mxW (f 1) (f 2)) (f 0) (rgR (mnW (f 1) (f 2)) (mxW (f 1) (f 2)))
def c3 : Cod (Nat → W) := fW.arr 3
def sArr3 : Sh := .arr 3 (.int .u64)

theorem lt_nat (x y : W) : ltB .u64 x y = decide (x.toNat < y.toNat) := rfl

theorem holdsR_true {lo hi : W} (h : lo.toNat ≤ hi.toNat) (x : W) : holdsR lo hi x (rgR lo hi) = true := by
  have hb : badRg lo hi = false := by
    unfold badRg; rw [lt_nat, decide_eq_false_iff_not]; omega
  have hr : rgR lo hi = rgT lo hi := by unfold rgR Tn.mux; rw [hb]; rfl
  unfold holdsR
  rw [hr, hb]
  have m1 : has (rgT lo hi) lo = true := has_iff.2 (rg_mem (Nat.le_refl _) h)
  have m2 : has (rgT lo hi) hi = true := has_iff.2 (rg_mem h (Nat.le_refl _))
  have m3 : (leB .u64 lo x && leB .u64 x hi && !has (rgT lo hi) x) = false := by
    rw [le_nat, le_nat]
    by_cases h1 : lo.toNat ≤ x.toNat
    · by_cases h2 : x.toNat ≤ hi.toNat
      · rw [has_iff.2 (rg_mem h1 h2)]; simp
      · simp [h2]
    · simp [h1]
  have t : ((rgT lo hi).m == 0#64 || ltB .u64 (shrW (rgT lo hi).m 1) (lo ^^^ hi)) = true := by
    by_cases e : lo = hi
    · rw [rg_zero]; simp [e]
    · rw [lt_nat, decide_eq_true (rg_top lo hi e)]; simp
  rw [m1, m2, m3, t, rg_zero, rg_and, rg_out]
  simp

theorem holds_true (a b : Tn) (f : Nat → W) : holds a b f = true := by
  unfold holds
  cases ha : may a with
  | false => rfl
  | true =>
    cases hb : may b with
    | false => rfl
    | true =>
      have hj : joinR a b = tJoin a b := by unfold joinR Tn.mux; rw [bad2_false ha hb]; rfl
      have e1 : (((bif noMeet a b then false else true) && has (meetR a b) (f 0)) != (has a (f 0) && has b (f 0))) = false := by
        cases hn : noMeet a b with
        | false =>
          have hm : meetR a b = tMeet a b := by unfold meetR Tn.mux; rw [hn]; rfl
          have : has (tMeet a b) (f 0) = (has a (f 0) && has b (f 0)) := by
            rw [Bool.eq_iff_iff, Bool.and_eq_true, has_iff, has_iff, has_iff]
            exact meet_mem ha hb hn _
          rw [hm, this]; simp
        | true =>
          have : (has a (f 0) && has b (f 0)) = false := by
            cases h1 : has a (f 0) with
            | false => rfl
            | true =>
              cases h2 : has b (f 0) with
              | false => rfl
              | true =>
                have := no_meet_mem ha hb (has_iff.1 h1) (has_iff.1 h2)
                rw [hn] at this
                simp at this
          rw [this]; rfl
      have e2 : ((has a (f 0) || has b (f 0)) && !has (joinR a b) (f 0)) = false := by
        rw [hj]
        cases h1 : has a (f 0) with
        | true => rw [has_iff.2 (join_mem_l (has_iff.1 h1))]; rfl
        | false =>
          cases h2 : has b (f 0) with
          | true => rw [has_iff.2 (join_mem_r (has_iff.1 h2))]; rfl
          | false => rfl
      rw [e1, e2]
      simp only [Bool.not_true, Bool.or_self, cond_false]
      apply holdsR_true
      unfold mnW mxW
      rw [lt_nat, lt_nat]
      by_cases h1 : (f 2).toNat < (f 1).toNat
      · have h2 : ¬ (f 1).toNat < (f 2).toNat := by omega
        rw [decide_eq_true h1, decide_eq_false h2]
        show (f 2).toNat ≤ (f 1).toNat
        omega
      · rw [decide_eq_false h1]
        by_cases h2 : (f 1).toNat < (f 2).toNat
        · rw [decide_eq_true h2]
          show (f 1).toNat ≤ (f 2).toNat
          omega
        · rw [decide_eq_false h2]
          show (f 1).toNat ≤ (f 1).toNat
          omega

theorem ev9 (a b : Tn) (f : Nat → W) : Ev Try.prog (tabOf lG) noHooks 5 9 [eTn a, eTn b, c3.enc f] (eB (holds a b f)) :=
  Ev.fl (g := !(!true || !may a || !may b)) (L := [0 < 3, 1 < 3, 2 < 3, 1 < 3, 2 < 3]) (by kernel_rfl) (fun _ p hp => by
    simp only [List.mem_cons, List.not_mem_nil, or_false] at hp
    rcases hp with rfl | rfl | rfl | rfl | rfl <;> decide)

theorem ev9' (a b : Tn) (f : Nat → W) : Ev Try.prog (tabOf lG) noHooks 5 9 [eTn a, eTn b, c3.enc f] (eB true) := by
  have h := ev9 a b f
  rwa [holds_true] at h

theorem lift9 (os : Os) (started : os.Started) (H : Type) (enc : TypeId × Value → H) :
    ReturnsInHanded {} Try.checked os 9 .any (Rows.tnumHoldsSpec.pre6 enc Try.prog Try.f9 Rows.tnumHoldsRow.domain false) (Rows.tnumHoldsSpec.post enc Try.prog Try.f9 false true false false) :=
  law_lift (C := Try.checked) (tb := 4) [sTn, sTn, sArr3] own started (by kernel_rfl) Try.func9
    (ChangeSpec.witness6 (enc := enc) (C := Try.checked) false ⟨#[], #[.agg #[.int .u64 0, .int .u64 0], .agg #[.int .u64 0, .int .u64 0], .agg #[.int .u64 0, .int .u64 0, .int .u64 0]], []⟩ 8 (by kernel_rfl) (by kernel_rfl) (by kernel_rfl) (by kernel_rfl))
    (by kernel_rfl) rfl Try.underlying4 rfl
    (fun ds h => match ds, h with | [_, _, _], _ => rfl)
    (fun xs w => match xs with
      | (a, b, f, ()) => (ev9' ⟨a.1, a.2.1⟩ ⟨b.1, b.2.1⟩ f).calls gG (encs_ok (l := [sTn, sTn, sArr3]) (ts := Try.f9.params.toList) (by kernel_rfl) (a, b, f, ())) w)

theorem tnumHolds_row : Rows.TnumHoldsSaid :=
  OpenClaim.holds_of_wide 9 Try.f9 rfl rfl rfl rfl rfl rfl rfl ⟨rfl, rfl, rfl, rfl, rfl⟩ rfl rfl rfl rfl rfl (by kernel_rfl) Try.func9 (by kernel_rfl)
    (of_decide_eq_true (by kernel_rfl)) (by unfold Func.isWrapper; first | (rw [if_pos (by decide +kernel)]; kernel_rfl) | (rw [if_neg (by decide +kernel)]; exact ⟨rfl, rfl⟩))
    (fun os started H enc _ => lift9 os started H enc)
end Go.Rf

namespace Go.Proofs.Ytkfgohhmicfnhaa
theorem tnumHolds_holds : Rows.TnumHoldsSaid := Go.Rf.tnumHolds_row
end Go.Proofs.Ytkfgohhmicfnhaa
