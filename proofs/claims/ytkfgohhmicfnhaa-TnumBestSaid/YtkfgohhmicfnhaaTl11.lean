/- Proved: the law TnumOrder answers true at every input: being in is an order, Join the least above both, Meet the greatest below both. No condition. -/
import Derived.Test.YtkfgohhmicfnhaaTnr
import Derived.Test.YtkfgohhmicfnhaaTp6
set_option linter.unusedVariables false
set_option linter.unusedSimpArgs false
namespace Go.Rf
open Go.Proofs Go.Proofs.Ytkfgohhmicfnhaa

def meetR (a b : Tn) : Tn := Tn.mux (noMeet a b) nil (tMeet a b)
def joinR (a b : Tn) : Tn := Tn.mux (bad2 a b) nil (tJoin a b)
def allT : Tn := ⟨0#64, 18446744073709551615#64⟩
def isM (a b : Tn) : Bool := bif noMeet a b then false else true
def order (a b c : Tn) : Bool :=
  bif !true then false
  else bif !may a || !may b || !may c then may a || (!isIn a a && freeW a == -1#64)
  else bif err2 a b != 0#64 || !isIn a a || !isIn a allT || (isIn a b && isIn b a && !eqT a b) || (isIn a b && isIn b c && !isIn a c) then false
  else bif !isIn a (joinR a b) || !isIn b (joinR a b) || (isIn a c && isIn b c && !isIn (joinR a b) c) then false
  else bif (isM a b && (!isIn (meetR a b) a || !isIn (meetR a b) b)) || (isIn c a && isIn c b && (!isM a b || !isIn c (meetR a b))) then false
  else has a a.v && has a (a.v ||| a.m) && ((freeW a == 0#64) == (a.m == 0#64))

theorem ev11 (a b c : Tn) : Ev Try.prog (tabOf lG) noHooks 5 11 [eTn a, eTn b, eTn c] (eB (order a b c)) :=
  Ev.of (by kernel_rfl)

/-- Bit by bit. -/
def inB (am av bm bv : Bool) : Bool := !(am && !bm) && (bv == (av && !bm))

theorem isIn_iff {a b : Tn} (ha : may a = true) : isIn a b = true ↔ ∀ i, i < 64 → inB (a.m.getLsbD i) (a.v.getLsbD i) (b.m.getLsbD i) (b.v.getLsbD i) = true := by
  unfold isIn
  simp only [ha, Bool.true_and, Bool.and_eq_true, has_iff, beq_iff_eq, mem_iff_bits]
  constructor
  · rintro ⟨h1, h2⟩ i hi
    have h3 := congrArg (fun x : W => x.getLsbD i) h2
    simp only [BitVec.getLsbD_and, BitVec.getLsbD_not, hi, decide_true, Bool.true_and, BitVec.getLsbD_zero] at h3
    have := h1 i hi
    unfold inB
    rw [this, h3]; simp
  · intro h
    refine ⟨fun i hi => ?_, ?_⟩
    · have := h i hi
      simp only [inB, Bool.and_eq_true, beq_iff_eq] at this
      exact this.2
    · apply BitVec.eq_of_getLsbD_eq
      intro i hi
      have := h i hi
      simp only [inB, Bool.and_eq_true, Bool.not_eq_true'] at this
      simp only [BitVec.getLsbD_and, BitVec.getLsbD_not, hi, decide_true, Bool.true_and, BitVec.getLsbD_zero]
      exact this.1

theorem in_refl {a : Tn} (ha : may a = true) : isIn a a = true := by
  rw [isIn_iff ha]
  intro i hi
  have := may_bit ha i
  revert this
  cases a.m.getLsbD i <;> cases a.v.getLsbD i <;> simp [inB]

theorem in_all {a : Tn} (ha : may a = true) : isIn a allT = true := by
  rw [isIn_iff ha]
  intro i hi
  have e1 : allT.m.getLsbD i = true := by
    show (18446744073709551615#64 : W).getLsbD i = true
    have : (18446744073709551615#64 : W) = BitVec.allOnes 64 := rfl
    rw [this, BitVec.getLsbD_allOnes]; simpa using hi
  have e2 : allT.v.getLsbD i = false := by show (0#64 : W).getLsbD i = false; simp
  rw [e1, e2]
  cases a.m.getLsbD i <;> cases a.v.getLsbD i <;> rfl

theorem in_anti {a b : Tn} (ha : may a = true) (hb : may b = true) (h1 : isIn a b = true) (h2 : isIn b a = true) : eqT a b = true := by
  rw [isIn_iff ha] at h1
  rw [isIn_iff hb] at h2
  have : a = b := tn_ext fun i hi => by
    have k1 := h1 i hi
    have k2 := h2 i hi
    have k3 := may_bit ha i
    have k4 := may_bit hb i
    revert k1 k2 k3 k4
    cases a.m.getLsbD i <;> cases a.v.getLsbD i <;> cases b.m.getLsbD i <;> cases b.v.getLsbD i <;> simp [inB]
  rw [this, eqT_self]

theorem in_trans {a b c : Tn} (ha : may a = true) (hb : may b = true) (h1 : isIn a b = true) (h2 : isIn b c = true) : isIn a c = true := by
  rw [isIn_iff ha] at h1 ⊢
  rw [isIn_iff hb] at h2
  intro i hi
  have k1 := h1 i hi
  have k2 := h2 i hi
  revert k1 k2
  cases a.m.getLsbD i <;> cases a.v.getLsbD i <;> cases b.m.getLsbD i <;> cases b.v.getLsbD i <;> cases c.m.getLsbD i <;> cases c.v.getLsbD i <;> simp [inB]

theorem join_v (a b : Tn) (i : Nat) (hi : i < 64) : (tJoin a b).m.getLsbD i = ((a.v.getLsbD i ^^ b.v.getLsbD i) || a.m.getLsbD i || b.m.getLsbD i) ∧ (tJoin a b).v.getLsbD i = (a.v.getLsbD i && !((a.v.getLsbD i ^^ b.v.getLsbD i) || a.m.getLsbD i || b.m.getLsbD i)) := by
  simp only [tJoin, fit, BitVec.getLsbD_and, BitVec.getLsbD_or, BitVec.getLsbD_xor, BitVec.getLsbD_not, hi, decide_true, Bool.true_and]
  exact ⟨trivial, trivial⟩

theorem meet_v (a b : Tn) (i : Nat) (hi : i < 64) : (tMeet a b).m.getLsbD i = (a.m.getLsbD i && b.m.getLsbD i) ∧ (tMeet a b).v.getLsbD i = ((a.v.getLsbD i || b.v.getLsbD i) && !(a.m.getLsbD i && b.m.getLsbD i)) := by
  simp only [tMeet, fit, BitVec.getLsbD_and, BitVec.getLsbD_or, BitVec.getLsbD_not, hi, decide_true, Bool.true_and]
  exact ⟨trivial, trivial⟩

theorem in_join_l {a b : Tn} (ha : may a = true) (hb : may b = true) : isIn a (tJoin a b) = true := by
  rw [isIn_iff ha]
  intro i hi
  rw [(join_v a b i hi).1, (join_v a b i hi).2]
  cases a.m.getLsbD i <;> cases a.v.getLsbD i <;> cases b.m.getLsbD i <;> cases b.v.getLsbD i <;> rfl

theorem in_join_r {a b : Tn} (ha : may a = true) (hb : may b = true) : isIn b (tJoin a b) = true := by
  rw [isIn_iff hb]
  intro i hi
  rw [(join_v a b i hi).1, (join_v a b i hi).2]
  cases a.m.getLsbD i <;> cases a.v.getLsbD i <;> cases b.m.getLsbD i <;> cases b.v.getLsbD i <;> rfl

theorem join_least {a b c : Tn} (ha : may a = true) (hb : may b = true) (h1 : isIn a c = true) (h2 : isIn b c = true) : isIn (tJoin a b) c = true := by
  rw [isIn_iff (show may (tJoin a b) = true from may_fit _ _)]
  rw [isIn_iff ha] at h1
  rw [isIn_iff hb] at h2
  intro i hi
  have k1 := h1 i hi
  have k2 := h2 i hi
  rw [(join_v a b i hi).1, (join_v a b i hi).2]
  revert k1 k2
  cases a.m.getLsbD i <;> cases a.v.getLsbD i <;> cases b.m.getLsbD i <;> cases b.v.getLsbD i <;> cases c.m.getLsbD i <;> cases c.v.getLsbD i <;> simp [inB]

theorem meet_l {a b : Tn} (ha : may a = true) (hb : may b = true) (hn : noMeet a b = false) : isIn (tMeet a b) a = true ∧ isIn (tMeet a b) b = true := by
  have hnn := (noMeet_iff ha hb).1 hn
  constructor
  · rw [isIn_iff (show may (tMeet a b) = true from may_fit _ _)]
    intro i hi
    have k1 := hnn i hi
    have k2 := may_bit ha i
    have k3 := may_bit hb i
    rw [(meet_v a b i hi).1, (meet_v a b i hi).2]
    revert k1 k2 k3
    cases a.m.getLsbD i <;> cases a.v.getLsbD i <;> cases b.m.getLsbD i <;> cases b.v.getLsbD i <;> simp [inB]
  · rw [isIn_iff (show may (tMeet a b) = true from may_fit _ _)]
    intro i hi
    have k1 := hnn i hi
    have k2 := may_bit ha i
    have k3 := may_bit hb i
    rw [(meet_v a b i hi).1, (meet_v a b i hi).2]
    revert k1 k2 k3
    cases a.m.getLsbD i <;> cases a.v.getLsbD i <;> cases b.m.getLsbD i <;> cases b.v.getLsbD i <;> simp [inB]

theorem meet_great {a b c : Tn} (ha : may a = true) (hb : may b = true) (hc : may c = true) (h1 : isIn c a = true) (h2 : isIn c b = true) : noMeet a b = false ∧ isIn c (tMeet a b) = true := by
  rw [isIn_iff hc] at h1 h2
  constructor
  · rw [noMeet_iff ha hb]
    intro i hi
    have k1 := h1 i hi
    have k2 := h2 i hi
    revert k1 k2
    cases a.m.getLsbD i <;> cases a.v.getLsbD i <;> cases b.m.getLsbD i <;> cases b.v.getLsbD i <;> cases c.m.getLsbD i <;> cases c.v.getLsbD i <;> simp [inB]
  · rw [isIn_iff hc]
    intro i hi
    have k1 := h1 i hi
    have k2 := h2 i hi
    rw [(meet_v a b i hi).1, (meet_v a b i hi).2]
    revert k1 k2
    cases a.m.getLsbD i <;> cases a.v.getLsbD i <;> cases b.m.getLsbD i <;> cases b.v.getLsbD i <;> cases c.m.getLsbD i <;> cases c.v.getLsbD i <;> simp [inB]

theorem free_zero {a : Tn} (ha : may a = true) : (freeW a == 0#64) = (a.m == 0#64) := by
  unfold freeW
  rw [ha]
  obtain ⟨h1, h2⟩ := popW_eq a.m
  simp only [Bool.not_true, cond_false, h1]
  by_cases h : a.m = 0#64
  · have : ones a.m = 0 := (ones_zero a.m).2 h
    rw [this, h]
  · have h0 : ones a.m ≠ 0 := fun e => h ((ones_zero a.m).1 e)
    have : BitVec.ofNat 64 (ones a.m) ≠ 0#64 := by
      intro e
      have := congrArg BitVec.toNat e
      rw [BitVec.toNat_ofNat] at this
      have z : (0#64 : W).toNat = 0 := rfl
      rw [z] at this
      omega
    rw [beq_eq_false_iff_ne.2 this, beq_eq_false_iff_ne.2 h]

theorem hi_mem {t : Tn} (h : may t = true) : has t (t.v ||| t.m) = true := by
  rw [has_iff, mem_iff_bits]
  intro i hi
  have := may_bit h i
  rw [BitVec.getLsbD_or]
  revert this
  cases t.m.getLsbD i <;> cases t.v.getLsbD i <;> simp

theorem imp_false {p q : Bool} (h : p = true → q = true) : (p && !q) = false := by
  cases p <;> cases q <;> simp_all

theorem order_true (a b c : Tn) : order a b c = true := by
  unfold order
  simp only [Bool.not_true, cond_false]
  cases ha : may a with
  | false => 
    have : isIn a a = false := by simp [isIn, ha]
    have hf : freeW a = -1#64 := by simp [freeW, ha]
    rw [this, hf]; rfl
  | true =>
    cases hb : may b with
    | false => rfl
    | true =>
      cases hc : may c with
      | false => rfl
      | true =>
        have hj : joinR a b = tJoin a b := by unfold joinR Tn.mux; rw [bad2_false ha hb]; rfl
        have he : (err2 a b != 0#64) = false := by simp [err2, bad2_false ha hb]
        have c1 : (isIn a b && isIn b a && !eqT a b) = false := imp_false fun h => by
          rw [Bool.and_eq_true] at h; exact in_anti ha hb h.1 h.2
        have c2 : (isIn a b && isIn b c && !isIn a c) = false := imp_false fun h => by
          rw [Bool.and_eq_true] at h; exact in_trans ha hb h.1 h.2
        have c3 : (isIn a c && isIn b c && !isIn (tJoin a b) c) = false := imp_false fun h => by
          rw [Bool.and_eq_true] at h; exact join_least ha hb h.1 h.2
        have c4 : ((isM a b && (!isIn (meetR a b) a || !isIn (meetR a b) b)) || (isIn c a && isIn c b && (!isM a b || !isIn c (meetR a b)))) = false := by
          cases hn : noMeet a b with
          | false =>
            have hm : meetR a b = tMeet a b := by unfold meetR Tn.mux; rw [hn]; rfl
            have his : isM a b = true := by unfold isM; rw [hn]; rfl
            obtain ⟨k1, k2⟩ := meet_l ha hb hn
            rw [hm, his, k1, k2]
            simp only [Bool.not_true, Bool.or_self, Bool.and_false, Bool.false_or]
            exact imp_false fun h => by
              rw [Bool.and_eq_true] at h; exact (meet_great ha hb hc h.1 h.2).2
          | true =>
            have his : isM a b = false := by unfold isM; rw [hn]; rfl
            have : (isIn c a && isIn c b) = false := by
              cases h1 : isIn c a with
              | false => rfl
              | true =>
                cases h2 : isIn c b with
                | false => rfl
                | true =>
                  have := (meet_great ha hb hc h1 h2).1
                  rw [hn] at this; simp at this
            rw [his, this]; rfl
        rw [hj, he, in_refl ha, in_all ha, c1, c2, in_join_l ha hb, in_join_r ha hb, c3, c4, has_iff.2 (may_mem ha), hi_mem ha, free_zero ha]
        simp

theorem ev11' (a b c : Tn) : Ev Try.prog (tabOf lG) noHooks 5 11 [eTn a, eTn b, eTn c] (eB true) := by
  have h := ev11 a b c
  rwa [order_true] at h

theorem lift11 (os : Os) (started : os.Started) (H : Type) (enc : TypeId × Value → H) :
    ReturnsInHanded {} Try.checked os 11 .any (Rows.tnumOrderSpec.pre6 enc Try.prog Try.f11 Rows.tnumOrderRow.domain false) (Rows.tnumOrderSpec.post enc Try.prog Try.f11 false true false false) :=
  law_lift (C := Try.checked) (tb := 4) [sTn, sTn, sTn] own started (by kernel_rfl) Try.func11
    (ChangeSpec.witness6 (enc := enc) (C := Try.checked) false ⟨#[], #[.agg #[.int .u64 0, .int .u64 0], .agg #[.int .u64 0, .int .u64 0], .agg #[.int .u64 0, .int .u64 0]], []⟩ 8 (by kernel_rfl) (by kernel_rfl) (by kernel_rfl) (by kernel_rfl))
    (by kernel_rfl) rfl Try.underlying4 rfl
    (fun ds h => match ds, h with | [_, _, _], _ => rfl)
    (fun xs w => match xs with
      | (a, b, c, ()) => (ev11' ⟨a.1, a.2.1⟩ ⟨b.1, b.2.1⟩ ⟨c.1, c.2.1⟩).calls gG (encs_ok (l := [sTn, sTn, sTn]) (ts := Try.f11.params.toList) (by kernel_rfl) (a, b, c, ())) w)

theorem tnumOrder_row : Rows.TnumOrderSaid :=
  OpenClaim.holds_of_wide 11 Try.f11 rfl rfl rfl rfl rfl rfl rfl ⟨rfl, rfl, rfl, rfl, rfl⟩ rfl rfl rfl rfl rfl (by kernel_rfl) Try.func11 (by kernel_rfl)
    (of_decide_eq_true (by kernel_rfl)) (by unfold Func.isWrapper; first | (rw [if_pos (by decide +kernel)]; kernel_rfl) | (rw [if_neg (by decide +kernel)]; exact ⟨rfl, rfl⟩))
    (fun os started H enc _ => lift11 os started H enc)
end Go.Rf

namespace Go.Proofs.Ytkfgohhmicfnhaa
theorem tnumOrder_holds : Rows.TnumOrderSaid := Go.Rf.tnumOrder_row
end Go.Proofs.Ytkfgohhmicfnhaa
