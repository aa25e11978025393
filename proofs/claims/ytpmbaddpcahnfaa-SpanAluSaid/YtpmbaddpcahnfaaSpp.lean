/- Laws of spans, plain. -/
import Derived.Test.YtpmbaddpcahnfaaSp4
set_option linter.unusedVariables false
set_option linter.unusedSimpArgs false
namespace Go.Rf

theorem leU (x y : W) : leB .u64 x y = decide (x.toNat ≤ y.toNat) := rfl
theorem ltU (x y : W) : ltB .u64 x y = decide (x.toNat < y.toNat) := rfl
theorem leI (x y : W) : leB .i64 x y = decide (x.toInt ≤ y.toInt) := rfl
theorem minU_nat (x y : W) : (minU x y).toNat = min x.toNat y.toNat := by
  unfold minU
  rw [ltU]
  by_cases h : y.toNat < x.toNat
  · rw [decide_eq_true h]; show y.toNat = _; omega
  · rw [decide_eq_false h]; show x.toNat = _; omega
theorem maxU_nat (x y : W) : (maxU x y).toNat = max x.toNat y.toNat := by
  unfold maxU
  rw [ltU]
  by_cases h : x.toNat < y.toNat
  · rw [decide_eq_true h]; show y.toNat = _; omega
  · rw [decide_eq_false h]; show x.toNat = _; omega

theorem mayS_iff {s : Sp} : mayS s = true ↔ s.lo.toNat ≤ s.hi.toNat := by
  unfold mayS; rw [leU, decide_eq_true_eq]
theorem hasS_iff {s : Sp} {n : W} : hasS s n = true ↔ s.lo.toNat ≤ n.toNat ∧ n.toNat ≤ s.hi.toNat := by
  unfold hasS; rw [leU, leU, Bool.and_eq_true, decide_eq_true_eq, decide_eq_true_eq]

theorem has_same (s : Sp) (n : W) : hasS s n = (mayS s && leB .u64 s.lo n && leB .u64 n s.hi) := by
  rw [Bool.eq_iff_iff, hasS_iff]
  simp only [mayS, leU, Bool.and_eq_true, decide_eq_true_eq]
  omega
theorem in_same (a b : Sp) : inS a b = (mayS a && mayS b && leB .u64 b.lo a.lo && leB .u64 a.hi b.hi) := by
  rw [Bool.eq_iff_iff]
  simp only [inS, mayS, leU, Bool.and_eq_true, decide_eq_true_eq]
  omega

theorem join_same (a b : Sp) : joinS a b = joinD a b := by
  unfold joinS joinD minU maxU Sp.mux
  cases mayS a <;> cases mayS b <;> cases ltB .u64 b.lo a.lo <;> cases ltB .u64 a.hi b.hi <;> rfl
theorem meet_same (a b : Sp) : meetS a b = meetD a b := by
  unfold meetS meetD minU maxU
  cases ltB .u64 a.lo b.lo <;> cases ltB .u64 b.hi a.hi <;> rfl
theorem noMeet_same (a b : Sp) : noMeetS a b = noMeetD a b := by
  rw [Bool.eq_iff_iff]
  simp only [noMeetS, noMeetD, mayS, leU, ltU, meetS, maxU_nat, minU_nat, Bool.or_eq_true, Bool.not_eq_true', decide_eq_true_eq, decide_eq_false_iff_not]
  omega

/-! Cut. -/
def ones' (k : Nat) : W := BitVec.ofNat 64 (2 ^ k - 1)
theorem nat_of_int {n : W} (h0 : 0 ≤ n.toInt) : n.toInt = n.toNat := by
  rw [BitVec.toInt_eq_toNat_cond] at h0 ⊢
  split <;> rename_i h
  · rfl
  · rw [if_neg h] at h0
    have := n.isLt
    omega
theorem amtI {n : W} (h0 : 0 ≤ n.toInt) : amt .i64 n = n.toNat := by
  show n.toInt.toNat = _
  rw [nat_of_int h0]; rfl
theorem ofNat_self (n : W) : BitVec.ofNat 64 n.toNat = n := by simp

def ctAt (n : W) (f : Nat → Nat) (i : Nat) : CtS := ⟨n, BitVec.ofNat 64 (f i), BitVec.ofNat 64 i⟩
theorem ct_run {n : W} (h0 : 0 ≤ n.toInt) (g : W → W) (f : Nat → Nat) (hg : ∀ i, g (BitVec.ofNat 64 (f i)) = BitVec.ofNat 64 (f (i + 1))) :
    (CtS.run g ⟨n, BitVec.ofNat 64 (f 0), 0#64⟩).n = BitVec.ofNat 64 (f n.toNat) := by
  have hn := nat_of_int h0
  have hlt := n.toInt_lt
  simp only [show (64 - 1 : Nat) = 63 from rfl] at hlt
  have hm : (⟨n, BitVec.ofNat 64 (f 0), 0#64⟩ : CtS).mu = n.toNat := by
    show (n.toInt - (0#64 : W).toInt).toNat = _
    rw [hn, show ((0#64 : W).toInt) = 0 from rfl]
    omega
  unfold CtS.run
  rw [hm]
  have e := runN_count (go := CtS.go) (next := CtS.nxt g) (ctAt n f) n.toNat (fun i hi => by
    show ltB .i64 (BitVec.ofNat 64 i) n = _
    rw [← ofNat_self n, ltB_ofNat (by omega) (by omega), ofNat_self]) (fun i hi => by
    unfold CtS.nxt ctAt
    rw [hg, ofNat_succ])
  have e2 := congrArg CtS.n e
  exact e2

theorem ofNat_two (x : Nat) : (2#64 : W) * BitVec.ofNat 64 x = BitVec.ofNat 64 (2 * x) := by
  rw [BitVec.ofNat_mul]
theorem topW_eq {n : W} (h0 : 0 ≤ n.toInt) : topW n = ones' n.toNat := by
  refine ct_run h0 twice1 (fun i => 2 ^ i - 1) (fun i => ?_)
  show (2#64 : W) * BitVec.ofNat 64 (2 ^ i - 1) + 1#64 = _
  rw [ofNat_two, ofNat_succ]
  congr 1
  have := Nat.two_pow_pos i
  rw [Nat.pow_succ]; omega
theorem powWr_eq {n : W} (h0 : 0 ≤ n.toInt) : powWr n = BitVec.ofNat 64 (2 ^ n.toNat) := by
  refine ct_run h0 twice (fun i => 2 ^ i) (fun i => ?_)
  show (2#64 : W) * BitVec.ofNat 64 (2 ^ i) = _
  rw [ofNat_two, Nat.pow_succ, Nat.mul_comm]

theorem topK_eq {n : W} (h0 : 0 ≤ n.toInt) : topK n = ones' n.toNat := by
  unfold topK ones'
  rw [amtI h0]
  apply BitVec.eq_of_toNat_eq
  have := Nat.two_pow_pos n.toNat
  rw [BitVec.toNat_sub, BitVec.toNat_shiftLeft]
  have e1 : (1#64 : W).toNat = 1 := rfl
  simp only [e1, Nat.shiftLeft_eq, Nat.one_mul, BitVec.toNat_ofNat]
  by_cases h : n.toNat < 64
  · have : 2 ^ n.toNat < 2 ^ 64 := Nat.pow_lt_pow_right (by decide) h
    omega
  · have e : 2 ^ n.toNat % 2 ^ 64 = 0 := by
      have : n.toNat = 64 + (n.toNat - 64) := by omega
      rw [this, Nat.pow_add]; exact Nat.mul_mod_right _ _
    omega

theorem and_ones (x : W) {k : Nat} (hk : k ≤ 64) : (x &&& ones' k).toNat = x.toNat % 2 ^ k := by
  unfold ones'
  have : 2 ^ k ≤ 2 ^ 64 := Nat.pow_le_pow_right (by decide) hk
  have h0 := Nat.two_pow_pos k
  rw [BitVec.toNat_and, BitVec.toNat_ofNat, Nat.mod_eq_of_lt (by omega), Nat.and_two_pow_sub_one_eq_mod]

theorem ones_nat {k : Nat} (hk : k ≤ 64) : (ones' k).toNat = 2 ^ k - 1 := by
  unfold ones'
  have : 2 ^ k ≤ 2 ^ 64 := Nat.pow_le_pow_right (by decide) hk
  have h0 := Nat.two_pow_pos k
  rw [BitVec.toNat_ofNat, Nat.mod_eq_of_lt (by omega)]

theorem cut_core (lo hi m : Nat) (hm : 0 < m) (h : lo ≤ hi) : (lo / m ≠ hi / m) ↔ (m - 1 < hi - lo ∨ hi % m < lo % m) := by
  have e1 := Nat.div_add_mod lo m
  have e2 := Nat.div_add_mod hi m
  have r1 := Nat.mod_lt lo hm
  have r2 := Nat.mod_lt hi hm
  have hq : lo / m ≤ hi / m := Nat.div_le_div_right h
  constructor
  · intro hne
    have : lo / m + 1 ≤ hi / m := by omega
    have := Nat.mul_le_mul_left m this
    rw [Nat.mul_add] at this
    omega
  · intro hor heq
    rw [heq] at e1
    omega

theorem bif_eq {α : Type} (c : Bool) (x : α) : (bif c then x else x) = x := by cases c <;> rfl

theorem cut_same (s : Sp) (n : W) : cutS s n = cutD s n := by
  unfold cutS cutD
  cases hm : mayS s with
  | false => rfl
  | true =>
    have hle := mayS_iff.1 hm
    have z0 : (0#64 : W).toInt = 0 := rfl
    have z64 : (64#64 : W).toInt = 64 := rfl
    have hc := cutN_int n
    rw [ltI, leI, z0, z64]
    by_cases h1 : n.toInt < 0
    · have e : cutN n = 0#64 := by apply BitVec.eq_of_toInt_eq; rw [hc, z0]; omega
      have t0 : topW 0#64 = 0#64 := by rw [topW_eq (by rw [z0]; decide)]; rfl
      have t1 : topK 0#64 = 0#64 := rfl
      rw [e, decide_eq_true h1, t0, t1]
      have a1 : s.lo &&& 0#64 = 0#64 := BitVec.and_zero
      have a2 : s.hi &&& 0#64 = 0#64 := BitVec.and_zero
      have x1 : Sp.mux (shI s.lo 0#64 != shI s.hi 0#64) ⟨0, 0#64⟩ ⟨s.lo &&& 0#64, s.hi &&& 0#64⟩ = (⟨0#64, 0#64⟩ : Sp) := by
        rw [a1, a2]; unfold Sp.mux; simp only [show (0 : W) = 0#64 from rfl, bif_eq]
      have x2 : cutTo s 0#64 = (⟨0#64, 0#64⟩ : Sp) := by
        unfold cutTo; rw [a1, a2]; unfold Sp.mux; simp only [show (0 : W) = 0#64 from rfl, bif_eq]
      rw [x1, x2]
      rfl
    · by_cases h2 : 64 ≤ n.toInt
      · have e : cutN n = 64#64 := by apply BitVec.eq_of_toInt_eq; rw [hc, z64]; omega
        rw [e, decide_eq_false h1, decide_eq_true h2]
        rfl
      · have e : cutN n = n := by apply BitVec.eq_of_toInt_eq; rw [hc]; omega
        have h0 : 0 ≤ n.toInt := by omega
        have hn := nat_of_int h0
        have hk : n.toNat < 64 := by omega
        have ne : (n == 64#64) = false := by
          rw [beq_eq_false_iff_ne]
          intro e'; rw [e'] at hk; exact absurd hk (by decide)
        rw [e, decide_eq_false h1, decide_eq_false h2, ne, topK_eq h0, topW_eq h0]
        show Sp.mux (shI s.lo n != shI s.hi n) _ _ = cutTo s (ones' n.toNat)
        unfold cutTo
        have : (shI s.lo n != shI s.hi n) = cutBad s (ones' n.toNat) := by
          have hs : ∀ x : W, (shI x n).toNat = x.toNat / 2 ^ n.toNat := by
            intro x
            unfold shI
            rw [amtI h0]
            show (x >>> n.toNat).toNat = _
            rw [BitVec.toNat_ushiftRight, Nat.shiftRight_eq_div_pow]
          have key := cut_core s.lo.toNat s.hi.toNat (2 ^ n.toNat) (Nat.two_pow_pos _) hle
          have hsub : (s.hi - s.lo).toNat = s.hi.toNat - s.lo.toNat := by
            rw [BitVec.toNat_sub]
            have := s.hi.isLt
            omega
          rw [Bool.eq_iff_iff]
          unfold cutBad
          rw [ltU, ltU, and_ones _ (by omega), and_ones _ (by omega), ones_nat (by omega), hsub, bne_iff_ne, Ne, ← BitVec.toNat_inj, hs, hs, Bool.or_eq_true, decide_eq_true_eq, decide_eq_true_eq]
          exact key
        rw [this]

def spHas (a b : Sp) (n : W) : Bool :=
  mayS a == mayS a && hasS a n == (mayS a && leB .u64 a.lo n && leB .u64 n a.hi) && inS a b == (mayS a && mayS b && leB .u64 b.lo a.lo && leB .u64 a.hi b.hi) &&
    ((ofS n).lo == n && (ofS n).hi == n) && (allS.lo == 0#64 && allS.hi == 18446744073709551615#64) && true
theorem spHas_true (a b : Sp) (n : W) : spHas a b n = true := by
  unfold spHas
  rw [← has_same, ← in_same]
  simp [ofS, allS]

def eqS (a b : Sp) : Bool := a.lo == b.lo && a.hi == b.hi
theorem eqS_self (a : Sp) : eqS a a = true := by simp [eqS]
def spSets (a b : Sp) : Bool :=
  eqS (joinS a b) (joinD a b) && eqS (Sp.mux (noMeetS a b) nilS (meetS a b)) (Sp.mux (noMeetD a b) nilS (meetD a b)) &&
    (bif noMeetS a b then false else true) == (bif noMeetD a b then false else true) && true
theorem spSets_true (a b : Sp) : spSets a b = true := by
  unfold spSets
  rw [← join_same, ← meet_same, ← noMeet_same, eqS_self, eqS_self]
  simp
def spCuts (s : Sp) (n : W) : Bool := eqS (cutS s n) (cutD s n) && true
theorem spCuts_true (s : Sp) (n : W) : spCuts s n = true := by
  unfold spCuts
  rw [← cut_same, eqS_self]; rfl
end Go.Rf
