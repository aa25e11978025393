/- Spans: SpanGrows, plain. -/
import Derived.Test.YtpmbaddpcahnfaaSr6
set_option linter.unusedVariables false
set_option linter.unusedSimpArgs false
namespace Go.Rf
open Go.Proofs

theorem cut_any {s : Sp} (hs : mayS s = true) (n : W) (hk : cutN n ≠ 64#64) : ∃ k, k < 64 ∧ cutS s n = Sp.mux (decide (s.lo.toNat / 2 ^ k ≠ s.hi.toNat / 2 ^ k)) ⟨0, ones' k⟩ ⟨s.lo &&& ones' k, s.hi &&& ones' k⟩ ∧ k = (cutN n).toNat := by
  have hc := cutN_int n
  have h0 : 0 ≤ (cutN n).toInt := by rw [hc]; omega
  have hn := nat_of_int h0
  have h64 : (cutN n).toNat ≠ 64 := fun e => hk (BitVec.eq_of_toNat_eq e)
  have hlt : (cutN n).toNat < 64 := by omega
  refine ⟨_, hlt, ?_, rfl⟩
  have ne : (cutN n == 64#64) = false := by rw [beq_eq_false_iff_ne]; exact hk
  unfold cutS
  rw [hs, ne, topK_eq h0]
  show Sp.mux (shI s.lo (cutN n) != shI s.hi (cutN n)) _ _ = _
  congr 1
  rw [Bool.eq_iff_iff, bne_iff_ne, Ne, ← BitVec.toNat_inj, shI_nat _ hlt, shI_nat _ hlt, decide_eq_true_eq]

theorem cut_grows {s s' : Sp} (hs : mayS s = true) (hle : leS s s') (n : W) : leS (cutS s n) (cutS s' n) ∧ mayS (cutS s n) = true := by
  have ml := mayS_iff.1 hs
  have hs' : mayS s' = true := mayS_iff.2 (by have := hle.1; have := hle.2; omega)
  obtain ⟨l1, l2⟩ := hle
  by_cases hk : cutN n = 64#64
  · have e : ∀ {u : Sp}, mayS u = true → cutS u n = u := fun {u} hu => by
      unfold cutS
      rw [hu, hk]; rfl
    rw [e hs, e hs']
    exact ⟨⟨l1, l2⟩, hs⟩
  · obtain ⟨k, hk1, e1, ek⟩ := cut_any hs n hk
    obtain ⟨k', hk1', e1', ek'⟩ := cut_any hs' n hk
    have : k' = k := by rw [ek, ek']
    subst this
    rw [e1, e1']
    have q1 : s'.lo.toNat / 2 ^ k' ≤ s.lo.toNat / 2 ^ k' := Nat.div_le_div_right l1
    have q2 : s.lo.toNat / 2 ^ k' ≤ s.hi.toNat / 2 ^ k' := Nat.div_le_div_right ml
    have q3 : s.hi.toNat / 2 ^ k' ≤ s'.hi.toNat / 2 ^ k' := Nat.div_le_div_right l2
    have m1 := and_ones s.lo (show k' ≤ 64 by omega)
    have m2 := and_ones s.hi (show k' ≤ 64 by omega)
    have m3 := and_ones s'.lo (show k' ≤ 64 by omega)
    have m4 := and_ones s'.hi (show k' ≤ 64 by omega)
    have on := ones_nat (show k' ≤ 64 by omega)
    have hp := Nat.two_pow_pos k'
    have d1 := Nat.div_add_mod s.lo.toNat (2 ^ k')
    have d2 := Nat.div_add_mod s.hi.toNat (2 ^ k')
    have d3 := Nat.div_add_mod s'.lo.toNat (2 ^ k')
    have d4 := Nat.div_add_mod s'.hi.toNat (2 ^ k')
    have b2 := Nat.mod_lt s.hi.toNat hp
    have hi_le : (Sp.mux (decide (s.lo.toNat / 2 ^ k' ≠ s.hi.toNat / 2 ^ k')) ⟨0, ones' k'⟩ ⟨s.lo &&& ones' k', s.hi &&& ones' k'⟩).hi.toNat ≤ (ones' k').toNat := by
      by_cases h : s.lo.toNat / 2 ^ k' ≠ s.hi.toNat / 2 ^ k'
      · rw [decide_eq_true h]; exact Nat.le_refl _
      · rw [decide_eq_false h]
        show (s.hi &&& ones' k').toNat ≤ _
        omega
    refine ⟨?_, ?_⟩
    · by_cases h' : s'.lo.toNat / 2 ^ k' ≠ s'.hi.toNat / 2 ^ k'
      · rw [decide_eq_true h']
        exact ⟨Nat.zero_le _, hi_le⟩
      · have h : ¬ s.lo.toNat / 2 ^ k' ≠ s.hi.toNat / 2 ^ k' := by omega
        rw [decide_eq_false h', decide_eq_false h]
        have x1 : s'.lo.toNat / 2 ^ k' = s.lo.toNat / 2 ^ k' := by omega
        have x2 : s'.hi.toNat / 2 ^ k' = s.hi.toNat / 2 ^ k' := by omega
        rw [x1] at d3
        rw [x2] at d4
        exact ⟨by show (s'.lo &&& ones' k').toNat ≤ (s.lo &&& ones' k').toNat; omega, by show (s.hi &&& ones' k').toNat ≤ (s'.hi &&& ones' k').toNat; omega⟩
    · rw [mayS_iff]
      by_cases h : s.lo.toNat / 2 ^ k' ≠ s.hi.toNat / 2 ^ k'
      · rw [decide_eq_true h]; exact Nat.zero_le _
      · rw [decide_eq_false h]
        have x1 : s.lo.toNat / 2 ^ k' = s.hi.toNat / 2 ^ k' := by omega
        rw [x1] at d1
        show (s.lo &&& ones' k').toNat ≤ (s.hi &&& ones' k').toNat
        omega

theorem alu_grows {op : W} (hop : isOp op) (w : Bool) {a b a' b' : Sp} (ma : mayS a = true) (mb : mayS b = true) (la : leS a a') (lb : leS b b') : leS (aluS op w a b) (aluS op w a' b') ∧ mayS (aluS op w a b) = true := by
  have ma' : mayS a' = true := mayS_iff.2 (by have := la.1; have := la.2; have := mayS_iff.1 ma; omega)
  have mb' : mayS b' = true := mayS_iff.2 (by have := lb.1; have := lb.2; have := mayS_iff.1 mb; omega)
  have hok := (alu_ok hop w ma mb (memS_lo ma) (memS_lo mb)).1
  refine ⟨?_, mayS_iff.2 (Nat.le_trans hok.1 hok.2)⟩
  unfold aluS
  cases w with
  | true => exact core_grows wd64 hop ma mb la lb (le64' _) (le64' _)
  | false =>
    obtain ⟨_, _, a3⟩ := cut32 ma (memS_lo ma)
    obtain ⟨_, _, b3⟩ := cut32 mb (memS_lo mb)
    obtain ⟨_, a2, _⟩ := cut32 ma' (memS_lo ma')
    obtain ⟨_, b2, _⟩ := cut32 mb' (memS_lo mb')
    exact core_grows wd32 hop a3 b3 (cut_grows ma la 32#64).1 (cut_grows mb lb 32#64).1 a2 b2

theorem join_l {a c : Sp} (ma : mayS a = true) : leS a (joinS a c) := by
  unfold joinS
  rw [ma]
  cases hc : mayS c with
  | true =>
    show (minU a.lo c.lo).toNat ≤ _ ∧ _ ≤ (maxU a.hi c.hi).toNat
    rw [minU_nat, maxU_nat]; omega
  | false => exact ⟨Nat.le_refl _, Nat.le_refl _⟩
theorem join_both {a b : Sp} (ma : mayS a = true) (mb : mayS b = true) : (joinS a b).lo.toNat = min a.lo.toNat b.lo.toNat ∧ (joinS a b).hi.toNat = max a.hi.toNat b.hi.toNat := by
  unfold joinS
  rw [ma, mb]
  exact ⟨minU_nat _ _, maxU_nat _ _⟩

def ynS (b : Bool) : Bool := bif b then false else true
def meetM (a b : Sp) : Sp := Sp.mux (noMeetS a b) nilS (meetS a b)
def errS (op : W) (a b : Sp) : W := bif aluBad op a b then 1#64 else 0#64
def resS (op : W) (w : Bool) (a b : Sp) : Sp := Sp.mux (aluBad op a b) nilS (aluS op w a b)
def grows4 (op : W) (w : Bool) (a b a' b' : Sp) (n : W) : Bool :=
  bif errS op a b != errS op a' b' || (errS op a b == 0#64 && !inS (resS op w a b) (resS op w a' b')) then false
  else bif ynS (noMeetS a b) && (!ynS (noMeetS a' b') || !inS (meetM a b) (meetM a' b') || !inS (meetM a b) a || !inS (meetM a b) b) then false
  else inS a a' && inS b b' && inS (joinS a b) (joinS a' b') && inS (cutS a n) (cutS a' n) && true
def growsG (g : Gv) (c d : Sp) (n : W) : Bool := bif !mayS g.a || !mayS g.b then true else grows4 g.op g.w g.a g.b (joinS g.a c) (joinS g.b d) n

theorem grows4_true (op : W) (w : Bool) {a b a' b' : Sp} (ma : mayS a = true) (mb : mayS b = true) (la : leS a a') (lb : leS b b') (n : W) : grows4 op w a b a' b' n = true := by
  have ma' : mayS a' = true := mayS_iff.2 (by have := la.1; have := la.2; have := mayS_iff.1 ma; omega)
  have mb' : mayS b' = true := mayS_iff.2 (by have := lb.1; have := lb.2; have := mayS_iff.1 mb; omega)
  have mla := mayS_iff.1 ma
  have mlb := mayS_iff.1 mb
  have eb : aluBad op a b = aluBad op a' b' := by unfold aluBad; rw [ma, mb, ma', mb']
  have c1 : (errS op a b != errS op a' b' || (errS op a b == 0#64 && !inS (resS op w a b) (resS op w a' b'))) = false := by
    unfold errS resS
    rw [← eb]
    cases hb : aluBad op a b with
    | true => rfl
    | false =>
      have hb' := hb
      unfold aluBad at hb'
      simp only [Bool.or_eq_false_iff] at hb'
      obtain ⟨⟨⟨h1, h2⟩, _⟩, _⟩ := hb'
      obtain ⟨g1, g2⟩ := alu_grows (good_op h1 h2) w ma mb la lb
      show (0#64 != 0#64 || (0#64 == 0#64 && !inS (aluS op w a b) (aluS op w a' b'))) = false
      rw [inS_iff.2 ⟨g2, g1⟩]; rfl
  have c2 : (ynS (noMeetS a b) && (!ynS (noMeetS a' b') || !inS (meetM a b) (meetM a' b') || !inS (meetM a b) a || !inS (meetM a b) b)) = false := by
    cases hm : noMeetS a b with
    | true => rfl
    | false =>
      have hm' := hm
      simp only [noMeetS, mayS, leU, meetS, maxU_nat, minU_nat, Bool.or_eq_false_iff, Bool.not_eq_false', decide_eq_true_eq] at hm'
      have hn : noMeetS a' b' = false := by
        simp only [noMeetS, mayS, leU, meetS, maxU_nat, minU_nat, Bool.or_eq_false_iff, Bool.not_eq_false', decide_eq_true_eq]
        have := la.1; have := la.2; have := lb.1; have := lb.2
        omega
      have e1 : meetM a b = meetS a b := by unfold meetM; rw [hm]; rfl
      have e2 : meetM a' b' = meetS a' b' := by unfold meetM; rw [hn]; rfl
      have l : (meetS a b).lo.toNat = max a.lo.toNat b.lo.toNat := maxU_nat _ _
      have hh : (meetS a b).hi.toNat = min a.hi.toNat b.hi.toNat := minU_nat _ _
      have l' : (meetS a' b').lo.toNat = max a'.lo.toNat b'.lo.toNat := maxU_nat _ _
      have hh' : (meetS a' b').hi.toNat = min a'.hi.toNat b'.hi.toNat := minU_nat _ _
      have mm : mayS (meetS a b) = true := mayS_iff.2 (by omega)
      have := la.1; have := la.2; have := lb.1; have := lb.2
      have i1 : inS (meetS a b) (meetS a' b') = true := inS_iff.2 ⟨mm, by constructor <;> omega⟩
      have i2 : inS (meetS a b) a = true := inS_iff.2 ⟨mm, by constructor <;> omega⟩
      have i3 : inS (meetS a b) b = true := inS_iff.2 ⟨mm, by constructor <;> omega⟩
      rw [e1, e2, hn, i1, i2, i3]; rfl
  have j1 : inS (joinS a b) (joinS a' b') = true := by
    obtain ⟨u1, u2⟩ := join_both ma mb
    obtain ⟨v1, v2⟩ := join_both ma' mb'
    have := la.1; have := la.2; have := lb.1; have := lb.2
    exact inS_iff.2 ⟨mayS_iff.2 (by omega), by constructor <;> omega⟩
  obtain ⟨k1, k2⟩ := cut_grows ma la n
  unfold grows4
  rw [c1, c2, inS_iff.2 ⟨ma, la⟩, inS_iff.2 ⟨mb, lb⟩, j1, inS_iff.2 ⟨k2, k1⟩]
  rfl

theorem growsG_true (g : Gv) (c d : Sp) (n : W) : growsG g c d n = true := by
  unfold growsG
  cases ma : mayS g.a with
  | false => rfl
  | true =>
    cases mb : mayS g.b with
    | false => rfl
    | true => exact grows4_true g.op g.w ma mb (join_l ma) (join_l mb) n

theorem ev10 (g : Gv) (c d : Sp) (n : W) : Ev Try.prog (tabOf sl10) noHooks 6 10 [eGv g, eSp c, eSp d, eI n] (eB true) := by
  have h : Ev Try.prog (tabOf sl10) noHooks 6 10 [eGv g, eSp c, eSp d, eI n] (eB (growsG g c d n)) := Ev.of (by kernel_rfl)
  rwa [growsG_true] at h
end Go.Rf
