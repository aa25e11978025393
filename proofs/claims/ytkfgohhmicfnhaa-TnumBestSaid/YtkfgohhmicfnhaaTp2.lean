/- Laws of bits: what the document's loops make, bit by bit. -/
import Derived.Test.YtkfgohhmicfnhaaTn8
import Derived.Test.YtkfgohhmicfnhaaTp1
set_option linter.unusedVariables false
set_option linter.unusedSimpArgs false
namespace Go.Rf

theorem shn_eq (n : W) : amt .u64 (convB .i64 .u64 n) = n.toNat := by
  show (n.signExtend 64).toNat = _
  rw [BitVec.signExtend_eq]

theorem bitB_eq (x i : W) : bitB x i = x.getLsbD i.toNat := by
  unfold bitB
  rw [shn_eq]
  show ((x >>> i.toNat) % 2#64 == 1#64) = _
  have e : (x >>> i.toNat) % 2#64 = if x.getLsbD i.toNat then 1#64 else 0#64 := by
    apply BitVec.eq_of_toNat_eq
    have hb : x.getLsbD i.toNat = decide (x.toNat / 2 ^ i.toNat % 2 = 1) := Nat.testBit_eq_decide_div_mod_eq
    have h2 : (2#64 : W).toNat = 2 := rfl
    simp only [BitVec.toNat_umod, BitVec.toNat_ushiftRight, Nat.shiftRight_eq_div_pow, h2, hb]
    rcases Nat.mod_two_eq_zero_or_one (x.toNat / 2 ^ i.toNat) with h | h <;> simp [h]
  rw [e]
  cases x.getLsbD i.toNat <;> rfl

/-- What bit j of t may be. -/
def mrk (t : Tn) (j : Nat) : W := if t.m.getLsbD j then 3#64 else if t.v.getLsbD j then 2#64 else 1#64

theorem markB_eq (t : Tn) (i : W) : markB t i = mrk t i.toNat := by
  unfold markB mrk
  rw [bitB_eq, bitB_eq]
  cases t.m.getLsbD i.toNat <;> cases t.v.getLsbD i.toNat <;> rfl

theorem mod_bit (k : Nat) (hk : k < 64) : (BitVec.twoPow 64 k : W) = 1#64 <<< k := by
  rw [BitVec.twoPow_eq]

theorem or_bit {x : W} {i : Nat} (hi : i < 64) (h : x.getLsbD i = false) : x + 1#64 <<< i = x ||| 1#64 <<< i := by
  apply BitVec.add_eq_or_of_and_eq_zero
  rw [← BitVec.twoPow_eq]
  apply BitVec.eq_of_getLsbD_eq
  intro j hj
  simp only [BitVec.getLsbD_and, BitVec.getLsbD_twoPow, BitVec.getLsbD_zero]
  by_cases e : i = j
  · subst e; simp [h]
  · simp [e]

theorem bit_or {x : W} {i : Nat} (hi : i < 64) (j : Nat) : (x ||| 1#64 <<< i).getLsbD j = (x.getLsbD j || decide (i = j)) := by
  rw [← BitVec.twoPow_eq, BitVec.getLsbD_or, BitVec.getLsbD_twoPow]
  by_cases e : i = j
  · subst e; simp [hi]
  · simp [e]

/-- After so many rounds. -/
def MadeS.P (l : Nat → W) (s : MadeS) : Prop :=
  s.inv ∧ s.l = l ∧ ∀ j, s.t.v.getLsbD j = (decide (j < s.i.toNat) && (l j == 2#64)) ∧ s.t.m.getLsbD j = (decide (j < s.i.toNat) && (l j == 3#64))

theorem MadeS.P_next (l : Nat → W) (s : MadeS) (hP : s.P l) (hg : s.go = true) : s.next.P l := by
    obtain ⟨hi, hl, hb⟩ := hP
    have hd := MadeS.dec s hi hg
    rw [MadeS.go_iff hi, decide_eq_true_eq] at hg
    have e : s.next.i.toNat = s.i.toNat + 1 := succ_nat (by omega)
    have eli : s.li = l s.i.toNat := by rw [MadeS.li, hl, ixN_nat (by omega)]
    have ebit : s.bit = 1#64 <<< s.i.toNat := by rw [MadeS.bit, shn_eq]
    refine ⟨hd.1, hl, fun j => ?_⟩
    rw [e]
    have hv := (hb s.i.toNat).1
    have hm := (hb s.i.toNat).2
    simp only [Nat.lt_irrefl, decide_false, Bool.false_and] at hv hm
    have hj1 := (hb j).1
    have hj2 := (hb j).2
    constructor
    · show (if s.is2 = true then s.t.v + s.bit else s.t.v).getLsbD j = _
      have e2 : s.is2 = (l s.i.toNat == 2#64) := by rw [MadeS.is2, eli]
      rw [e2, ebit]
      by_cases h2 : (l s.i.toNat == 2#64) = true
      · rw [if_pos h2, or_bit hg hv, bit_or hg, hj1]
        by_cases hjj : s.i.toNat = j
        · subst hjj; simp [h2]
        · have : decide (j < s.i.toNat + 1) = decide (j < s.i.toNat) := by
            rw [decide_eq_decide]; omega
          simp [hjj, this]
      · rw [if_neg h2, hj1]
        by_cases hjj : s.i.toNat = j
        · subst hjj; simp at h2; simp [h2]
        · have : decide (j < s.i.toNat + 1) = decide (j < s.i.toNat) := by
            rw [decide_eq_decide]; omega
          rw [this]
    · show (if s.is3 = true then s.t.m + s.bit else s.t.m).getLsbD j = _
      have e2 : s.is3 = (l s.i.toNat == 3#64) := by rw [MadeS.is3, eli]
      rw [e2, ebit]
      by_cases h2 : (l s.i.toNat == 3#64) = true
      · rw [if_pos h2, or_bit hg hm, bit_or hg, hj2]
        by_cases hjj : s.i.toNat = j
        · subst hjj; simp [h2]
        · have : decide (j < s.i.toNat + 1) = decide (j < s.i.toNat) := by
            rw [decide_eq_decide]; omega
          simp [hjj, this]
      · rw [if_neg h2, hj2]
        by_cases hjj : s.i.toNat = j
        · subst hjj; simp at h2; simp [h2]
        · have : decide (j < s.i.toNat + 1) = decide (j < s.i.toNat) := by
            rw [decide_eq_decide]; omega
          rw [this]

theorem MadeS.P_start (l : Nat → W) : MadeS.P l ⟨0#64, ⟨0#64, 0#64⟩, l⟩ :=
  ⟨by show (0#64 : W).toNat ≤ 64; decide, rfl, fun j => by
    have e : (0#64 : W).toNat = 0 := rfl
    simp [e]⟩

theorem made_bits (l : Nat → W) (j : Nat) (hj : j < 64) : (made l).v.getLsbD j = (l j == 2#64) ∧ (made l).m.getLsbD j = (l j == 3#64) := by
  have h0 := MadeS.P_start l
  unfold made
  generalize (⟨0#64, ⟨0#64, 0#64⟩, l⟩ : MadeS) = s0 at h0 ⊢
  have hend := runN_inv (go := MadeS.go) (next := MadeS.next) (MadeS.P l) (MadeS.P_next l) 64 s0 h0
  have hdone := runN_done (go := MadeS.go) (next := MadeS.next) (inv := MadeS.inv) (μ := MadeS.mu) MadeS.dec 64 s0 h0.1 (by simp only [MadeS.mu]; omega)
  generalize runN MadeS.go MadeS.next 64 s0 = s at hend hdone ⊢
  obtain ⟨k1, k2, k3⟩ := hend
  rw [MadeS.go_iff k1, decide_eq_false_iff_not] at hdone
  have := k3 j
  have hlt : j < s.i.toNat := by omega
  simp only [hlt, decide_true, Bool.true_and] at this
  exact this

theorem tn_ext {a b : Tn} (h : ∀ j, j < 64 → a.v.getLsbD j = b.v.getLsbD j ∧ a.m.getLsbD j = b.m.getLsbD j) : a = b :=
  Tn.ext' (BitVec.eq_of_getLsbD_eq fun j hj => (h j hj).1) (BitVec.eq_of_getLsbD_eq fun j hj => (h j hj).2)

theorem upd_same (l : Nat → W) (i : Nat) (v : W) : upd l i v i = v := by simp [upd]
theorem upd_upd (l : Nat → W) (i : Nat) (v w : W) : upd (upd l i v) i w = upd l i w := by
  funext j; simp only [upd]; split <;> rfl
theorem upd_self (l : Nat → W) (i : Nat) : upd l i (l i) = l := by
  funext j; simp only [upd]; split
  · rename_i h; rw [h]
  · rfl

/-- One cell of Bits. -/
def bstep (op p q n c : W) : W :=
  if (p &&& bitN (remB .i64 n 2#64) == 0#64) || (q &&& bitN (quoB .i64 n 2#64) == 0#64) then c
  else c ||| bitN (if op == 2#64 then remB .i64 n 2#64 ^^^ quoB .i64 n 2#64 else if op == 1#64 then remB .i64 n 2#64 ||| quoB .i64 n 2#64 else remB .i64 n 2#64 &&& quoB .i64 n 2#64)
def bcell (op p q : W) : W := bstep op p q 3#64 (bstep op p q 2#64 (bstep op p q 1#64 (bstep op p q 0#64 0#64)))

theorem bin_next (op : W) (a b : Tn) (i n c : W) (l : Nat → W) : BIn.next ⟨op, a, b, i, n, upd l (ixN i) c⟩ = ⟨op, a, b, i, n + 1#64, upd l (ixN i) (bstep op (markB a i) (markB b i) n c)⟩ := by
  unfold BIn.next
  simp only [BIn.skip, BIn.put, BIn.z, BIn.x, BIn.y, BIn.one, BIn.two, bstep, upd_same, upd_upd]
  split <;> rfl

theorem bin_run (op : W) (a b : Tn) (i : W) (l : Nat → W) (h0 : l (ixN i) = 0#64) : (runN BIn.go BIn.next 4 ⟨op, a, b, i, 0#64, l⟩).l = upd l (ixN i) (bcell op (markB a i) (markB b i)) := by
  have e : l = upd l (ixN i) 0#64 := by rw [← h0, upd_self]
  have g : ∀ (n c : W), ltB .i64 n 4#64 = true → BIn.go ⟨op, a, b, i, n, upd l (ixN i) c⟩ = true := fun n c h => h
  conv => lhs; rw [e]
  rw [runN_go (g 0#64 _ (by decide)), bin_next, runN_go (g _ _ (by decide)), bin_next, runN_go (g _ _ (by decide)), bin_next, runN_go (g _ _ (by decide)), bin_next]
  rfl

end Go.Rf
