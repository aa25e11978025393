/- Laws of bits: what is shifted and cut is the document's; products, too. -/
import Derived.Test.YtkfgohhmicfnhaaTp3
set_option linter.unusedVariables false
set_option linter.unusedSimpArgs false
namespace Go.Rf

theorem lt_int (x y : W) : ltB .i64 x y = decide (x.toInt < y.toInt) := by
  have e : ltB .i64 x y = x.slt y := rfl
  rw [e, BitVec.slt_eq_decide]
theorem le_int (x y : W) : leB .i64 x y = decide (x.toInt ≤ y.toInt) := by
  have e : leB .i64 x y = x.sle y := rfl
  rw [e, BitVec.sle_eq_decide]

theorem add_int {x y : W} (h1 : -4611686018427387904 ≤ x.toInt + y.toInt) (h2 : x.toInt + y.toInt ≤ 4611686018427387904) : (x + y).toInt = x.toInt + y.toInt := by
  rw [BitVec.toInt_add]
  exact Int.bmod_eq_of_le (by omega) (by omega)

theorem neg_int {x : W} (h1 : -4611686018427387904 ≤ x.toInt) (h2 : x.toInt ≤ 4611686018427387904) : (-x).toInt = -x.toInt := by
  rw [BitVec.toInt_neg]
  exact Int.bmod_eq_of_le (by omega) (by omega)

theorem ofNat_int (j : Nat) (hj : j ≤ 64) : (BitVec.ofNat 64 j : W).toInt = j := by
  rw [BitVec.toInt_eq_toNat_of_lt] <;> simp <;> omega

theorem nat_of_int {x : W} {n : Nat} (h : x.toInt = (n : Int)) : x.toNat = n := by
  rw [BitVec.toInt_eq_toNat_cond] at h
  have := x.isLt
  split at h <;> omega

theorem int_of_nat {x : W} (h : x.toNat ≤ 64) : x.toInt = (x.toNat : Int) := BitVec.toInt_eq_toNat_of_lt (by omega)

def mvcell (t : Tn) (b z m i : W) : W :=
  let a := if leB .i64 0#64 m && ltB .i64 m (i + b) then m else i + b
  if ltB .i64 i z && leB .i64 0#64 a && ltB .i64 a 64#64 then markB t a else 1#64

theorem mv_next (s : MvS) : s.nxt.l = upd s.l (ixN s.i) (mvcell s.t s.by' s.size s.most s.i) := by
  unfold MvS.nxt MvS.put mvcell
  have e : s.at' = if leB .i64 0#64 s.most && ltB .i64 s.most (s.i + s.by') then s.most else s.i + s.by' := rfl
  simp only [← e]
  have e2 : s.fits s.at' = (ltB .i64 s.i s.size && leB .i64 0#64 s.at' && ltB .i64 s.at' 64#64) := rfl
  rw [← e2]
  by_cases h : s.fits s.at' = true
  · simp only [if_pos h, MvS.mk2, MvS.one, upd_upd]
  · simp only [if_neg h, MvS.one]

def MvS.P (t : Tn) (b z m : W) (s : MvS) : Prop :=
  s.inv ∧ s.t = t ∧ s.by' = b ∧ s.size = z ∧ s.most = m ∧ ∀ j, s.l j = if j < s.i.toNat then mvcell t b z m (BitVec.ofNat 64 j) else 0#64

theorem MvS.P_next (t : Tn) (b z m : W) (s : MvS) (hP : s.P t b z m) (hg : s.go = true) : s.nxt.P t b z m := by
  obtain ⟨hi, rfl, rfl, rfl, rfl, hl⟩ := hP
  have hd := MvS.dec s hi hg
  have h' : s.i.toNat ≤ 64 := hi
  rw [MvS.go, ltB_nat (by omega) (by decide), decide_eq_true_eq] at hg
  have hg : s.i.toNat < 64 := hg
  have hix : ixN s.i = s.i.toNat := ixN_nat (by omega)
  have e2 : s.nxt.i.toNat = s.i.toNat + 1 := succ_nat (by omega)
  refine ⟨hd.1, rfl, rfl, rfl, rfl, fun j => ?_⟩
  rw [mv_next, e2, hix]
  simp only [upd, hl]
  by_cases h1 : j = s.i.toNat
  · subst h1; simp
  · by_cases h2 : j < s.i.toNat
    · have h3 : j < s.i.toNat + 1 := by omega
      simp [h1, h2, h3]
    · have h3 : ¬ j < s.i.toNat + 1 := by omega
      simp [h1, h2, h3]

theorem mvL_eq (t : Tn) (b z m : W) (j : Nat) (hj : j < 64) : mvL t b z m j = mvcell t b z m (BitVec.ofNat 64 j) := by
  unfold mvL
  have h0 : MvS.P t b z m ⟨t, b, z, m, 0#64, fun _ => 0#64⟩ := ⟨by show (0#64 : W).toNat ≤ 64; decide, rfl, rfl, rfl, rfl, fun j => by
    have e : (0#64 : W).toNat = 0 := rfl
    simp [e]⟩
  generalize (⟨t, b, z, m, 0#64, fun _ => 0#64⟩ : MvS) = s0 at h0 ⊢
  have hend := runN_inv (go := MvS.go) (next := MvS.nxt) (MvS.P t b z m) (MvS.P_next t b z m) 64 s0 h0
  have hdone := runN_done (go := MvS.go) (next := MvS.nxt) (inv := MvS.inv) (μ := MvS.mu) MvS.dec 64 s0 h0.1 (by simp only [MvS.mu]; omega)
  generalize runN MvS.go MvS.nxt 64 s0 = s at hend hdone ⊢
  obtain ⟨k1, _, _, _, _, k3⟩ := hend
  have h' : s.i.toNat ≤ 64 := k1
  rw [MvS.go, ltB_nat (by omega) (by decide), decide_eq_false_iff_not] at hdone
  have hdone : ¬ s.i.toNat < 64 := hdone
  have hlt : j < s.i.toNat := by omega
  rw [k3, if_pos hlt]

/-- The bits of what is made of marks, each off some bit of t, or 0. -/
theorem made_off {t : Tn} (ht : may t = true) (l : Nat → W) (k : Nat → Option Nat) (h : ∀ j, j < 64 → l j = match k j with | some i => mrk t i | none => 1#64) (j : Nat) (hj : j < 64) :
    (made l).v.getLsbD j = (match k j with | some i => t.v.getLsbD i | none => false) ∧ (made l).m.getLsbD j = (match k j with | some i => t.m.getLsbD i | none => false) := by
  rw [(made_bits _ j hj).1, (made_bits _ j hj).2, h j hj]
  cases k j with
  | none => exact ⟨by simp, by simp⟩
  | some i => rcases mk_cases ht i with ⟨h1, h2, h3⟩ | ⟨h1, h2, h3⟩ | ⟨h1, h2, h3⟩ <;> simp only [h1, h2, h3] <;> exact ⟨by decide, by decide⟩

theorem low_cell (t : Tn) (b z : W) (j : Nat) (hj : j < 64) (hb : -64 ≤ b.toInt ∧ b.toInt ≤ 64) :
    mvcell t b z (-1#64) (BitVec.ofNat 64 j) = if (j : Int) < z.toInt ∧ 0 ≤ (j : Int) + b.toInt ∧ (j : Int) + b.toInt < 64 then mrk t ((j : Int) + b.toInt).toNat else 1#64 := by
  have hj' := ofNat_int j (by omega)
  have e : (BitVec.ofNat 64 j + b).toInt = j + b.toInt := by rw [add_int] <;> rw [hj'] <;> omega
  have c0 : leB .i64 0#64 (-1#64) = false := by decide
  have z0 : (0#64 : W).toInt = 0 := rfl
  have z64 : (64#64 : W).toInt = 64 := rfl
  simp only [mvcell, c0, Bool.false_and, Bool.false_eq_true, if_false, lt_int, le_int, hj', e, z0, z64, Bool.and_eq_true, decide_eq_true_eq]
  by_cases h : (j : Int) < z.toInt ∧ 0 ≤ (j : Int) + b.toInt ∧ (j : Int) + b.toInt < 64
  · rw [if_pos ⟨⟨h.1, h.2.1⟩, h.2.2⟩, if_pos h, markB_eq]
    congr 1
    exact nat_of_int (by rw [e]; omega)
  · rw [if_neg (fun k => h ⟨k.1.1, k.1.2, k.2⟩), if_neg h]

theorem shr_eq (x : W) (n : Nat) : shrB .u64 x n = x >>> n := rfl

theorem ref_lsh {t : Tn} {n : W} (ht : may t = true) (h0 : 0 ≤ n.toInt) (h63 : n.toInt ≤ 63) : made (mvL t (-n) 64#64 (-1#64)) = tLsh t n := by
  have hn : n.toInt = (n.toNat : Int) := by
    have := nat_of_int (x := n) (n := n.toInt.toNat) (by omega); omega
  have hneg := neg_int (x := n) (by omega) (by omega)
  have z64 : (64#64 : W).toInt = 64 := rfl
  refine tn_ext fun j hj => ?_
  have := made_off ht (mvL t (-n) 64#64 (-1#64)) (fun j => if n.toNat ≤ j then some (j - n.toNat) else none) (fun j hj => by
    rw [mvL_eq _ _ _ _ j hj, low_cell t (-n) 64#64 j hj (by omega), hneg, z64]
    by_cases h : n.toNat ≤ j
    · rw [if_pos (by omega), if_pos h]
      have : ((j : Int) + -n.toInt).toNat = j - n.toNat := by omega
      rw [this]
    · rw [if_neg (by omega), if_neg h]) j hj
  rw [this.1, this.2]
  simp only [tLsh, shn, shn_eq, BitVec.getLsbD_shiftLeft, hj, decide_true, Bool.true_and]
  by_cases h : n.toNat ≤ j
  · have h2 : ¬ j < n.toNat := by omega
    simp [h, h2]
  · have h2 : j < n.toNat := by omega
    simp [h, h2]

theorem ref_rsh {t : Tn} {n : W} (ht : may t = true) (h0 : 0 ≤ n.toInt) (h63 : n.toInt ≤ 63) : made (mvL t n 64#64 (-1#64)) = tRsh t n := by
  have hn : n.toInt = (n.toNat : Int) := by
    have := nat_of_int (x := n) (n := n.toInt.toNat) (by omega); omega
  have z64 : (64#64 : W).toInt = 64 := rfl
  refine tn_ext fun j hj => ?_
  have := made_off ht (mvL t n 64#64 (-1#64)) (fun j => if j + n.toNat < 64 then some (j + n.toNat) else none) (fun j hj => by
    rw [mvL_eq _ _ _ _ j hj, low_cell t n 64#64 j hj (by omega), z64]
    by_cases h : j + n.toNat < 64
    · rw [if_pos (by omega), if_pos h]
      have : ((j : Int) + n.toInt).toNat = j + n.toNat := by omega
      rw [this]
    · rw [if_neg (by omega), if_neg h]) j hj
  rw [this.1, this.2]
  simp only [tRsh, shn, shn_eq, shr_eq, BitVec.getLsbD_ushiftRight]
  by_cases h : j + n.toNat < 64
  · simp [h, Nat.add_comm]
  · have e : ∀ x : W, x.getLsbD (n.toNat + j) = false := fun x => BitVec.getLsbD_of_ge _ _ (by omega)
    simp [h, e]

theorem low_bit (s : W) (hs : s.toNat < 64) (j : Nat) (hj : j < 64) : (low s).getLsbD j = decide (j < s.toNat) := by
  have e : low s = BitVec.ofNat 64 (2 ^ s.toNat - 1) := by
    unfold low shn
    rw [shn_eq]
    apply BitVec.eq_of_toNat_eq
    have hp : 2 ^ s.toNat < 2 ^ 64 := Nat.pow_lt_pow_right (by decide) hs
    have h1 : (1#64 <<< s.toNat : W).toNat = 2 ^ s.toNat := by
      rw [BitVec.toNat_shiftLeft]
      simp only [Nat.shiftLeft_eq]
      have : (1#64 : W).toNat = 1 := rfl
      rw [this, Nat.one_mul, Nat.mod_eq_of_lt hp]
    have h0 : 0 < 2 ^ s.toNat := Nat.two_pow_pos _
    rw [BitVec.toNat_sub_of_le (by rw [BitVec.le_def, h1]; exact h0), h1]
    simp only [BitVec.toNat_ofNat]
    have : (1#64 : W).toNat = 1 := rfl
    omega
  rw [e, BitVec.getLsbD_ofNat, Nat.testBit_two_pow_sub_one]
  simp [hj]

theorem ref_cut {t : Tn} {s : W} (ht : may t = true) (hs : s = 8#64 ∨ s = 16#64 ∨ s = 32#64 ∨ s = 64#64) : made (mvL t 0#64 s (-1#64)) = tCut t s := by
  have z0 : (0#64 : W).toInt = 0 := rfl
  have hsz : s.toInt = (s.toNat : Int) := by rcases hs with rfl | rfl | rfl | rfl <;> rfl
  refine tn_ext fun j hj => ?_
  have := made_off ht (mvL t 0#64 s (-1#64)) (fun j => if j < s.toNat then some j else none) (fun j hj => by
    rw [mvL_eq _ _ _ _ j hj, low_cell t 0#64 s j hj (by rw [z0]; omega), z0]
    by_cases h : j < s.toNat
    · rw [if_pos (by omega), if_pos h]
      simp
    · rw [if_neg (by omega), if_neg h]) j hj
  rw [this.1, this.2]
  have n1 : (!may t) = false := by rw [ht]; rfl
  by_cases h64 : s = 64#64
  · subst h64
    have e : tCut t 64#64 = t := by simp [tCut, Tn.mux, n1]
    have : (64#64 : W).toNat = 64 := rfl
    rw [e, this]
    simp [hj]
  · have sm : small s = true := by rcases hs with rfl | rfl | rfl | rfl <;> first | rfl | exact absurd rfl h64
    have n64 : (s == 64#64) = false := by simpa using h64
    have e : tCut t s = ⟨t.v &&& low s, t.m &&& low s⟩ := by simp only [tCut, Tn.mux, n1, n64, sm, cond_true, cond_false]
    have hlt : s.toNat < 64 := by rcases hs with rfl | rfl | rfl | rfl <;> first | decide | exact absurd rfl h64
    rw [e]
    simp only [BitVec.getLsbD_and, low_bit s hlt j hj]
    by_cases h : j < s.toNat <;> simp [h]

theorem sar32_bit (x : W) (n j : Nat) : (sar32 x n).getLsbD j = (decide (j < 32) && x.getLsbD (if n + j < 32 then n + j else 31)) := by
  have e : sar32 x n = (((x.setWidth 32).sshiftRight n).setWidth 64 : BitVec 64) := by
    show ((((x.setWidth 32).setWidth 32).sshiftRight n).signExtend 32).setWidth 64 = _
    rw [BitVec.setWidth_eq, BitVec.signExtend_eq]
  rw [e]
  simp only [BitVec.getLsbD_setWidth, BitVec.getLsbD_sshiftRight, BitVec.msb_eq_getLsbD_last]
  by_cases h : j < 32
  · have h1 : ¬ 32 ≤ j := by omega
    have h2 : j < 64 := by omega
    by_cases h3 : n + j < 32 <;> simp [h, h1, h2, h3]
  · have h1 : 32 ≤ j := by omega
    simp [h, h1]

theorem sar64_bit (x : W) (n j : Nat) (hj : j < 64) : (sar64 x n).getLsbD j = x.getLsbD (if n + j < 64 then n + j else 63) := by
  have e : sar64 x n = (x.sshiftRight n : BitVec 64) := by
    show ((x.setWidth 64).sshiftRight n).signExtend 64 = _
    rw [BitVec.setWidth_eq, BitVec.signExtend_eq]
  rw [e]
  simp only [BitVec.getLsbD_sshiftRight, BitVec.msb_eq_getLsbD_last]
  have h1 : ¬ 64 ≤ j := by omega
  by_cases h3 : n + j < 64 <;> simp [h1, h3]

theorem ref_arsh {t : Tn} {n s : W} (ht : may t = true) (hs : s = 32#64 ∨ s = 64#64) (h0 : 0 ≤ n.toInt) (h63 : n.toInt < s.toInt) : made (mvL t n s (s - 1#64)) = tArsh t n s := by
  have hsz : s.toInt = (s.toNat : Int) ∧ 1 ≤ s.toNat ∧ s.toNat ≤ 64 ∧ (s - 1#64).toInt = (s.toNat : Int) - 1 := by rcases hs with rfl | rfl <;> exact ⟨rfl, by decide, by decide, rfl⟩
  obtain ⟨q1, q2, q3, q4⟩ := hsz
  have hn : n.toInt = (n.toNat : Int) := by
    have := nat_of_int (x := n) (n := n.toInt.toNat) (by omega); omega
  have z0 : (0#64 : W).toInt = 0 := rfl
  have z64 : (64#64 : W).toInt = 64 := rfl
  refine tn_ext fun j hj => ?_
  have := made_off ht (mvL t n s (s - 1#64)) (fun j => if j < s.toNat then some (if n.toNat + j < s.toNat then n.toNat + j else s.toNat - 1) else none) (fun j hj => by
    rw [mvL_eq _ _ _ _ j hj]
    have hj' := ofNat_int j (by omega)
    have e : (BitVec.ofNat 64 j + n).toInt = j + n.toInt := by rw [add_int] <;> rw [hj'] <;> omega
    simp only [mvcell, lt_int, le_int, hj', e, z0, z64, q4, Bool.and_eq_true, decide_eq_true_eq]
    by_cases hp : n.toNat + j < s.toNat
    · rw [if_neg (by omega : ¬ (0 ≤ (s.toNat : Int) - 1 ∧ (s.toNat : Int) - 1 < (j : Int) + n.toInt)), e]
      rw [if_pos (by omega), if_pos (by omega : j < s.toNat), if_pos hp, markB_eq]
      congr 1
      exact nat_of_int (by rw [e]; omega)
    · rw [if_pos (by omega : (0 ≤ (s.toNat : Int) - 1 ∧ (s.toNat : Int) - 1 < (j : Int) + n.toInt)), q4]
      by_cases h : j < s.toNat
      · rw [if_pos (by omega), if_pos h, if_neg hp, markB_eq]
        congr 1
        exact nat_of_int (by rw [q4]; omega)
      · rw [if_neg (by omega), if_neg h]) j hj
  rw [this.1, this.2]
  rcases hs with rfl | rfl
  · have n1 : ((32#64 : W) == 32#64) = true := rfl
    have n2 : (32#64 : W).toNat = 32 := rfl
    simp only [tArsh, Tn.mux, n1, cond_true, sar32_bit, shn, shn_eq, n2]
    by_cases h : j < 32 <;> simp [h]
  · have n1 : ((64#64 : W) == 32#64) = false := rfl
    have n2 : (64#64 : W).toNat = 64 := rfl
    simp only [tArsh, Tn.mux, n1, cond_false, sar64_bit _ _ j hj, shn, shn_eq, n2]
    simp [hj]

/-! Products. -/

theorem refAdd_ok {a b : Tn} (ha : may a = true) (hb : may b = true) : refAdd a b = tAdd a b := by
  simp only [refAdd, Tn.mux, bad2_false ha hb, cond_false, ref_add ha hb]

theorem may_lsh {t : Tn} (ht : may t = true) (k : Nat) : may ⟨t.v <<< k, t.m <<< k⟩ = true := by
  simp only [may, beq_iff_eq]
  rw [← BitVec.shiftLeft_and_distrib, may_and ht]
  simp

theorem may_any (x : W) : may ⟨0#64, x⟩ = true := by simp [may]

theorem badSh_false {t : Tn} {n : W} (ht : may t = true) (h0 : 0 ≤ n.toInt) (h63 : n.toInt ≤ 63) : badSh t n = false := by
  have z0 : (0#64 : W).toInt = 0 := rfl
  have z63 : (63#64 : W).toInt = 63 := rfl
  simp only [badSh, ht, lt_int, z0, z63, Bool.not_true, Bool.false_or, Bool.or_eq_false_iff, decide_eq_false_iff_not]
  omega

theorem mus_up {s : MuS} (hb : may s.b = true) (hi : s.i.toNat < 64) : s.up = ⟨s.b.v <<< s.i.toNat, s.b.m <<< s.i.toNat⟩ := by
  have h := int_of_nat (x := s.i) (by omega)
  have bs := badSh_false (t := s.b) (n := s.i) hb (by omega) (by omega)
  unfold MuS.up
  simp only [Tn.mux, bs, cond_false]
  rw [ref_lsh hb (by omega) (by omega)]
  simp only [tLsh, shn, shn_eq]

theorem mu_next {a b : Tn} (ha : may a = true) (hb : may b = true) (s : Tn) (hs : may s = true) (k : Nat) (hk : k < 64) :
    MuS.nxt ⟨a, b, s, BitVec.ofNat 64 k⟩ = ⟨a, b, (MulS.next ⟨⟨a.v >>> k, a.m >>> k⟩, ⟨b.v <<< k, b.m <<< k⟩, s⟩).s, BitVec.ofNat 64 k + 1#64⟩ ∧
    MulS.next ⟨⟨a.v >>> k, a.m >>> k⟩, ⟨b.v <<< k, b.m <<< k⟩, s⟩ = ⟨⟨a.v >>> (k + 1), a.m >>> (k + 1)⟩, ⟨b.v <<< (k + 1), b.m <<< (k + 1)⟩, (MulS.next ⟨⟨a.v >>> k, a.m >>> k⟩, ⟨b.v <<< k, b.m <<< k⟩, s⟩).s⟩ := by
  have hkn : (BitVec.ofNat 64 k : W).toNat = k := by simp; omega
  have one : ∀ x : W, (x >>> k) &&& 1#64 = if x.getLsbD k then 1#64 else 0#64 := by
    intro x
    apply BitVec.eq_of_getLsbD_eq
    intro j hj
    simp only [BitVec.getLsbD_and, BitVec.getLsbD_ushiftRight, BitVec.getLsbD_one]
    by_cases h : j = 0
    · subst h; cases x.getLsbD k <;> simp
    · have : ¬ 0 = j := fun e => h e.symm
      cases x.getLsbD k <;> simp [h]
  have hany : MulS.any ⟨⟨a.v >>> k, a.m >>> k⟩, ⟨b.v <<< k, b.m <<< k⟩, s⟩ = a.m.getLsbD k := by
    show ((a.m >>> k) &&& 1#64 == 1#64) = _
    rw [one]; cases a.m.getLsbD k <;> rfl
  have hzero : MulS.zero ⟨⟨a.v >>> k, a.m >>> k⟩, ⟨b.v <<< k, b.m <<< k⟩, s⟩ = !a.v.getLsbD k := by
    show ((a.v >>> k) &&& 1#64 == 0#64) = _
    rw [one]; cases a.v.getLsbD k <;> rfl
  have hup : ∀ t, MulS.up ⟨⟨a.v >>> k, a.m >>> k⟩, ⟨b.v <<< k, b.m <<< k⟩, s⟩ t = ⟨⟨a.v >>> (k + 1), a.m >>> (k + 1)⟩, ⟨b.v <<< (k + 1), b.m <<< (k + 1)⟩, t⟩ := by
    intro t
    simp only [MulS.up, shr1, BitVec.shiftRight_add, BitVec.shiftLeft_add]
  have hU : MuS.up ⟨a, b, s, BitVec.ofNat 64 k⟩ = ⟨b.v <<< k, b.m <<< k⟩ := by
    have := mus_up (s := ⟨a, b, s, BitVec.ofNat 64 k⟩) hb (by show (BitVec.ofNat 64 k : W).toNat < 64; omega)
    rw [this]
    simp only [hkn]
  have hm : MuS.m ⟨a, b, s, BitVec.ofNat 64 k⟩ = mrk a k := by
    show markB a (BitVec.ofNat 64 k) = _
    rw [markB_eq, hkn]
  have mup := may_lsh hb k
  constructor
  · rw [MulS.next_eq, hany, hzero]
    unfold MuS.nxt MuS.s1 MuS.is2 MuS.is3 MuS.anyUp MuS.put
    simp only [hm, hU]
    rcases mk_cases ha k with ⟨h1, h2, h3⟩ | ⟨h1, h2, h3⟩ | ⟨h1, h2, h3⟩
    · have c1 : ((3#64 : W) == 2#64) = false := rfl
      have c2 : ((3#64 : W) == 3#64) = true := rfl
      rw [h1, h2, h3, c1, c2]
      simp only [Bool.false_eq_true, if_false, if_true, hup]
      rw [refAdd_ok hs (may_any _), addN_ok hs (may_any _)]
    · have c1 : ((2#64 : W) == 2#64) = true := rfl
      have c2 : ((2#64 : W) == 3#64) = false := rfl
      rw [h1, h2, h3, c1, c2]
      simp only [Bool.false_eq_true, Bool.not_true, if_false, if_true, hup]
      rw [refAdd_ok hs mup, addN_ok hs mup]
    · have c1 : ((1#64 : W) == 2#64) = false := rfl
      have c2 : ((1#64 : W) == 3#64) = false := rfl
      rw [h1, h2, h3, c1, c2]
      simp only [Bool.false_eq_true, Bool.not_false, if_false, if_true, hup]
  · rw [MulS.next_eq, hany, hzero]
    split
    · rw [hup]
    · split <;> rw [hup]

theorem may_next {s : MulS} (hs : may s.s = true) (hb : may s.b = true) : may s.next.s = true := by
  rw [MulS.next_eq]
  split
  · show may (addN _ _) = true
    rw [addN_ok hs (may_any _)]; exact may_tAdd _ _
  · split
    · exact hs
    · show may (addN _ _) = true
      rw [addN_ok hs hb]; exact may_tAdd _ _

theorem mul_same {a b : Tn} (ha : may a = true) (hb : may b = true) : ∀ (m k : Nat) (s : Tn), k + m = 64 → may s = true →
    (MulS.fin m ⟨⟨a.v >>> k, a.m >>> k⟩, ⟨b.v <<< k, b.m <<< k⟩, s⟩).s = (runN MuS.go MuS.nxt m ⟨a, b, s, BitVec.ofNat 64 k⟩).s := by
  intro m
  induction m with
  | zero => intro k s _ _; rfl
  | succ m ih =>
    intro k s hk hs
    have hk64 : k < 64 := by omega
    have hkn : (BitVec.ofNat 64 k : W).toNat = k := by simp; omega
    have hgo : MuS.go ⟨a, b, s, BitVec.ofNat 64 k⟩ = true := by
      show ltB .i64 (BitVec.ofNat 64 k) 64#64 = true
      have z64 : (64#64 : W).toInt = 64 := rfl
      rw [lt_int, ofNat_int k (by omega), z64, decide_eq_true_eq]; omega
    obtain ⟨n1, n2⟩ := mu_next ha hb s hs k hk64
    have hs' := may_next (s := ⟨⟨a.v >>> k, a.m >>> k⟩, ⟨b.v <<< k, b.m <<< k⟩, s⟩) hs (may_lsh hb k)
    have hsucc : (BitVec.ofNat 64 k + 1#64 : W) = BitVec.ofNat 64 (k + 1) := by
      apply BitVec.eq_of_toNat_eq
      rw [succ_nat (by omega), hkn]; simp; omega
    rw [runN_go hgo, n1, hsucc, ← ih (k + 1) _ (by omega) hs', MulS.fin]
    cases hg : MulS.go ⟨⟨a.v >>> k, a.m >>> k⟩, ⟨b.v <<< k, b.m <<< k⟩, s⟩ with
    | true => simp only [cond_true]; rw [← n2]
    | false =>
      -- nothing is left of a: the sum stays
      simp only [cond_false]
      have hz : (a.v >>> k) ||| (a.m >>> k) = 0#64 := by
        simpa [MulS.go] using hg
      have hv : a.v >>> k = 0#64 := by
        apply BitVec.eq_of_getLsbD_eq; intro i hi
        have := congrArg (fun x : W => x.getLsbD i) hz
        simp only [BitVec.getLsbD_or, BitVec.getLsbD_zero, Bool.or_eq_false_iff] at this
        rw [this.1]; simp
      have hm : a.m >>> k = 0#64 := by
        apply BitVec.eq_of_getLsbD_eq; intro i hi
        have := congrArg (fun x : W => x.getLsbD i) hz
        simp only [BitVec.getLsbD_or, BitVec.getLsbD_zero, Bool.or_eq_false_iff] at this
        rw [this.2]; simp
      have st : (MulS.next ⟨⟨a.v >>> k, a.m >>> k⟩, ⟨b.v <<< k, b.m <<< k⟩, s⟩).s = s := by
        rw [MulS.next_eq]
        have e1 : MulS.any ⟨⟨a.v >>> k, a.m >>> k⟩, ⟨b.v <<< k, b.m <<< k⟩, s⟩ = false := by
          show ((a.m >>> k) &&& 1#64 == 1#64) = false
          rw [hm]; decide
        have e2 : MulS.zero ⟨⟨a.v >>> k, a.m >>> k⟩, ⟨b.v <<< k, b.m <<< k⟩, s⟩ = true := by
          show ((a.v >>> k) &&& 1#64 == 0#64) = true
          rw [hv]; decide
        rw [e1, e2]; rfl
      have stop : MulS.go ⟨⟨a.v >>> (k + 1), a.m >>> (k + 1)⟩, ⟨b.v <<< (k + 1), b.m <<< (k + 1)⟩, s⟩ = false := by
        show ((a.v >>> (k + 1)) ||| (a.m >>> (k + 1)) != 0#64) = false
        rw [BitVec.shiftRight_add, BitVec.shiftRight_add, hv, hm]; decide
      rw [st]
      cases m with
      | zero => rfl
      | succ m => rw [MulS.fin, stop]; rfl

theorem ref_mul {a b : Tn} (ha : may a = true) (hb : may b = true) : refMul a b = tMul a b := by
  have := mul_same ha hb 64 0 ⟨0#64, 0#64⟩ (by omega) (may_of _)
  simp only [BitVec.ushiftRight_zero, BitVec.shiftLeft_zero] at this
  exact this.symm

end Go.Rf
