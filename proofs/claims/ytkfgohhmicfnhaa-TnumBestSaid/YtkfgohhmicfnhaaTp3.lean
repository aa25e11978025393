/- Laws of bits: what is done bit by bit is the document's; sums and differences are, too. -/
import Derived.Test.YtkfgohhmicfnhaaTp2
set_option linter.unusedVariables false
set_option linter.unusedSimpArgs false
namespace Go.Rf

def BOut.P (op : W) (a b : Tn) (s : BOut) : Prop :=
  s.inv ∧ s.op = op ∧ s.a = a ∧ s.b = b ∧ ∀ j, s.l j = if j < s.i.toNat then bcell op (mrk a j) (mrk b j) else 0#64

theorem BOut.P_next (op : W) (a b : Tn) (s : BOut) (hP : s.P op a b) (hg : s.go = true) : s.next.P op a b := by
  obtain ⟨hi, rfl, rfl, rfl, hl⟩ := hP
  have hd := BOut.dec s hi hg
  have h' : s.i.toNat ≤ 64 := hi
  rw [BOut.go, ltB_nat (by omega) (by decide), decide_eq_true_eq] at hg
  have hg : s.i.toNat < 64 := hg
  obtain ⟨k1, k2, k3, k4⟩ := BIn.keep 4 ⟨s.op, s.a, s.b, s.i, 0#64, s.l⟩
  have hix : ixN s.i = s.i.toNat := ixN_nat (by omega)
  have hrun := bin_run s.op s.a s.b s.i s.l (by rw [hix, hl]; simp)
  have e : s.next.i = s.i + 1#64 := by unfold BOut.next BOut.inn; simp only [k4]
  have e2 : s.next.i.toNat = s.i.toNat + 1 := by rw [e]; exact succ_nat (by omega)
  refine ⟨hd.1, k1, k2, k3, fun j => ?_⟩
  have e3 : s.next.l = upd s.l (ixN s.i) (bcell s.op (markB s.a s.i) (markB s.b s.i)) := hrun
  rw [e3, e2, hix, markB_eq, markB_eq]
  simp only [upd, hl]
  by_cases h1 : j = s.i.toNat
  · subst h1; simp
  · by_cases h2 : j < s.i.toNat
    · have h3 : j < s.i.toNat + 1 := by omega
      simp [h1, h2, h3]
    · have h3 : ¬ j < s.i.toNat + 1 := by omega
      simp [h1, h2, h3]

theorem bitsL_eq (op : W) (a b : Tn) (j : Nat) (hj : j < 64) : bitsL op a b j = bcell op (mrk a j) (mrk b j) := by
  unfold bitsL
  have h0 : BOut.P op a b ⟨op, a, b, 0#64, fun _ => 0#64⟩ := ⟨by show (0#64 : W).toNat ≤ 64; decide, rfl, rfl, rfl, fun j => by
    have e : (0#64 : W).toNat = 0 := rfl
    simp [e]⟩
  generalize (⟨op, a, b, 0#64, fun _ => 0#64⟩ : BOut) = s0 at h0 ⊢
  have hend := runN_inv (go := BOut.go) (next := BOut.next) (BOut.P op a b) (BOut.P_next op a b) 64 s0 h0
  have hdone := runN_done (go := BOut.go) (next := BOut.next) (inv := BOut.inv) (μ := BOut.mu) BOut.dec 64 s0 h0.1 (by simp only [BOut.mu]; omega)
  generalize runN BOut.go BOut.next 64 s0 = s at hend hdone ⊢
  obtain ⟨k1, _, _, _, k3⟩ := hend
  have h' : s.i.toNat ≤ 64 := k1
  rw [BOut.go, ltB_nat (by omega) (by decide), decide_eq_false_iff_not] at hdone
  have hdone : ¬ s.i.toNat < 64 := hdone
  have hlt : j < s.i.toNat := by omega
  rw [k3, if_pos hlt]

theorem mk_cases {t : Tn} (h : may t = true) (j : Nat) : (t.m.getLsbD j = true ∧ t.v.getLsbD j = false ∧ mrk t j = 3#64) ∨ (t.m.getLsbD j = false ∧ t.v.getLsbD j = true ∧ mrk t j = 2#64) ∨ (t.m.getLsbD j = false ∧ t.v.getLsbD j = false ∧ mrk t j = 1#64) := by
  have := may_bit h j
  unfold mrk
  cases hm : t.m.getLsbD j <;> cases hv : t.v.getLsbD j <;> simp_all

theorem ref_and {a b : Tn} (ha : may a = true) (hb : may b = true) : made (bitsL 0#64 a b) = tAnd a b := by
  refine tn_ext fun j hj => ?_
  rw [(made_bits _ j hj).1, (made_bits _ j hj).2, bitsL_eq _ _ _ j hj]
  simp only [tAnd, BitVec.getLsbD_and, BitVec.getLsbD_or, BitVec.getLsbD_not, hj, decide_true, Bool.true_and]
  rcases mk_cases ha j with ⟨h1, h2, h3⟩ | ⟨h1, h2, h3⟩ | ⟨h1, h2, h3⟩ <;> rcases mk_cases hb j with ⟨h4, h5, h6⟩ | ⟨h4, h5, h6⟩ | ⟨h4, h5, h6⟩ <;>
    rw [h1, h2, h3, h4, h5, h6] <;> exact ⟨by kernel_rfl, by kernel_rfl⟩

theorem ref_or {a b : Tn} (ha : may a = true) (hb : may b = true) : made (bitsL 1#64 a b) = tOr a b := by
  refine tn_ext fun j hj => ?_
  rw [(made_bits _ j hj).1, (made_bits _ j hj).2, bitsL_eq _ _ _ j hj]
  simp only [tOr, BitVec.getLsbD_and, BitVec.getLsbD_or, BitVec.getLsbD_not, hj, decide_true, Bool.true_and]
  rcases mk_cases ha j with ⟨h1, h2, h3⟩ | ⟨h1, h2, h3⟩ | ⟨h1, h2, h3⟩ <;> rcases mk_cases hb j with ⟨h4, h5, h6⟩ | ⟨h4, h5, h6⟩ | ⟨h4, h5, h6⟩ <;>
    rw [h1, h2, h3, h4, h5, h6] <;> exact ⟨by kernel_rfl, by kernel_rfl⟩

theorem ref_xor {a b : Tn} (ha : may a = true) (hb : may b = true) : made (bitsL 2#64 a b) = tXor a b := by
  refine tn_ext fun j hj => ?_
  rw [(made_bits _ j hj).1, (made_bits _ j hj).2, bitsL_eq _ _ _ j hj]
  simp only [tXor, fit, BitVec.getLsbD_and, BitVec.getLsbD_or, BitVec.getLsbD_xor, BitVec.getLsbD_not, hj, decide_true, Bool.true_and]
  rcases mk_cases ha j with ⟨h1, h2, h3⟩ | ⟨h1, h2, h3⟩ | ⟨h1, h2, h3⟩ <;> rcases mk_cases hb j with ⟨h4, h5, h6⟩ | ⟨h4, h5, h6⟩ | ⟨h4, h5, h6⟩ <;>
    rw [h1, h2, h3, h4, h5, h6] <;> exact ⟨by kernel_rfl, by kernel_rfl⟩

/-! Carries. -/

/-- One round of Carried, on one cell: what the bit may be, what the next carry may be. -/
def cskip (p q c n : W) : Bool := (p &&& bitN (remB .i64 n 2#64) == 0#64) || (q &&& bitN (remB .i64 (quoB .i64 n 2#64) 2#64) == 0#64) || (c &&& bitN (quoB .i64 n 4#64) == 0#64)
def cx (n : W) : W := remB .i64 n 2#64
def cy (n : W) : W := remB .i64 (quoB .i64 n 2#64) 2#64
def cc (n : W) : W := quoB .i64 n 4#64
def cover (less : Bool) (n : W) : W := if less then (if ltB .i64 (cx n) (cy n + cc n) then 1#64 else 0#64) else quoB .i64 (cx n + cy n + cc n) 2#64
def cstep (less : Bool) (p q c n : W) (x : W × W) : W × W :=
  if cskip p q c n then x else (x.1 ||| bitN (cx n + cy n + cc n), x.2 ||| bitN (cover less n))
def ccell (less : Bool) (p q c : W) : W × W :=
  cstep less p q c 7#64 (cstep less p q c 6#64 (cstep less p q c 5#64 (cstep less p q c 4#64 (cstep less p q c 3#64 (cstep less p q c 2#64 (cstep less p q c 1#64 (cstep less p q c 0#64 (0#64, 0#64))))))))

theorem cin_next (a b : Tn) (less : Bool) (c i n : W) (l : Nat → W) (x : W × W) :
    CIn.nxt ⟨a, b, less, c, i, x.2, n, upd l (ixN i) x.1⟩ = ⟨a, b, less, c, i, (cstep less (markB a i) (markB b i) c n x).2, n + 1#64, upd l (ixN i) (cstep less (markB a i) (markB b i) c n x).1⟩ := by
  have hs : CIn.skip ⟨a, b, less, c, i, x.2, n, upd l (ixN i) x.1⟩ = cskip (markB a i) (markB b i) c n := rfl
  unfold CIn.nxt cstep
  rw [hs]
  by_cases h : cskip (markB a i) (markB b i) c n = true
  · simp only [if_pos h]
  · simp only [if_neg h, CIn.put, upd_same, upd_upd]
    rfl

theorem cin_run (a b : Tn) (less : Bool) (c i : W) (l : Nat → W) (h0 : l (ixN i) = 0#64) :
    (runN CIn.go CIn.nxt 8 ⟨a, b, less, c, i, 0#64, 0#64, l⟩).l = upd l (ixN i) (ccell less (markB a i) (markB b i) c).1 ∧
    (runN CIn.go CIn.nxt 8 ⟨a, b, less, c, i, 0#64, 0#64, l⟩).next = (ccell less (markB a i) (markB b i) c).2 := by
  have e : (⟨a, b, less, c, i, 0#64, 0#64, l⟩ : CIn) = ⟨a, b, less, c, i, ((0#64, 0#64) : W × W).2, 0#64, upd l (ixN i) ((0#64, 0#64) : W × W).1⟩ := by
    simp only [← h0, upd_self]
  have g : ∀ (n y : W) (m : Nat → W), ltB .i64 n 8#64 = true → CIn.go ⟨a, b, less, c, i, y, n, m⟩ = true := fun n y m h => h
  rw [e]
  rw [runN_go (g 0#64 _ _ (by decide)), cin_next, runN_go (g _ _ _ (by decide)), cin_next, runN_go (g _ _ _ (by decide)), cin_next, runN_go (g _ _ _ (by decide)), cin_next,
    runN_go (g _ _ _ (by decide)), cin_next, runN_go (g _ _ _ (by decide)), cin_next, runN_go (g _ _ _ (by decide)), cin_next, runN_go (g _ _ _ (by decide)), cin_next]
  exact ⟨rfl, rfl⟩

/-- The least and the greatest carry, as a mark. -/
def cmk (lo hi : Bool) : W := if lo then 2#64 else if hi then 3#64 else 1#64

def mkB (m v : Bool) : W := if m then 3#64 else if v then 2#64 else 1#64
def alt (x y z : Bool) : Bool := x && y || x && z || y && z

theorem car_add : ∀ am av bm bv lo hi : Bool, (av && am) = false → (bv && bm) = false → (lo && !hi) = false →
    ccell false (mkB am av) (mkB bm bv) (cmk lo hi) = (mkB (am || bm || (lo ^^ hi)) (av ^^ (bv ^^ lo)), cmk (alt av bv lo) (alt (av || am) (bv || bm) hi)) := by
  intro am av bm bv lo hi h1 h2 h3
  cases am <;> cases av <;> first | (simp at h1; done) | skip
  all_goals (cases bm <;> cases bv <;> first | (simp at h2; done) | skip)
  all_goals (cases lo <;> cases hi <;> first | (simp at h3; done) | skip)
  all_goals kernel_rfl

theorem car_sub : ∀ am av bm bv lo hi : Bool, (av && am) = false → (bv && bm) = false → (lo && !hi) = false →
    ccell true (mkB am av) (mkB bm bv) (cmk lo hi) = (mkB (am || bm || (lo ^^ hi)) (av ^^ (bv ^^ lo)), cmk (alt (!(av || am)) bv lo) (alt (!av) (bv || bm) hi)) := by
  intro am av bm bv lo hi h1 h2 h3
  cases am <;> cases av <;> first | (simp at h1; done) | skip
  all_goals (cases bm <;> cases bv <;> first | (simp at h2; done) | skip)
  all_goals (cases lo <;> cases hi <;> first | (simp at h3; done) | skip)
  all_goals kernel_rfl

/-- The least and the greatest carries of a sum, or a difference. -/
structure Cars (less : Bool) (a b : Tn) (lo hi : Nat → Bool) : Prop where
  l0 : lo 0 = false
  h0 : hi 0 = false
  le : ∀ j, (lo j && !hi j) = false
  sl : ∀ j, lo (j + 1) = if less then alt (!(a.v.getLsbD j || a.m.getLsbD j)) (b.v.getLsbD j) (lo j) else alt (a.v.getLsbD j) (b.v.getLsbD j) (lo j)
  sh : ∀ j, hi (j + 1) = if less then alt (!a.v.getLsbD j) (b.v.getLsbD j || b.m.getLsbD j) (hi j) else alt (a.v.getLsbD j || a.m.getLsbD j) (b.v.getLsbD j || b.m.getLsbD j) (hi j)

theorem Cars.cell {less : Bool} {a b : Tn} {lo hi : Nat → Bool} (h : Cars less a b lo hi) (ha : may a = true) (hb : may b = true) (j : Nat) :
    ccell less (mrk a j) (mrk b j) (cmk (lo j) (hi j)) = (mkB (a.m.getLsbD j || b.m.getLsbD j || (lo j ^^ hi j)) (a.v.getLsbD j ^^ (b.v.getLsbD j ^^ lo j)), cmk (lo (j + 1)) (hi (j + 1))) := by
  rw [h.sl, h.sh]
  cases less with
  | false => exact car_add _ _ _ _ _ _ (may_bit ha j) (may_bit hb j) (h.le j)
  | true => exact car_sub _ _ _ _ _ _ (may_bit ha j) (may_bit hb j) (h.le j)

def COut.P (less : Bool) (a b : Tn) (lo hi : Nat → Bool) (s : COut) : Prop :=
  s.inv ∧ s.a = a ∧ s.b = b ∧ s.less = less ∧ s.carry = cmk (lo s.i.toNat) (hi s.i.toNat) ∧
    ∀ j, s.l j = if j < s.i.toNat then mkB (a.m.getLsbD j || b.m.getLsbD j || (lo j ^^ hi j)) (a.v.getLsbD j ^^ (b.v.getLsbD j ^^ lo j)) else 0#64

theorem COut.P_next {less : Bool} {a b : Tn} {lo hi : Nat → Bool} (hc : Cars less a b lo hi) (ha : may a = true) (hb : may b = true) (s : COut) (hP : s.P less a b lo hi) (hg : s.go = true) : s.nxt.P less a b lo hi := by
  obtain ⟨hi', rfl, rfl, rfl, hcar, hl⟩ := hP
  have hd := COut.dec s hi' hg
  have h' : s.i.toNat ≤ 64 := hi'
  rw [COut.go, ltB_nat (by omega) (by decide), decide_eq_true_eq] at hg
  have hg : s.i.toNat < 64 := hg
  obtain ⟨k1, k2, k3, _, k4⟩ := CIn.keep 8 ⟨s.a, s.b, s.less, s.carry, s.i, 0#64, 0#64, s.l⟩
  have hix : ixN s.i = s.i.toNat := ixN_nat (by omega)
  have hrun := cin_run s.a s.b s.less s.carry s.i s.l (by rw [hix, hl]; simp)
  rw [markB_eq, markB_eq, hcar, hc.cell ha hb] at hrun
  have e : s.nxt.i = s.i + 1#64 := by unfold COut.nxt COut.inn; simp only [k4]
  have e2 : s.nxt.i.toNat = s.i.toNat + 1 := by rw [e]; exact succ_nat (by omega)
  refine ⟨hd.1, k1, k2, k3, ?_, fun j => ?_⟩
  · rw [e2]
    show (COut.inn s).next = _
    unfold COut.inn
    rw [hcar]
    exact hrun.2
  · have e3 : s.nxt.l = upd s.l (ixN s.i) (mkB (s.a.m.getLsbD s.i.toNat || s.b.m.getLsbD s.i.toNat || (lo s.i.toNat ^^ hi s.i.toNat)) (s.a.v.getLsbD s.i.toNat ^^ (s.b.v.getLsbD s.i.toNat ^^ lo s.i.toNat))) := by
      show (COut.inn s).l = _
      unfold COut.inn
      rw [hcar]
      exact hrun.1
    rw [e3, e2, hix]
    simp only [upd, hl]
    by_cases h1 : j = s.i.toNat
    · subst h1; simp
    · by_cases h2 : j < s.i.toNat
      · have h3 : j < s.i.toNat + 1 := by omega
        simp [h1, h2, h3]
      · have h3 : ¬ j < s.i.toNat + 1 := by omega
        simp [h1, h2, h3]

theorem carL_eq {less : Bool} {a b : Tn} {lo hi : Nat → Bool} (hc : Cars less a b lo hi) (ha : may a = true) (hb : may b = true) (j : Nat) (hj : j < 64) :
    carL a b less j = mkB (a.m.getLsbD j || b.m.getLsbD j || (lo j ^^ hi j)) (a.v.getLsbD j ^^ (b.v.getLsbD j ^^ lo j)) := by
  unfold carL
  have h0 : COut.P less a b lo hi ⟨a, b, less, 1#64, 0#64, fun _ => 0#64⟩ := ⟨by show (0#64 : W).toNat ≤ 64; decide, rfl, rfl, rfl, by
    have e : (0#64 : W).toNat = 0 := rfl
    simp only [e, hc.l0, hc.h0]; rfl, fun j => by
    have e : (0#64 : W).toNat = 0 := rfl
    simp [e]⟩
  generalize (⟨a, b, less, 1#64, 0#64, fun _ => 0#64⟩ : COut) = s0 at h0 ⊢
  have hend := runN_inv (go := COut.go) (next := COut.nxt) (COut.P less a b lo hi) (COut.P_next hc ha hb) 64 s0 h0
  have hdone := runN_done (go := COut.go) (next := COut.nxt) (inv := COut.inv) (μ := COut.mu) COut.dec 64 s0 h0.1 (by simp only [COut.mu]; omega)
  generalize runN COut.go COut.nxt 64 s0 = s at hend hdone ⊢
  obtain ⟨k1, _, _, _, _, k3⟩ := hend
  have h' : s.i.toNat ≤ 64 := k1
  rw [COut.go, ltB_nat (by omega) (by decide), decide_eq_false_iff_not] at hdone
  have hdone : ¬ s.i.toNat < 64 := hdone
  have hlt : j < s.i.toNat := by omega
  rw [k3, if_pos hlt]

theorem mkB_is (m v : Bool) : (mkB m v == 2#64) = (!m && v) ∧ (mkB m v == 3#64) = m := by cases m <;> cases v <;> exact ⟨by decide, by decide⟩

theorem carry_s (x y : W) (j : Nat) : BitVec.carry (j + 1) x y false = alt (x.getLsbD j) (y.getLsbD j) (BitVec.carry j x y false) := by
  rw [BitVec.carry_succ]
  cases x.getLsbD j <;> cases y.getLsbD j <;> cases BitVec.carry j x y false <;> rfl

theorem bor_s (x y : W) (j : Nat) : bor (j + 1) x y = alt (!x.getLsbD j) (y.getLsbD j) (bor j x y) := by
  have key : ∀ z : W, z.toNat % 2 ^ (j + 1) = z.toNat % 2 ^ j + 2 ^ j * (z.getLsbD j).toNat := by
    intro z
    rw [Nat.mod_pow_succ]
    have hb : z.getLsbD j = decide (z.toNat / 2 ^ j % 2 = 1) := Nat.testBit_eq_decide_div_mod_eq
    rw [hb]
    rcases Nat.mod_two_eq_zero_or_one (z.toNat / 2 ^ j) with h | h <;> simp [h]
  have h1 := Nat.mod_lt x.toNat (Nat.two_pow_pos j)
  have h2 := Nat.mod_lt y.toNat (Nat.two_pow_pos j)
  simp only [bor, key]
  generalize x.toNat % 2 ^ j = p at *
  generalize y.toNat % 2 ^ j = q at *
  generalize 2 ^ j = m at *
  cases x.getLsbD j <;> cases y.getLsbD j <;> simp [alt] <;> omega

theorem ref_add {a b : Tn} (ha : may a = true) (hb : may b = true) : made (carL a b false) = tAdd a b := by
  have hc : Cars false a b (fun j => BitVec.carry j a.v b.v false) (fun j => BitVec.carry j (a.v ||| a.m) (b.v ||| b.m) false) := by
    refine ⟨by simp [BitVec.carry_zero], by simp [BitVec.carry_zero], fun j => ?_, fun j => by simpa using carry_s _ _ _, fun j => by simpa using carry_s (a.v ||| a.m) (b.v ||| b.m) j⟩
    have := carry_mono (x := a.v) (x' := a.v ||| a.m) (y := b.v) (y' := b.v ||| b.m) (fun i h => by simp [h]) (fun i h => by simp [h]) j
    cases h1 : BitVec.carry j a.v b.v false <;> simp_all
  have e : a.v + b.v + a.m + b.m = (a.v ||| a.m) + (b.v ||| b.m) := by
    rw [← may_add ha, ← may_add hb]; ac_rfl
  refine tn_ext fun j hj => ?_
  rw [(made_bits _ j hj).1, (made_bits _ j hj).2, carL_eq hc ha hb j hj, (mkB_is _ _).1, (mkB_is _ _).2]
  simp only [tAdd, fit, BitVec.getLsbD_and, BitVec.getLsbD_or, BitVec.getLsbD_xor, BitVec.getLsbD_not, hj, decide_true, Bool.true_and, e, bit_add _ _ j hj]
  generalize BitVec.carry j a.v b.v false = p
  generalize BitVec.carry j (a.v ||| a.m) (b.v ||| b.m) false = q
  cases a.v.getLsbD j <;> cases a.m.getLsbD j <;> cases b.v.getLsbD j <;> cases b.m.getLsbD j <;> cases p <;> cases q <;> exact ⟨rfl, rfl⟩

theorem ref_sub {a b : Tn} (ha : may a = true) (hb : may b = true) : made (carL a b true) = tSub a b := by
  have hc : Cars true a b (fun j => bor j (a.v ||| a.m) b.v) (fun j => bor j a.v (b.v ||| b.m)) := by
    refine ⟨by simp [bor, Nat.mod_one], by simp [bor, Nat.mod_one], fun j => ?_, fun j => by simpa using bor_s (a.v ||| a.m) b.v j, fun j => by simpa using bor_s a.v (b.v ||| b.m) j⟩
    have := bor_mono (x := a.v ||| a.m) (x' := a.v) (y := b.v) (y' := b.v ||| b.m) (fun i h => by simp [h]) (fun i h => by simp [h]) j
    cases h1 : bor j (a.v ||| a.m) b.v <;> simp_all
  have e1 : a.v - b.v + a.m = (a.v ||| a.m) - b.v := by
    rw [← may_add ha, BitVec.sub_add_comm]
  have e2 : a.v - b.v - b.m = a.v - (b.v ||| b.m) := by
    rw [← may_add hb, BitVec.sub_sub]
  refine tn_ext fun j hj => ?_
  rw [(made_bits _ j hj).1, (made_bits _ j hj).2, carL_eq hc ha hb j hj, (mkB_is _ _).1, (mkB_is _ _).2]
  have c3 := bor_mono (x := a.v ||| a.m) (x' := a.v) (y := b.v) (y' := b.v) (fun j hj => by simp [hj]) (fun _ h => h) j
  have c4 := bor_mono (x := a.v) (x' := a.v) (y := b.v) (y' := b.v ||| b.m) (fun _ h => h) (fun j hj => by simp [hj]) j
  simp only [tSub, fit, BitVec.getLsbD_and, BitVec.getLsbD_or, BitVec.getLsbD_xor, BitVec.getLsbD_not, hj, decide_true, Bool.true_and, e1, e2, bit_sub _ _ j hj]
  generalize bor j (a.v ||| a.m) b.v = p at *
  generalize bor j a.v (b.v ||| b.m) = q at *
  generalize bor j a.v b.v = r at *
  cases a.v.getLsbD j <;> cases a.m.getLsbD j <;> cases b.v.getLsbD j <;> cases b.m.getLsbD j <;> cases p <;> cases q <;> cases r <;> first | exact ⟨rfl, rfl⟩ | (simp at c3 c4; done)

end Go.Rf
