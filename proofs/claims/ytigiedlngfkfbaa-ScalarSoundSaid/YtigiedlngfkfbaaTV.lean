/- Tnums, plain: shifts, and what is done bit by bit. -/
import Derived.Test.YtigiedlngfkfbaaTT
set_option linter.unusedVariables false
set_option linter.unusedSimpArgs false
namespace Go.Rf.T

def AlS.P (z : Nat) (b : W) (r0 : W) (s : AlS) : Prop :=
  s.inv ∧ s.by' = b ∧ s.top = 1#64 <<< (z - 1) ∧ ∀ j, s.r.getLsbD j = (decide (j < z) && r0.getLsbD (if s.i.toNat + j < z then s.i.toNat + j else z - 1))

theorem AlS.P_next (z : Nat) (hz : 1 ≤ z ∧ z ≤ 64) (b r0 : W) (s : AlS) (hP : s.P z b r0) (hg : s.go = true) : s.nxt.P z b r0 := by
  obtain ⟨hi, hb, ht, hr⟩ := hP
  have hd := AlS.dec s hi hg
  rw [AlS.go_iff, decide_eq_true_eq] at hg
  have h1 := hi.1
  have e : s.nxt.i.toNat = s.i.toNat + 1 := succ_nat (by omega)
  refine ⟨hd.1, hb, ht, fun j => ?_⟩
  have er : s.nxt.r = (s.r >>> 1) ||| (s.r &&& s.top) := rfl
  rw [er, e, ht, BitVec.getLsbD_or, BitVec.getLsbD_and, BitVec.getLsbD_ushiftRight, hr (1 + j), hr j, ← BitVec.twoPow_eq, BitVec.getLsbD_twoPow]
  by_cases h2 : j = z - 1
  · subst h2
    have a1 : ¬ 1 + (z - 1) < z := by omega
    have a2 : z - 1 < z := by omega
    have a3 : z - 1 < 64 := by omega
    have a4 : ¬ s.i.toNat + 1 + (z - 1) < z := by omega
    by_cases h0 : s.i.toNat = 0
    · have a5 : s.i.toNat + (z - 1) < z := by omega
      simp [a1, a2, a3, a4, a5, h0]
    · have a5 : ¬ s.i.toNat + (z - 1) < z := by omega
      simp [a1, a2, a3, a4, a5]
  · have a0 : ¬ (z - 1 = j) := fun h => h2 h.symm
    by_cases h3 : j < z
    · have a1 : 1 + j < z := by omega
      have a2 : s.i.toNat + (1 + j) = s.i.toNat + 1 + j := by omega
      simp [a0, h3, a1, a2]
    · have a1 : ¬ 1 + j < z := by omega
      simp [a0, h3, a1]

theorem alu12_bits (z : Nat) (hz : 1 ≤ z ∧ z ≤ 64) (b r0 : W) (hb : b.toNat ≤ 64) (h0 : ∀ j, z ≤ j → r0.getLsbD j = false) (j : Nat) :
    (runN AlS.go AlS.nxt 64 ⟨b, r0, 1#64 <<< (z - 1), 0#64⟩).r.getLsbD j = (decide (j < z) && r0.getLsbD (if b.toNat + j < z then b.toNat + j else z - 1)) := by
  have z0 : (0#64 : W).toNat = 0 := rfl
  have hs : AlS.P z b r0 ⟨b, r0, 1#64 <<< (z - 1), 0#64⟩ := by
    refine ⟨⟨hb, by show (0#64 : W).toNat ≤ _; exact Nat.zero_le _⟩, rfl, rfl, fun j => ?_⟩
    show r0.getLsbD j = _
    rw [z0, Nat.zero_add]
    by_cases h : j < z
    · simp [h]
    · rw [h0 j (by omega)]; simp [h]
  generalize (⟨b, r0, 1#64 <<< (z - 1), 0#64⟩ : AlS) = s0 at hs ⊢
  have hend := runN_inv (go := AlS.go) (next := AlS.nxt) (AlS.P z b r0) (AlS.P_next z hz b r0) 64 s0 hs
  have hdone := runN_done (go := AlS.go) (next := AlS.nxt) (inv := AlS.inv) (μ := AlS.mu) AlS.dec 64 s0 hs.1 (by have := hs.1.1; simp only [AlS.mu]; omega)
  generalize runN AlS.go AlS.nxt 64 s0 = s at hend hdone ⊢
  obtain ⟨k1, k2, _, k3⟩ := hend
  rw [AlS.go_iff, decide_eq_false_iff_not] at hdone
  have : s.i.toNat = b.toNat := by have := k1.2; rw [k2] at hdone this; omega
  rw [k3, this]

end Go.Rf.T
namespace Go.Rf.T

/-- Cut to z bits. -/
theorem cut_bits {t : Tn} {s : W} (ht : may t = true) (hs : s = 32#64 ∨ s = 64#64) (j : Nat) (hj : j < 64) :
    (tCut t s).v.getLsbD j = (decide (j < s.toNat) && t.v.getLsbD j) ∧ (tCut t s).m.getLsbD j = (decide (j < s.toNat) && t.m.getLsbD j) := by
  have n1 : (!may t) = false := by rw [ht]; rfl
  rcases hs with rfl | rfl
  · have e : tCut t 32#64 = ⟨t.v &&& low 32#64, t.m &&& low 32#64⟩ := by
      have a : ((32#64 : W) == 64#64) = false := rfl
      have b : small 32#64 = true := rfl
      simp only [tCut, Tn.mux, n1, a, b, cond_true, cond_false]
    have hl := low_bit 32#64 (by decide) j hj
    rw [e]
    simp only [BitVec.getLsbD_and, hl]
    exact ⟨Bool.and_comm _ _, Bool.and_comm _ _⟩
  · have e : tCut t 64#64 = t := by
      have a : ((64#64 : W) == 64#64) = true := rfl
      simp only [tCut, Tn.mux, n1, a, cond_true, cond_false]
    have : (64#64 : W).toNat = 64 := rfl
    rw [e, this]
    simp [hj]

theorem fit_bits (x : W) {s : W} (hs : s = 32#64 ∨ s = 64#64) (j : Nat) (hj : j < 64) : (fitW (s == 64#64) x).getLsbD j = (decide (j < s.toNat) && x.getLsbD j) := by
  rcases hs with rfl | rfl
  · have e : fitW ((32#64 : W) == 64#64) x = x % 4294967296#64 := rfl
    have n32 : (32#64 : W).toNat = 32 := rfl
    have e2 : x % 4294967296#64 = BitVec.ofNat 64 (x.toNat % 2 ^ 32) := by
      apply BitVec.eq_of_toNat_eq
      have : (4294967296#64 : W).toNat = 2 ^ 32 := rfl
      rw [BitVec.toNat_umod, this, BitVec.toNat_ofNat]
      omega
    rw [e, e2, n32, BitVec.getLsbD_ofNat, Nat.testBit_mod_two_pow]
    simp [hj]
    rfl
  · have e : fitW ((64#64 : W) == 64#64) x = x := rfl
    have : (64#64 : W).toNat = 64 := rfl
    rw [e, this]; simp [hj]

theorem arsh_bits (t : Tn) (n : W) {s : W} (hs : s = 32#64 ∨ s = 64#64) (j : Nat) (hj : j < 64) :
    (tArsh t n s).v.getLsbD j = (decide (j < s.toNat) && t.v.getLsbD (if n.toNat + j < s.toNat then n.toNat + j else s.toNat - 1)) ∧
    (tArsh t n s).m.getLsbD j = (decide (j < s.toNat) && t.m.getLsbD (if n.toNat + j < s.toNat then n.toNat + j else s.toNat - 1)) := by
  rcases hs with rfl | rfl
  · have n1 : ((32#64 : W) == 32#64) = true := rfl
    have n2 : (32#64 : W).toNat = 32 := rfl
    simp only [tArsh, Tn.mux, n1, cond_true, sar32_bit, shn, shn_eq, n2]
    exact ⟨trivial, trivial⟩
  · have n1 : ((64#64 : W) == 32#64) = false := rfl
    have n2 : (64#64 : W).toNat = 64 := rfl
    simp only [tArsh, Tn.mux, n1, cond_false, sar64_bit _ _ j hj, shn, shn_eq, n2]
    simp [hj]

end Go.Rf.T
namespace Go.Rf.T

theorem cut_mem {t : Tn} {x s : W} (h : Mem t x) (hs : s = 32#64 ∨ s = 64#64) : Mem (tCut t s) (fitW (s == 64#64) x) := by
  rw [mem_iff_bits]
  intro j hj
  rw [(cut_bits h.may hs j hj).1, (cut_bits h.may hs j hj).2, fit_bits x hs j hj, h.bit j hj]
  cases decide (j < s.toNat) <;> cases x.getLsbD j <;> cases t.m.getLsbD j <;> rfl

theorem alu12_val {x k s : W} (hs : s = 32#64 ∨ s = 64#64) (hk : k.toNat < s.toNat) (j : Nat) (hj : j < 64) :
    (aluV 12#64 (s == 64#64) (fitW (s == 64#64) x) k).getLsbD j = (decide (j < s.toNat) && (fitW (s == 64#64) x).getLsbD (if k.toNat + j < s.toNat then k.toNat + j else s.toNat - 1)) := by
  have hsz : 1 ≤ s.toNat ∧ s.toNat ≤ 64 := by rcases hs with rfl | rfl <;> exact ⟨by decide, by decide⟩
  have e : aluV 12#64 (s == 64#64) (fitW (s == 64#64) x) k = fitW (s == 64#64) (runN AlS.go AlS.nxt 64 (arS (s == 64#64) (fitW (s == 64#64) x) k)).r := rfl
  have f2 : fitW (s == 64#64) (fitW (s == 64#64) x) = fitW (s == 64#64) x := by
    apply BitVec.eq_of_getLsbD_eq
    intro i hi
    rw [fit_bits _ hs i hi, fit_bits x hs i hi]
    cases decide (i < s.toNat) <;> rfl
  have hby : byW (s == 64#64) k = k := by
    apply BitVec.eq_of_toNat_eq
    have e1 : byW (s == 64#64) k = fitW (s == 64#64) k % sizeW (s == 64#64) := rfl
    rw [e1, BitVec.toNat_umod]
    rcases hs with rfl | rfl
    · have n32 : (32#64 : W).toNat = 32 := rfl
      rw [n32] at hk
      have a : (sizeW ((32#64 : W) == 64#64)).toNat = 32 := rfl
      have b : (fitW ((32#64 : W) == 64#64) k).toNat = k.toNat := by
        show (k % 4294967296#64).toNat = _
        have c : (4294967296#64 : W).toNat = 4294967296 := rfl
        rw [BitVec.toNat_umod, c]; omega
      rw [a, b]; omega
    · have n64 : (64#64 : W).toNat = 64 := rfl
      rw [n64] at hk
      have a : (sizeW ((64#64 : W) == 64#64)).toNat = 64 := rfl
      have b : fitW ((64#64 : W) == 64#64) k = k := rfl
      rw [a, b]; omega
  have htop : (1#64 <<< amt .u64 (sizeW (s == 64#64) - 1#64) : W) = 1#64 <<< (s.toNat - 1) := by
    rcases hs with rfl | rfl <;> rfl
  have ear : arS (s == 64#64) (fitW (s == 64#64) x) k = ⟨k, fitW (s == 64#64) x, 1#64 <<< (s.toNat - 1), 0#64⟩ := by
    unfold arS
    rw [hby, f2, htop]
  rw [e, ear, fit_bits _ hs j hj, alu12_bits s.toNat hsz k _ (by omega) (fun i hi => by
    by_cases h : i < 64
    · rw [fit_bits x hs i h]
      have : ¬ i < s.toNat := by omega
      simp [this]
    · exact BitVec.getLsbD_of_ge _ _ (by omega))]
  cases decide (j < s.toNat) <;> rfl

theorem arsh_mem {t : Tn} {x k s : W} (h : Mem t x) (hs : s = 32#64 ∨ s = 64#64) (hk : k.toNat < s.toNat) :
    Mem (tArsh (tCut t s) k s) (aluV 12#64 (s == 64#64) (fitW (s == 64#64) x) k) := by
  have hsz : 1 ≤ s.toNat ∧ s.toNat ≤ 64 := by rcases hs with rfl | rfl <;> exact ⟨by decide, by decide⟩
  rw [mem_iff_bits]
  intro j hj
  have hc := cut_mem h hs
  rw [(arsh_bits (tCut t s) k hs j hj).1, (arsh_bits (tCut t s) k hs j hj).2, alu12_val hs hk j hj]
  have hi : (if k.toNat + j < s.toNat then k.toNat + j else s.toNat - 1) < 64 := by split <;> omega
  rw [hc.bit _ hi]
  generalize (if k.toNat + j < s.toNat then k.toNat + j else s.toNat - 1) = i
  cases decide (j < s.toNat) <;> cases (fitW (s == 64#64) x).getLsbD i <;> cases (tCut t s).m.getLsbD i <;> rfl

end Go.Rf.T
namespace Go.Rf.T

structure SoS where
  a : Tn
  b : Tn
  res : Bool
  may : Bool
  x : W
  y : W
  ops : Nat → W
  i : W

def pSo : List Nat := [1, 1, 1, 1, 0, 1, 4]
def cOps : Cod (Nat → W) := fI.arr 6

def SoS.go (s : SoS) : Bool := ltB .i64 s.i 6#64
def SoS.op (s : SoS) : W := s.ops (ixN s.i)
def SoS.t (s : SoS) : Tn := doneT s.op s.a s.b
def SoS.n (s : SoS) : W := aluV s.op true s.x s.y
def SoS.bad1 (s : SoS) : Bool := (doneE s.op s.a s.b == 0#64) != s.may
def SoS.bad2 (s : SoS) : Bool := (s.may && !has s.t s.n) || (!s.may && !(s.t.v == 0#64 && s.t.m == 0#64))
def SoS.nxt (s : SoS) : SoS := ⟨s.a, s.b, s.res, s.may, s.x, s.y, s.ops, s.i + 1#64⟩
def SoS.ret (s : SoS) : SoS := ⟨s.a, s.b, false, s.may, s.x, s.y, s.ops, s.i⟩
def SoS.step (s : SoS) : Rd SoS := .br s.go (.br s.bad1 (.ret s.ret) (.br s.bad2 (.ret s.ret) (.norm s.nxt))) (.exit 0 s)
def opsF (j : Nat) : W := if j = 5 then 10#64 else if j = 4 then 5#64 else if j = 3 then 4#64 else if j = 2 then 2#64 else if j = 1 then 1#64 else if j = 0 then 0#64 else 0#64
def SoS.inv (s : SoS) : Prop := s.i.toNat ≤ 6 ∧ s.ops = opsF ∧ s.may = (T.may s.a && T.may s.b) ∧ (T.may s.a = true → Mem s.a s.x) ∧ (T.may s.b = true → Mem s.b s.y)
def SoS.mu (s : SoS) : Nat := 6 - s.i.toNat

theorem SoS.go_iff {s : SoS} (h : s.inv) : s.go = decide (s.i.toNat < 6) := by
  have h' : s.i.toNat ≤ 6 := h.1
  rw [SoS.go, ltB_nat (by omega) (by decide)]; rfl

theorem SoS.dec (s : SoS) (h : s.inv) (hg : s.go = true) : s.nxt.inv ∧ s.nxt.mu < s.mu := by
  rw [SoS.go_iff h, decide_eq_true_eq] at hg
  have e : s.nxt.i.toNat = s.i.toNat + 1 := succ_nat (by omega)
  refine ⟨⟨by rw [e]; omega, h.2⟩, ?_⟩
  simp only [SoS.mu, e]; omega

/-! What is done holds what comes. -/

theorem or_sound {a b : Tn} {x y : W} (ha : Mem a x) (hb : Mem b y) : Mem (tOr a b) (x ||| y) := by
  apply BitVec.eq_of_getLsbD_eq
  intro i hi
  have h1 := ha.bit i hi
  have h2 := hb.bit i hi
  simp only [tOr, BitVec.getLsbD_and, BitVec.getLsbD_not, hi, decide_true, Bool.true_and, BitVec.getLsbD_or, h1, h2]
  cases x.getLsbD i <;> cases y.getLsbD i <;> cases a.m.getLsbD i <;> cases b.m.getLsbD i <;> rfl

theorem and_sound {a b : Tn} {x y : W} (ha : Mem a x) (hb : Mem b y) : Mem (tAnd a b) (x &&& y) := by
  apply BitVec.eq_of_getLsbD_eq
  intro i hi
  have h1 := ha.bit i hi
  have h2 := hb.bit i hi
  simp only [tAnd, BitVec.getLsbD_and, BitVec.getLsbD_not, hi, decide_true, Bool.true_and, BitVec.getLsbD_or, h1, h2]
  cases x.getLsbD i <;> cases y.getLsbD i <;> cases a.m.getLsbD i <;> cases b.m.getLsbD i <;> rfl

theorem xor_sound {a b : Tn} {x y : W} (ha : Mem a x) (hb : Mem b y) : Mem (tXor a b) (x ^^^ y) := by
  apply BitVec.eq_of_getLsbD_eq
  intro i hi
  have h1 := ha.bit i hi
  have h2 := hb.bit i hi
  simp only [tXor, fit, BitVec.getLsbD_and, BitVec.getLsbD_not, hi, decide_true, Bool.true_and, BitVec.getLsbD_or, BitVec.getLsbD_xor, h1, h2]
  cases x.getLsbD i <;> cases y.getLsbD i <;> cases a.m.getLsbD i <;> cases b.m.getLsbD i <;> rfl

theorem lsh_mem {t : Tn} {x : W} (h : Mem t x) (k : Nat) : Mem ⟨t.v <<< k, t.m <<< k⟩ (x <<< k) := by
  apply BitVec.eq_of_getLsbD_eq
  intro i hi
  simp only [BitVec.getLsbD_and, BitVec.getLsbD_not, hi, decide_true, Bool.true_and, BitVec.getLsbD_shiftLeft]
  by_cases hk : i < k
  · simp [hk]
  · rw [h.bit (i - k) (by omega)]
    simp [hk]

theorem any_mem {t : Tn} {x : W} (h : Mem t x) : Mem ⟨0#64, t.v ||| t.m⟩ x := by
  apply BitVec.eq_of_getLsbD_eq
  intro i hi
  have := h.bit i hi
  simp only [BitVec.getLsbD_and, BitVec.getLsbD_not, hi, decide_true, Bool.true_and, BitVec.getLsbD_or, BitVec.getLsbD_zero, this]
  cases x.getLsbD i <;> cases t.m.getLsbD i <;> rfl

theorem any_zero (m : W) : Mem ⟨0#64, m⟩ 0#64 := by simp [Mem]

theorem low_succ (x : W) (k : Nat) (hk : k < 64) : BitVec.ofNat 64 (x.toNat % 2 ^ (k + 1)) = BitVec.ofNat 64 (x.toNat % 2 ^ k) + (if x.getLsbD k then 1#64 <<< k else 0#64) := by
  have hb : x.getLsbD k = decide (x.toNat / 2 ^ k % 2 = 1) := Nat.testBit_eq_decide_div_mod_eq
  have h1 : (1#64 <<< k : W) = BitVec.ofNat 64 (2 ^ k) := by
    apply BitVec.eq_of_toNat_eq
    rw [BitVec.toNat_shiftLeft]
    have : (1#64 : W).toNat = 1 := rfl
    simp only [this, Nat.shiftLeft_eq, Nat.one_mul, BitVec.toNat_ofNat]
  rw [Nat.mod_pow_succ, hb, h1]
  rcases Nat.mod_two_eq_zero_or_one (x.toNat / 2 ^ k) with h | h
  · simp [h]
  · simp only [h, Nat.mul_one, decide_true, if_true]
    rw [BitVec.ofNat_add]

theorem mul_sound_aux {a b : Tn} {x y : W} (ha : Mem a x) (hb : Mem b y) : ∀ (m k : Nat) (s : Tn), k + m = 64 → Mem s (BitVec.ofNat 64 (x.toNat % 2 ^ k) * y) →
    Mem (MulS.fin m ⟨⟨a.v >>> k, a.m >>> k⟩, ⟨b.v <<< k, b.m <<< k⟩, s⟩).s (x * y) := by
  intro m
  induction m with
  | zero =>
    intro k s hk hs
    have e : x.toNat % 2 ^ k = x.toNat := Nat.mod_eq_of_lt (by have := x.isLt; have : k = 64 := by omega
                                                               subst this; assumption)
    rw [e] at hs
    simpa [MulS.fin] using hs
  | succ m ih =>
    intro k s hk hs
    have hk64 : k < 64 := by omega
    rw [MulS.fin]
    obtain ⟨_, n2⟩ := mu_next ha.may hb.may s hs.may k hk64
    have one : ∀ z : W, (z >>> k) &&& 1#64 = if z.getLsbD k then 1#64 else 0#64 := by
      intro z
      apply BitVec.eq_of_getLsbD_eq
      intro j hj
      simp only [BitVec.getLsbD_and, BitVec.getLsbD_ushiftRight, BitVec.getLsbD_one]
      by_cases h : j = 0
      · subst h; cases z.getLsbD k <;> simp
      · cases z.getLsbD k <;> simp [h]
    have bit := ha.bit k hk64
    cases hg : MulS.go ⟨⟨a.v >>> k, a.m >>> k⟩, ⟨b.v <<< k, b.m <<< k⟩, s⟩ with
    | false =>
      simp only [cond_false]
      have hz : (a.v >>> k) ||| (a.m >>> k) = 0#64 := by simpa [MulS.go] using hg
      -- all bits of x from k on are 0
      have hx : x.toNat % 2 ^ k = x.toNat := by
        have h0 : x >>> k = 0#64 := by
          apply BitVec.eq_of_getLsbD_eq; intro i hi
          have := congrArg (fun z : W => z.getLsbD i) hz
          simp only [BitVec.getLsbD_or, BitVec.getLsbD_zero, Bool.or_eq_false_iff, BitVec.getLsbD_ushiftRight] at this
          rw [BitVec.getLsbD_ushiftRight, BitVec.getLsbD_zero]
          by_cases hki : k + i < 64
          · have hb2 := ha.bit (k + i) hki
            rw [this.1, this.2] at hb2
            simpa using hb2.symm
          · exact BitVec.getLsbD_of_ge _ _ (by omega)
        have h2 : x.toNat / 2 ^ k = 0 := by
          have := congrArg BitVec.toNat h0
          simpa [BitVec.toNat_ushiftRight, Nat.shiftRight_eq_div_pow] using this
        exact Nat.mod_eq_of_lt ((Nat.div_eq_zero_iff_lt (Nat.two_pow_pos k)).1 h2)
      rw [hx] at hs
      simpa using hs
    | true =>
      simp only [cond_true]
      rw [n2]
      refine ih (k + 1) _ (by omega) ?_
      rw [low_succ x k hk64, BitVec.add_mul]
      rw [MulS.next_eq]
      have hany : MulS.any ⟨⟨a.v >>> k, a.m >>> k⟩, ⟨b.v <<< k, b.m <<< k⟩, s⟩ = a.m.getLsbD k := by
        show ((a.m >>> k) &&& 1#64 == 1#64) = _
        rw [one]; cases a.m.getLsbD k <;> rfl
      have hzero : MulS.zero ⟨⟨a.v >>> k, a.m >>> k⟩, ⟨b.v <<< k, b.m <<< k⟩, s⟩ = !a.v.getLsbD k := by
        show ((a.v >>> k) &&& 1#64 == 0#64) = _
        rw [one]; cases a.v.getLsbD k <;> rfl
      have hmul : (1#64 <<< k : W) * y = y <<< k := by
        rw [← BitVec.twoPow_eq, BitVec.mul_comm, BitVec.mul_twoPow_eq_shiftLeft]
      have hy := lsh_mem hb k
      rw [hany, hzero]
      have hup : ∀ t, (MulS.up ⟨⟨a.v >>> k, a.m >>> k⟩, ⟨b.v <<< k, b.m <<< k⟩, s⟩ t).s = t := fun t => rfl
      cases hm : a.m.getLsbD k with
      | true =>
        rw [if_pos rfl, hup, addN_ok hs.may (may_any _)]
        refine add_sound hs ?_
        have key : Mem ⟨0#64, b.v <<< k ||| b.m <<< k⟩ ((if x.getLsbD k = true then 1#64 <<< k else 0#64) * y) := by
          by_cases hx : x.getLsbD k = true
          · rw [if_pos hx, hmul]; exact any_mem (t := ⟨b.v <<< k, b.m <<< k⟩) hy
          · rw [if_neg hx, BitVec.zero_mul]; exact any_zero _
        exact key
      | false =>
        rw [hm] at bit
        simp only [Bool.not_false, Bool.and_true] at bit
        rw [bit]
        cases hx : x.getLsbD k with
        | true =>
          simp only [Bool.false_eq_true, if_false, Bool.not_true, if_true, hmul, hup]
          rw [addN_ok hs.may hy.may]
          exact add_sound hs hy
        | false =>
          simp only [Bool.false_eq_true, if_false, Bool.not_false, if_true, BitVec.zero_mul, BitVec.add_zero]
          exact hs

theorem mul_sound {a b : Tn} {x y : W} (ha : Mem a x) (hb : Mem b y) : Mem (tMul a b) (x * y) := by
  have := mul_sound_aux ha hb 64 0 ⟨0#64, 0#64⟩ (by omega) (by simp [Mem, Nat.mod_one])
  simp only [BitVec.ushiftRight_zero, BitVec.shiftLeft_zero] at this
  exact this
end Go.Rf.T
