/- The document's stretches. -/
import Derived.Test.YtkfgohhmicfnhaaTnA
import Derived.Test.YtkfgohhmicfnhaaTp4
set_option linter.unusedVariables false
set_option linter.unusedSimpArgs false
namespace Go.Rf
open Go.Proofs

structure RgS where
  lo : W
  hi : W
  un : Bool
  i : W
  l : Nat → W

def pRg : List Nat := [1, 1, 1, 1, 0, 1, 4]

noncomputable def lpRg : Lp RgS where
  keys := [0, 1, 6, 7, 8]
  names := [1]
  scr := wrAt Try.prog 46 pRg
  vals s := [cW.enc s.lo, cW.enc s.hi, .ptr 1 [], eB s.un, eI s.i]
  blks s := [⟨71, cA.enc s.l⟩]
  dec vs bs := match vs, bs with
    | [a, b, _, u, i], [⟨_, q⟩] => match cW.dec a, cW.dec b, cB.dec u, cI.dec i, cA.dec q with
      | some a, some b, some u, some i, some l => some ⟨a, b, u, i, l⟩
      | _, _, _, _, _ => none
    | _, _ => none

def bitR (x i : W) : W := remB .u64 (shrB .u64 x (amt .u64 (convB .i64 .u64 i))) 2#64
def RgS.go (s : RgS) : Bool := leB .i64 0#64 s.i
def RgS.x (s : RgS) : Bool := bitR s.lo s.i == 1#64
def RgS.ne (s : RgS) : Bool := s.un || (bitR s.lo s.i != bitR s.hi s.i)
def RgS.put (s : RgS) (l : Nat → W) : RgS := ⟨s.lo, s.hi, s.ne, s.i - 1#64, l⟩
def RgS.l1 (s : RgS) : Nat → W := upd s.l (ixN s.i) 1#64
def RgS.step (s : RgS) : Rd RgS :=
  .br s.go (.br s.x (.br s.ne (.norm (s.put (upd (upd s.l1 (ixN s.i) 2#64) (ixN s.i) 3#64))) (.norm (s.put (upd s.l1 (ixN s.i) 2#64))))
    (.br s.ne (.norm (s.put (upd s.l1 (ixN s.i) 3#64))) (.norm (s.put s.l1)))) (.exit 0 s)
def RgS.nxt (s : RgS) : RgS := s.put (upd s.l (ixN s.i) (if s.ne then 3#64 else if s.x then 2#64 else 1#64))
def RgS.inv (s : RgS) : Prop := -1 ≤ s.i.toInt ∧ s.i.toInt ≤ 63
def RgS.mu (s : RgS) : Nat := (s.i.toInt + 1).toNat

theorem RgS.go_iff (s : RgS) : s.go = decide (0 ≤ s.i.toInt) := by
  have z0 : (0#64 : W).toInt = 0 := rfl
  rw [RgS.go, le_int, z0]

theorem RgS.pred {s : RgS} (h : s.inv) : (s.i - 1#64).toInt = s.i.toInt - 1 := by
  have e : s.i - 1#64 = s.i + (-1#64) := BitVec.sub_eq_add_neg _ _
  have e1 : (-1#64 : W).toInt = -1 := rfl
  have h1 := h.1
  have h2 := h.2
  rw [e, add_int] <;> rw [e1] <;> omega

theorem RgS.dec (s : RgS) (h : s.inv) (hg : s.go = true) : s.nxt.inv ∧ s.nxt.mu < s.mu := by
  rw [RgS.go_iff, decide_eq_true_eq] at hg
  have e : s.nxt.i.toInt = s.i.toInt - 1 := RgS.pred h
  have h2 := h.2
  simp only [RgS.inv, RgS.mu, e]
  omega

def rgLoop (s : RgS) : Rd RgS := .exit 0 (runN RgS.go RgS.nxt 64 s)

theorem rgGoal (s : RgS) (h : s.inv) : LoopGoal Try.prog (loopAt Try.prog 46 pRg) lpRg rgLoop s 2 46 0 := by
  refine lp_rule (cx := ⟨Try.prog, tabOf lD, inlF Try.prog (tabOf lD) noHooks 2⟩) gD (inlF_ok gD 2) (Λ := fun _ => none) (p := []) lpRg RgS.inv RgS.mu RgS.step rgLoop 2 46 0 (fun _ => ⟨rfl, rfl⟩) ?_ ?_ s h
  · intro s r h hi
    refine fl_ok (g := s.go) (L := ixs s.i 64 4) (by kernel_rfl) (fun hg => ixs_hold (by decide) ?_ _)
    rw [RgS.go_iff, decide_eq_true_eq] at hg
    have := hi.2
    have := nat_of_int (x := s.i) (n := s.i.toInt.toNat) (by omega)
    omega
  · refine good_run RgS.dec (fun s h => by have := h.2; simp only [RgS.mu]; omega) ?_ ?_
    · intro s hi hg
      simp only [RgS.step, Rd.sel, hg, if_true, RgS.nxt, RgS.l1, upd_upd]
      cases s.x <;> cases s.ne <;> rfl
    · intro s hi hg
      simp only [RgS.step, Rd.sel, hg, Bool.false_eq_true, if_false]

def rgL (lo hi : W) : Nat → W := (runN RgS.go RgS.nxt 64 ⟨lo, hi, false, 63#64, fun _ => 0#64⟩).l

noncomputable def hRg : FuncId → Hook := fun f p => if f == 46 && p == pRg then some (lpRg.hk rgLoop) else none

theorem k46 : ConOk Try.prog 46 (con2 cW cW fun lo hi => resTE (badRg lo hi) (made (rgL lo hi))) :=
  con2_ok gD (Λ := hRg) 5 (fun _ _ => rfl) (fun lo hi => Ev.fl (g := !badRg lo hi) (L := [LoopGoal Try.prog (loopAt Try.prog 46 pRg) lpRg rgLoop ⟨lo, hi, false, 63#64, fun _ => 0#64⟩ 2 46 0]) (by kernel_rfl)
    (fun _ p hp => by simp only [List.mem_singleton] at hp; subst hp; exact rgGoal _ ⟨by show -1 ≤ (63#64 : W).toInt; decide, by show (63#64 : W).toInt ≤ 63; decide⟩))

noncomputable def lE : List (FuncId × Con) := (45, con2 cW cW fun lo hi => resTE (badRg lo hi) (rgT lo hi)) :: (46, con2 cW cW fun lo hi => resTE (badRg lo hi) (made (rgL lo hi))) :: lD
theorem gE : TabOk Try.prog (tabOf lE) := tabOf_cons (tabOf_cons gD k46) k45

/-! They are the program's. -/

theorem mod2 (y : W) : y % 2#64 = 0#64 ∨ y % 2#64 = 1#64 := by
  have : (y % 2#64).toNat = 0 ∨ (y % 2#64).toNat = 1 := by
    have h2 : (2#64 : W).toNat = 2 := rfl
    rw [BitVec.toNat_umod, h2]
    omega
  rcases this with h | h
  · left; exact BitVec.eq_of_toNat_eq h
  · right; exact BitVec.eq_of_toNat_eq h

theorem bitR_eq (x i : W) : bitR x i = if x.getLsbD i.toNat then 1#64 else 0#64 := by
  have h := bitB_eq x i
  unfold bitB at h
  have e : bitR x i = remB .u64 (shrB .u64 x (amt .u64 (convB .i64 .u64 i))) 2#64 := rfl
  rw [← e] at h
  have two : bitR x i = 0#64 ∨ bitR x i = 1#64 := by
    exact mod2 (x >>> (amt .u64 (convB .i64 .u64 i)))
  rcases two with h2 | h2 <;> rw [h2] at h ⊢ <;> simp at h <;> simp [← h]

/-- Some bit from i on is unlike. -/
def unl (lo hi : W) (i : Nat) : Bool := decide ((lo ^^^ hi).toNat / 2 ^ i ≠ 0)

theorem unl_step (lo hi : W) (i : Nat) : unl lo hi i = (unl lo hi (i + 1) || (lo.getLsbD i != hi.getLsbD i)) := by
  have hb : (lo ^^^ hi).getLsbD i = decide ((lo ^^^ hi).toNat / 2 ^ i % 2 = 1) := Nat.testBit_eq_decide_div_mod_eq
  rw [BitVec.getLsbD_xor] at hb
  have hx : (lo.getLsbD i != hi.getLsbD i) = (lo.getLsbD i ^^ hi.getLsbD i) := by cases lo.getLsbD i <;> cases hi.getLsbD i <;> rfl
  rw [hx, hb]
  unfold unl
  have e : (lo ^^^ hi).toNat / 2 ^ (i + 1) = (lo ^^^ hi).toNat / 2 ^ i / 2 := by rw [Nat.pow_succ, Nat.div_div_eq_div_mul]
  rw [e]
  generalize (lo ^^^ hi).toNat / 2 ^ i = n
  rcases Nat.mod_two_eq_zero_or_one n with h | h
  · by_cases h0 : n / 2 = 0
    · have : n = 0 := by omega
      simp [h, h0, this]
    · have : n ≠ 0 := by omega
      simp [h, h0, this]
  · have : n ≠ 0 := by omega
    simp [h, this]

def RgS.P (lo hi : W) (s : RgS) : Prop :=
  s.inv ∧ s.lo = lo ∧ s.hi = hi ∧ s.un = unl lo hi (s.i.toInt + 1).toNat ∧ ∀ j, s.l j = if s.i.toInt < (j : Int) ∧ j < 64 then mkB (unl lo hi j) (lo.getLsbD j) else 0#64

theorem RgS.P_next (lo hi : W) (s : RgS) (hP : s.P lo hi) (hg : s.go = true) : s.nxt.P lo hi := by
  obtain ⟨hi', rfl, rfl, hu, hl⟩ := hP
  have hd := RgS.dec s hi' hg
  rw [RgS.go_iff, decide_eq_true_eq] at hg
  have e : s.nxt.i.toInt = s.i.toInt - 1 := RgS.pred hi'
  have hle := hi'.2
  have hnat := nat_of_int (x := s.i) (n := s.i.toInt.toNat) (by omega)
  have hix : ixN s.i = s.i.toNat := ixN_nat (by omega)
  have hx : s.x = s.lo.getLsbD s.i.toNat := by
    unfold RgS.x
    rw [bitR_eq]; cases s.lo.getLsbD s.i.toNat <;> rfl
  have hn : s.ne = unl s.lo s.hi s.i.toNat := by
    unfold RgS.ne
    have : (s.i.toInt + 1).toNat = s.i.toNat + 1 := by omega
    rw [bitR_eq, bitR_eq, hu, this, unl_step s.lo s.hi s.i.toNat]
    cases s.lo.getLsbD s.i.toNat <;> cases s.hi.getLsbD s.i.toNat <;> cases unl s.lo s.hi (s.i.toNat + 1) <;> rfl
  refine ⟨hd.1, rfl, rfl, ?_, fun j => ?_⟩
  · show s.ne = _
    rw [e, hn]; congr 1; omega
  · have e3 : s.nxt.l = upd s.l (ixN s.i) (if s.ne then 3#64 else if s.x then 2#64 else 1#64) := rfl
    rw [e3, e, hix]
    simp only [upd]
    by_cases h1 : j = s.i.toNat
    · have hin : s.i.toInt - 1 < (j : Int) ∧ j < 64 := by omega
      rw [if_pos h1, if_pos hin, hn, hx, h1]; rfl
    · rw [if_neg h1, hl]
      by_cases h2 : s.i.toInt < (j : Int) ∧ j < 64
      · rw [if_pos h2, if_pos (by omega)]
      · rw [if_neg h2, if_neg (by omega)]

theorem rgL_eq (lo hi : W) (j : Nat) (hj : j < 64) : rgL lo hi j = mkB (unl lo hi j) (lo.getLsbD j) := by
  unfold rgL
  have i63 : (63#64 : W).toInt = 63 := rfl
  have h0 : RgS.P lo hi ⟨lo, hi, false, 63#64, fun _ => 0#64⟩ := by
    refine ⟨⟨by show -1 ≤ (63#64 : W).toInt; decide, by show (63#64 : W).toInt ≤ 63; decide⟩, rfl, rfl, ?_, fun j => ?_⟩
    · show false = unl lo hi ((63#64 : W).toInt + 1).toNat
      have e : ((63#64 : W).toInt + 1).toNat = 64 := rfl
      rw [e]
      unfold unl
      have := (lo ^^^ hi).isLt
      rw [Nat.div_eq_of_lt this]; simp
    · show (0#64 : W) = if (63#64 : W).toInt < (j : Int) ∧ j < 64 then _ else _
      rw [i63, if_neg (by omega)]
  generalize (⟨lo, hi, false, 63#64, fun _ => 0#64⟩ : RgS) = s0 at h0 ⊢
  have hend := runN_inv (go := RgS.go) (next := RgS.nxt) (RgS.P lo hi) (RgS.P_next lo hi) 64 s0 h0
  have hdone := runN_done (go := RgS.go) (next := RgS.nxt) (inv := RgS.inv) (μ := RgS.mu) RgS.dec 64 s0 h0.1 (by have := h0.1.2; simp only [RgS.mu]; omega)
  generalize runN RgS.go RgS.nxt 64 s0 = s at hend hdone ⊢
  obtain ⟨k1, _, _, _, k3⟩ := hend
  rw [RgS.go_iff, decide_eq_false_iff_not] at hdone
  rw [k3, if_pos (by omega)]

theorem bl_lt (n i : Nat) : decide (n / 2 ^ i ≠ 0) = decide (i < bl n) := by
  rw [decide_eq_decide]
  have h0 := Nat.two_pow_pos i
  by_cases hn : n = 0
  · subst hn; simp [bl]
  · simp only [bl, hn, if_false]
    rw [ne_eq, Nat.div_eq_zero_iff_lt h0]
    have := Nat.le_log2 hn (k := i)
    omega

theorem low_mask (n : Nat) (hn : n < 64) (j : Nat) (hj : j < 64) : ((1#64 <<< n) - 1#64 : W).getLsbD j = decide (j < n) := by
  have e : (BitVec.ofNat 64 n : W).toNat = n := by simp; omega
  have := low_bit (BitVec.ofNat 64 n) (by omega) j hj
  unfold low shn at this
  rw [shn_eq, e] at this
  exact this

theorem rgT_bits (lo hi : W) (j : Nat) (hj : j < 64) : (rgT lo hi).m.getLsbD j = unl lo hi j ∧ (rgT lo hi).v.getLsbD j = (!unl lo hi j && lo.getLsbD j) := by
  have hu : unl lo hi j = decide (j < bl (lo ^^^ hi).toNat) := bl_lt _ _
  have hle : bl (lo ^^^ hi).toNat ≤ 64 := bl_le _ 64 (lo ^^^ hi).isLt
  have hN : rgN lo hi = BitVec.ofNat 64 (bl (lo ^^^ hi).toNat) := lenW_eq _
  have hNn : (rgN lo hi).toNat = bl (lo ^^^ hi).toNat := by rw [hN, BitVec.toNat_ofNat]; exact Nat.mod_eq_of_lt (by omega)
  rw [hu]
  by_cases h64 : bl (lo ^^^ hi).toNat = 64
  · have e : (rgN lo hi == 64#64) = true := by rw [hN, h64]; rfl
    have : decide (j < bl (lo ^^^ hi).toNat) = true := by rw [h64]; simpa using hj
    unfold rgT Tn.mux
    rw [e, this]
    simp only [cond_true]
    have hall : (18446744073709551615#64 : W) = BitVec.allOnes 64 := rfl
    refine ⟨?_, by simp⟩
    rw [hall, BitVec.getLsbD_allOnes]
    simpa using hj
  · have e : (rgN lo hi == 64#64) = false := by
      rw [beq_eq_false_iff_ne]
      intro h
      have := congrArg BitVec.toNat h
      rw [hNn] at this
      exact h64 this
    unfold rgT Tn.mux
    rw [e]
    simp only [cond_false, fit, shn_eq, hNn, BitVec.getLsbD_and, BitVec.getLsbD_not, hj, decide_true, Bool.true_and, low_mask _ (by omega : bl (lo ^^^ hi).toNat < 64) j hj]
    refine ⟨trivial, ?_⟩
    cases lo.getLsbD j <;> cases decide (j < bl (lo ^^^ hi).toNat) <;> rfl

theorem ref_range (lo hi : W) : made (rgL lo hi) = rgT lo hi := by
  refine tn_ext fun j hj => ?_
  rw [(made_bits _ j hj).1, (made_bits _ j hj).2, rgL_eq _ _ j hj, (mkB_is _ _).1, (mkB_is _ _).2, (rgT_bits lo hi j hj).1, (rgT_bits lo hi j hj).2]
  exact ⟨rfl, rfl⟩

end Go.Rf
