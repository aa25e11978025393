/- Proved: the law TnumSound answers true at every input: whatever numbers two tnums hold, what an operation makes of them is held by its answer. No condition. -/
import Derived.Test.YtkfgohhmicfnhaaTnr
import Derived.Test.YtkfgohhmicfnhaaTn9
import Derived.Test.YtkfgohhmicfnhaaTp4
set_option linter.unusedVariables false
set_option linter.unusedSimpArgs false
namespace Go.Rf
open Go.Proofs Go.Proofs.Ytkfgohhmicfnhaa

structure SoS where
  a : Tn
  b : Tn
  res : Bool
  may : Bool
  x : W
  y : W
  ops : Nat → W
  i : W

def pSo : List Nat := [1, 1, 1, 1, 0, 1, 4]
def cOps : Cod (Nat → W) := fI.arr 6

noncomputable def lpSo : Lp SoS where
  keys := [3, 4, 6, 7, 8, 9, 32, 33]
  names := [0, 1]
  scr := wrAt Try.prog 5 pSo
  vals s := [.ptr 0 [], .ptr 1 [], eB s.res, eB s.may, cW.enc s.x, cW.enc s.y, cOps.enc s.ops, eI s.i]
  blks s := [⟨24, eTn s.a⟩, ⟨24, eTn s.b⟩]
  dec vs bs := match vs, bs with
    | [_, _, r, m, x, y, o, i], [⟨_, p⟩, ⟨_, q⟩] => match cB.dec r, cB.dec m, cW.dec x, cW.dec y, cOps.dec o, cI.dec i, cTn.dec p, cTn.dec q with
      | some r, some m, some x, some y, some o, some i, some a, some b => some ⟨a, b, r, m, x, y, o, i⟩
      | _, _, _, _, _, _, _, _ => none
    | _, _ => none

def SoS.go (s : SoS) : Bool := ltB .i64 s.i 6#64
def SoS.op (s : SoS) : W := s.ops (ixN s.i)
def SoS.t (s : SoS) : Tn := doneT s.op s.a s.b
def SoS.n (s : SoS) : W := aluV s.op true s.x s.y
def SoS.bad1 (s : SoS) : Bool := (doneE s.op s.a s.b == 0#64) != s.may
def SoS.bad2 (s : SoS) : Bool := (s.may && !has s.t s.n) || (!s.may && !(s.t.v == 0#64 && s.t.m == 0#64))
def SoS.nxt (s : SoS) : SoS := ⟨s.a, s.b, s.res, s.may, s.x, s.y, s.ops, s.i + 1#64⟩
def SoS.ret (s : SoS) : SoS := ⟨s.a, s.b, false, s.may, s.x, s.y, s.ops, s.i⟩
def SoS.step (s : SoS) : Rd SoS := .br s.go (.br s.bad1 (.ret s.ret) (.br s.bad2 (.ret s.ret) (.norm s.nxt))) (.exit 0 s)
def opsF (j : Nat) : W := if j = 5 then 10#64 else if j = 4 then 5#64 else if j = 3 then 4#64 else if j = 2 then 2#64 else if j = 1 then 1#64 else if j = 0 then 0#64 else 0#64
def SoS.inv (s : SoS) : Prop := s.i.toNat ≤ 6 ∧ s.ops = opsF ∧ s.may = (Rf.may s.a && Rf.may s.b) ∧ (Rf.may s.a = true → Mem s.a s.x) ∧ (Rf.may s.b = true → Mem s.b s.y)
def SoS.mu (s : SoS) : Nat := 6 - s.i.toNat

theorem SoS.go_iff {s : SoS} (h : s.inv) : s.go = decide (s.i.toNat < 6) := by
  have h' : s.i.toNat ≤ 6 := h.1
  rw [SoS.go, ltB_nat (by omega) (by decide)]; rfl

theorem SoS.dec (s : SoS) (h : s.inv) (hg : s.go = true) : s.nxt.inv ∧ s.nxt.mu < s.mu := by
  rw [SoS.go_iff h, decide_eq_true_eq] at hg
  have e : s.nxt.i.toNat = s.i.toNat + 1 := succ_nat (by omega)
  refine ⟨⟨by rw [e]; omega, h.2⟩, ?_⟩
  simp only [SoS.mu, e]; omega

/-! What is done holds what comes. -/

theorem or_sound {a b : Tn} {x y : W} (ha : Mem a x) (hb : Mem b y) : Mem (tOr a b) (x ||| y) := by
  apply BitVec.eq_of_getLsbD_eq
  intro i hi
  have h1 := ha.bit i hi
  have h2 := hb.bit i hi
  simp only [tOr, BitVec.getLsbD_and, BitVec.getLsbD_not, hi, decide_true, Bool.true_and, BitVec.getLsbD_or, h1, h2]
  cases x.getLsbD i <;> cases y.getLsbD i <;> cases a.m.getLsbD i <;> cases b.m.getLsbD i <;> rfl

theorem and_sound {a b : Tn} {x y : W} (ha : Mem a x) (hb : Mem b y) : Mem (tAnd a b) (x &&& y) := by
  apply BitVec.eq_of_getLsbD_eq
  intro i hi
  have h1 := ha.bit i hi
  have h2 := hb.bit i hi
  simp only [tAnd, BitVec.getLsbD_and, BitVec.getLsbD_not, hi, decide_true, Bool.true_and, BitVec.getLsbD_or, h1, h2]
  cases x.getLsbD i <;> cases y.getLsbD i <;> cases a.m.getLsbD i <;> cases b.m.getLsbD i <;> rfl

theorem xor_sound {a b : Tn} {x y : W} (ha : Mem a x) (hb : Mem b y) : Mem (tXor a b) (x ^^^ y) := by
  apply BitVec.eq_of_getLsbD_eq
  intro i hi
  have h1 := ha.bit i hi
  have h2 := hb.bit i hi
  simp only [tXor, fit, BitVec.getLsbD_and, BitVec.getLsbD_not, hi, decide_true, Bool.true_and, BitVec.getLsbD_or, BitVec.getLsbD_xor, h1, h2]
  cases x.getLsbD i <;> cases y.getLsbD i <;> cases a.m.getLsbD i <;> cases b.m.getLsbD i <;> rfl

theorem lsh_mem {t : Tn} {x : W} (h : Mem t x) (k : Nat) : Mem ⟨t.v <<< k, t.m <<< k⟩ (x <<< k) := by
  apply BitVec.eq_of_getLsbD_eq
  intro i hi
  simp only [BitVec.getLsbD_and, BitVec.getLsbD_not, hi, decide_true, Bool.true_and, BitVec.getLsbD_shiftLeft]
  by_cases hk : i < k
  · simp [hk]
  · rw [h.bit (i - k) (by omega)]
    simp [hk]

theorem any_mem {t : Tn} {x : W} (h : Mem t x) : Mem ⟨0#64, t.v ||| t.m⟩ x := by
  apply BitVec.eq_of_getLsbD_eq
  intro i hi
  have := h.bit i hi
  simp only [BitVec.getLsbD_and, BitVec.getLsbD_not, hi, decide_true, Bool.true_and, BitVec.getLsbD_or, BitVec.getLsbD_zero, this]
  cases x.getLsbD i <;> cases t.m.getLsbD i <;> rfl

theorem any_zero (m : W) : Mem ⟨0#64, m⟩ 0#64 := by simp [Mem]

theorem low_succ (x : W) (k : Nat) (hk : k < 64) : BitVec.ofNat 64 (x.toNat % 2 ^ (k + 1)) = BitVec.ofNat 64 (x.toNat % 2 ^ k) + (if x.getLsbD k then 1#64 <<< k else 0#64) := by
  have hb : x.getLsbD k = decide (x.toNat / 2 ^ k % 2 = 1) := Nat.testBit_eq_decide_div_mod_eq
  have h1 : (1#64 <<< k : W) = BitVec.ofNat 64 (2 ^ k) := by
    apply BitVec.eq_of_toNat_eq
    rw [BitVec.toNat_shiftLeft]
    have : (1#64 : W).toNat = 1 := rfl
    simp only [this, Nat.shiftLeft_eq, Nat.one_mul, BitVec.toNat_ofNat]
  rw [Nat.mod_pow_succ, hb, h1]
  rcases Nat.mod_two_eq_zero_or_one (x.toNat / 2 ^ k) with h | h
  · simp [h]
  · simp only [h, Nat.mul_one, decide_true, if_true]
    rw [BitVec.ofNat_add]

theorem mul_sound_aux {a b : Tn} {x y : W} (ha : Mem a x) (hb : Mem b y) : ∀ (m k : Nat) (s : Tn), k + m = 64 → Mem s (BitVec.ofNat 64 (x.toNat % 2 ^ k) * y) →
    Mem (MulS.fin m ⟨⟨a.v >>> k, a.m >>> k⟩, ⟨b.v <<< k, b.m <<< k⟩, s⟩).s (x * y) := by
  intro m
  induction m with
  | zero =>
    intro k s hk hs
    have e : x.toNat % 2 ^ k = x.toNat := Nat.mod_eq_of_lt (by have := x.isLt; have : k = 64 := by omega
                                                               subst this; assumption)
    rw [e] at hs
    simpa [MulS.fin] using hs
  | succ m ih =>
    intro k s hk hs
    have hk64 : k < 64 := by omega
    rw [MulS.fin]
    obtain ⟨_, n2⟩ := mu_next ha.may hb.may s hs.may k hk64
    have one : ∀ z : W, (z >>> k) &&& 1#64 = if z.getLsbD k then 1#64 else 0#64 := by
      intro z
      apply BitVec.eq_of_getLsbD_eq
      intro j hj
      simp only [BitVec.getLsbD_and, BitVec.getLsbD_ushiftRight, BitVec.getLsbD_one]
      by_cases h : j = 0
      · subst h; cases z.getLsbD k <;> simp
      · cases z.getLsbD k <;> simp [h]
    have bit := ha.bit k hk64
    cases hg : MulS.go ⟨⟨a.v >>> k, a.m >>> k⟩, ⟨b.v <<< k, b.m <<< k⟩, s⟩ with
    | false =>
      simp only [cond_false]
      have hz : (a.v >>> k) ||| (a.m >>> k) = 0#64 := by simpa [MulS.go] using hg
      -- all bits of x from k on are 0
      have hx : x.toNat % 2 ^ k = x.toNat := by
        have h0 : x >>> k = 0#64 := by
          apply BitVec.eq_of_getLsbD_eq; intro i hi
          have := congrArg (fun z : W => z.getLsbD i) hz
          simp only [BitVec.getLsbD_or, BitVec.getLsbD_zero, Bool.or_eq_false_iff, BitVec.getLsbD_ushiftRight] at this
          rw [BitVec.getLsbD_ushiftRight, BitVec.getLsbD_zero]
          by_cases hki : k + i < 64
          · have hb2 := ha.bit (k + i) hki
            rw [this.1, this.2] at hb2
            simpa using hb2.symm
          · exact BitVec.getLsbD_of_ge _ _ (by omega)
        have h2 : x.toNat / 2 ^ k = 0 := by
          have := congrArg BitVec.toNat h0
          simpa [BitVec.toNat_ushiftRight, Nat.shiftRight_eq_div_pow] using this
        exact Nat.mod_eq_of_lt ((Nat.div_eq_zero_iff_lt (Nat.two_pow_pos k)).1 h2)
      rw [hx] at hs
      simpa using hs
    | true =>
      simp only [cond_true]
      rw [n2]
      refine ih (k + 1) _ (by omega) ?_
      rw [low_succ x k hk64, BitVec.add_mul]
      rw [MulS.next_eq]
      have hany : MulS.any ⟨⟨a.v >>> k, a.m >>> k⟩, ⟨b.v <<< k, b.m <<< k⟩, s⟩ = a.m.getLsbD k := by
        show ((a.m >>> k) &&& 1#64 == 1#64) = _
        rw [one]; cases a.m.getLsbD k <;> rfl
      have hzero : MulS.zero ⟨⟨a.v >>> k, a.m >>> k⟩, ⟨b.v <<< k, b.m <<< k⟩, s⟩ = !a.v.getLsbD k := by
        show ((a.v >>> k) &&& 1#64 == 0#64) = _
        rw [one]; cases a.v.getLsbD k <;> rfl
      have hmul : (1#64 <<< k : W) * y = y <<< k := by
        rw [← BitVec.twoPow_eq, BitVec.mul_comm, BitVec.mul_twoPow_eq_shiftLeft]
      have hy := lsh_mem hb k
      rw [hany, hzero]
      have hup : ∀ t, (MulS.up ⟨⟨a.v >>> k, a.m >>> k⟩, ⟨b.v <<< k, b.m <<< k⟩, s⟩ t).s = t := fun t => rfl
      cases hm : a.m.getLsbD k with
      | true =>
        rw [if_pos rfl, hup, addN_ok hs.may (may_any _)]
        refine add_sound hs ?_
        have key : Mem ⟨0#64, b.v <<< k ||| b.m <<< k⟩ ((if x.getLsbD k = true then 1#64 <<< k else 0#64) * y) := by
          by_cases hx : x.getLsbD k = true
          · rw [if_pos hx, hmul]; exact any_mem (t := ⟨b.v <<< k, b.m <<< k⟩) hy
          · rw [if_neg hx, BitVec.zero_mul]; exact any_zero _
        exact key
      | false =>
        rw [hm] at bit
        simp only [Bool.not_false, Bool.and_true] at bit
        rw [bit]
        cases hx : x.getLsbD k with
        | true =>
          simp only [Bool.false_eq_true, if_false, Bool.not_true, if_true, hmul, hup]
          rw [addN_ok hs.may hy.may]
          exact add_sound hs hy
        | false =>
          simp only [Bool.false_eq_true, if_false, Bool.not_false, if_true, BitVec.zero_mul, BitVec.add_zero]
          exact hs

theorem mul_sound {a b : Tn} {x y : W} (ha : Mem a x) (hb : Mem b y) : Mem (tMul a b) (x * y) := by
  have := mul_sound_aux ha hb 64 0 ⟨0#64, 0#64⟩ (by omega) (by simp [Mem, Nat.mod_one])
  simp only [BitVec.ushiftRight_zero, BitVec.shiftLeft_zero] at this
  exact this

theorem done_sound {a b : Tn} {x y : W} (ha : Mem a x) (hb : Mem b y) (j : Nat) (hj : j < 6) : has (doneT (opsF j) a b) (aluV (opsF j) true x y) = true := by
  rw [has_iff]
  have hbad := bad2_false ha.may hb.may
  have hc : j = 0 ∨ j = 1 ∨ j = 2 ∨ j = 3 ∨ j = 4 ∨ j = 5 := by omega
  rcases hc with rfl | rfl | rfl | rfl | rfl | rfl
  · have e1 : doneT (opsF 0) a b = Tn.mux (bad2 a b) nil (tAdd a b) := rfl
    have e2 : aluV (opsF 0) true x y = x + y := rfl
    rw [e1, e2, hbad]; exact add_sound ha hb
  · have e1 : doneT (opsF 1) a b = Tn.mux (bad2 a b) nil (tSub a b) := rfl
    have e2 : aluV (opsF 1) true x y = x - y := rfl
    rw [e1, e2, hbad]; exact sub_sound ha hb
  · have e1 : doneT (opsF 2) a b = Tn.mux (bad2 a b) nil (tMul a b) := rfl
    have e2 : aluV (opsF 2) true x y = x * y := rfl
    rw [e1, e2, hbad]; exact mul_sound ha hb
  · have e1 : doneT (opsF 3) a b = Tn.mux (bad2 a b) nil (tOr a b) := rfl
    have e2 : aluV (opsF 3) true x y = x ||| y := rfl
    rw [e1, e2, hbad]; exact or_sound ha hb
  · have e1 : doneT (opsF 4) a b = Tn.mux (bad2 a b) nil (tAnd a b) := rfl
    have e2 : aluV (opsF 4) true x y = x &&& y := rfl
    rw [e1, e2, hbad]; exact and_sound ha hb
  · have e1 : doneT (opsF 5) a b = Tn.mux (bad2 a b) nil (tXor a b) := rfl
    have e2 : aluV (opsF 5) true x y = x ^^^ y := rfl
    rw [e1, e2, hbad]; exact xor_sound ha hb

theorem done_err (op : W) (a b : Tn) : doneE op a b = errB a b := by
  unfold doneE
  cases (op == 0#64) <;> cases (op == 1#64) <;> cases (op == 2#64) <;> cases (op == 4#64) <;> cases (op == 5#64) <;> rfl

theorem done_bad {op : W} {a b : Tn} (h : bad2 a b = true) : doneT op a b = nil := by
  unfold doneT Tn.mux
  rw [h]
  cases (op == 0#64) <;> cases (op == 1#64) <;> cases (op == 2#64) <;> cases (op == 4#64) <;> cases (op == 5#64) <;> rfl

theorem SoS.ok1 {s : SoS} (h : s.inv) : s.bad1 = false := by
  obtain ⟨_, _, h3, _⟩ := h
  unfold SoS.bad1
  rw [done_err, h3]
  unfold errB Rf.bad2
  cases Rf.may s.a <;> cases Rf.may s.b <;> rfl

theorem SoS.ok2 {s : SoS} (h : s.inv) (hi : s.i.toNat < 6) : s.bad2 = false := by
  obtain ⟨_, h2, h3, h4, h5⟩ := h
  unfold SoS.bad2
  cases ha : Rf.may s.a with
  | true => cases hb : Rf.may s.b with
    | true =>
      have hm : s.may = true := by rw [h3, ha, hb]; rfl
      have hx : ixN s.i = s.i.toNat := ixN_nat (by omega)
      have : has s.t s.n = true := by
        unfold SoS.t SoS.n SoS.op
        rw [h2, hx]
        exact done_sound (h4 ha) (h5 hb) _ hi
      rw [hm, this]; rfl
    | false =>
      have hm : s.may = false := by rw [h3, ha, hb]; rfl
      have : s.t = nil := done_bad (by simp [Rf.bad2, hb])
      rw [hm, this]; rfl
  | false =>
    have hm : s.may = false := by rw [h3, ha]; rfl
    have : s.t = nil := done_bad (by simp [Rf.bad2, ha])
    rw [hm, this]; rfl

def soT (s : SoS) : Rd SoS := .exit 0 (runN SoS.go SoS.nxt 6 s)

theorem soGoal (s : SoS) (h : s.inv) : LoopGoal Try.prog (loopAt Try.prog 5 pSo) lpSo soT s 3 71 0 := by
  refine lp_rule (cx := ⟨Try.prog, tabOf lC, inlF Try.prog (tabOf lC) noHooks 2⟩) gC (inlF_ok gC 2) (Λ := fun _ => none) (p := []) lpSo SoS.inv SoS.mu SoS.step soT 3 71 0 (fun _ => ⟨rfl, rfl⟩) ?_ ?_ s h
  · intro s r h hi
    refine ⟨.imp s.go true (.pr (0 ≤ toZ .i64 s.i ∧ toZ .i64 s.i < ((6 : Nat) : Int))), by kernel_rfl, fun hg => ?_⟩
    rw [SoS.go_iff hi, decide_eq_true_eq] at hg
    exact (ixOb_holds (n := 6) (by decide) hg).1
  · refine good_run SoS.dec (fun s h => by simp only [SoS.mu]; omega) ?_ ?_
    · intro s hi hg
      have hlt := hg
      rw [SoS.go_iff hi, decide_eq_true_eq] at hlt
      simp only [SoS.step, Rd.sel, hg, if_true, SoS.ok1 hi, SoS.ok2 hi hlt, Bool.false_eq_true, if_false]
    · intro s hi hg
      simp only [SoS.step, Rd.sel, hg, Bool.false_eq_true, if_false]

noncomputable def hSo : FuncId → Hook := fun f p => if f == 5 && p == pSo then some (lpSo.hk soT) else none
def c2 : Cod (Nat → W) := fW.arr 2
def soS (a b : Tn) (f : Nat → W) : SoS := ⟨a, b, false, ok2 a b, a.v ||| f 0 &&& a.m, b.v ||| f 1 &&& b.m, opsF, 0#64⟩

theorem member_mem {t : Tn} (h : may t = true) (n : W) : Mem t (t.v ||| n &&& t.m) := by
  apply BitVec.eq_of_getLsbD_eq
  intro i hi
  have := may_bit h i
  simp only [BitVec.getLsbD_and, BitVec.getLsbD_not, hi, decide_true, Bool.true_and, BitVec.getLsbD_or]
  cases hv : t.v.getLsbD i <;> cases hm : t.m.getLsbD i <;> simp_all

def sArr2 : Sh := .arr 2 (.int .u64)

theorem ev5 (a b : Tn) (f : Nat → W) : Ev Try.prog (tabOf lC) hSo 5 5 [eTn a, eTn b, c2.enc f] (eB true) :=
  Ev.fl (g := true) (L := [0 < 2, 1 < 2, LoopGoal Try.prog (loopAt Try.prog 5 pSo) lpSo soT (soS a b f) 3 71 0]) (by kernel_rfl) (fun _ p hp => by
    simp only [List.mem_cons, List.not_mem_nil, or_false] at hp
    rcases hp with rfl | rfl | rfl
    · decide
    · decide
    · exact soGoal _ ⟨by show (0#64 : W).toNat ≤ 6; decide, rfl, rfl, fun h => member_mem h _, fun h => member_mem h _⟩)

theorem lift5 (os : Os) (started : os.Started) (H : Type) (enc : TypeId × Value → H) :
    ReturnsInHanded {} Try.checked os 5 .any (Rows.tnumSoundSpec.pre6 enc Try.prog Try.f5 Rows.tnumSoundRow.domain false) (Rows.tnumSoundSpec.post enc Try.prog Try.f5 false true false false) :=
  law_lift (C := Try.checked) (tb := 4) [sTn, sTn, sArr2] own started (by kernel_rfl) Try.func5
    (ChangeSpec.witness6 (enc := enc) (C := Try.checked) false ⟨#[], #[.agg #[.int .u64 0, .int .u64 0], .agg #[.int .u64 0, .int .u64 0], .agg #[.int .u64 0, .int .u64 0]], []⟩ 8 (by kernel_rfl) (by kernel_rfl) (by kernel_rfl) (by kernel_rfl))
    (by kernel_rfl) rfl Try.underlying4 rfl
    (fun ds h => match ds, h with | [_, _, _], _ => rfl)
    (fun xs w => match xs with
      | (a, b, f, ()) => (ev5 ⟨a.1, a.2.1⟩ ⟨b.1, b.2.1⟩ f).calls gC (encs_ok (l := [sTn, sTn, sArr2]) (ts := Try.f5.params.toList) (by kernel_rfl) (a, b, f, ())) w)

theorem tnumSound_row : Rows.TnumSoundSaid :=
  OpenClaim.holds_of_wide 5 Try.f5 rfl rfl rfl rfl rfl rfl rfl ⟨rfl, rfl, rfl, rfl, rfl⟩ rfl rfl rfl rfl rfl (by kernel_rfl) Try.func5 (by kernel_rfl)
    (of_decide_eq_true (by kernel_rfl)) (by unfold Func.isWrapper; first | (rw [if_pos (by decide +kernel)]; kernel_rfl) | (rw [if_neg (by decide +kernel)]; exact ⟨rfl, rfl⟩))
    (fun os started H enc _ => lift5 os started H enc)
end Go.Rf

namespace Go.Proofs.Ytkfgohhmicfnhaa
theorem tnumSound_holds : Rows.TnumSoundSaid := Go.Rf.tnumSound_row
end Go.Proofs.Ytkfgohhmicfnhaa
