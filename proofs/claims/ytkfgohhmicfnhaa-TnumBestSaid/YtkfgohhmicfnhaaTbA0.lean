/- Several texts as one: Tb1 Tb2 Tb3 Tb4 Tb5. -/
import Derived.Test.YtkfgohhmicfnhaaTl5
import Derived.Test.YtkfgohhmicfnhaaTp5
import Derived.Test.YtkfgohhmicfnhaaTl10
import Derived.Test.YtkfgohhmicfnhaaRfI
import Derived.LoopN
set_option linter.unusedVariables false
set_option linter.unusedSimpArgs false
set_option maxRecDepth 100000

/- Tnums: no tnum is better: plain. -/
namespace Go.Rf

/-- The tnum that is just what joins some numbers. -/
structure HullT (S : W → Prop) (t : Tn) : Prop where
  some : ∃ n, S n
  mem : ∀ n, S n → Mem t n
  two : ∀ i, i < 64 → t.m.getLsbD i = true → ∃ n n', S n ∧ S n' ∧ n.getLsbD i ≠ n'.getLsbD i

theorem of_mem (n : W) : Mem ⟨n, 0#64⟩ n := by
  show n &&& ~~~0#64 = n
  apply BitVec.eq_of_getLsbD_eq
  intro i hi
  simp only [BitVec.getLsbD_and, BitVec.getLsbD_not, hi, decide_true, Bool.true_and, BitVec.getLsbD_zero, Bool.not_false, Bool.and_true]
theorem pow_bit {i j : Nat} (hi : i < 64) (hj : j < 64) : (1#64 <<< i : W).getLsbD j = decide (i = j) := by
  rw [BitVec.getLsbD_shiftLeft]
  by_cases h : j < i
  · have : i ≠ j := by omega
    simp [hj, h, this]
  · by_cases e : i = j
    · subst e; simp [hj]
    · have h2 : j - i ≠ 0 := by omega
      have : (1#64 : W).getLsbD (j - i) = false := by
        rw [BitVec.getLsbD_one]; simp [h2]
      simp [this, e]
theorem sub_two (x y z : W) : x - (y + z) = x - y - z := by
  apply BitVec.eq_of_toNat_eq
  rw [BitVec.toNat_sub, BitVec.toNat_sub, BitVec.toNat_sub, BitVec.toNat_add]
  have := x.isLt
  have := y.isLt
  have := z.isLt
  omega
theorem hull_one (n : W) : HullT (fun x => x = n) ⟨n, 0#64⟩ :=
  ⟨⟨n, rfl⟩, fun x h => by subst h; exact of_mem x, fun i hi h => by simp at h⟩
theorem hull_join {S : W → Prop} {t : Tn} (h : HullT S t) (n : W) : HullT (fun x => S x ∨ x = n) (tJoin t ⟨n, 0#64⟩) := by
  refine ⟨⟨n, .inr rfl⟩, ?_, ?_⟩
  · rintro x (hx | rfl)
    · exact join_mem_l (h.mem x hx)
    · exact join_mem_r (of_mem x)
  · intro i hi hm
    by_cases ht : t.m.getLsbD i = true
    · obtain ⟨a, b, h1, h2, h3⟩ := h.two i hi ht
      exact ⟨a, b, .inl h1, .inl h2, h3⟩
    · obtain ⟨a, ha⟩ := h.some
      refine ⟨a, n, .inl ha, .inr rfl, ?_⟩
      have ht' : t.m.getLsbD i = false := by simpa using ht
      have hb := (h.mem a ha).bit i hi
      simp only [tJoin, fit, BitVec.getLsbD_or, BitVec.getLsbD_xor, ht', BitVec.getLsbD_zero, Bool.or_false, hb] at hm
      revert hm
      cases a.getLsbD i <;> cases n.getLsbD i <;> simp
theorem hull_cong {S S' : W → Prop} {t : Tn} (h : HullT S t) (e : ∀ x, S x ↔ S' x) : HullT S' t := by
  have : S = S' := funext fun x => propext (e x)
  subst this; exact h
theorem hull_in {S : W → Prop} {t u : Tn} (h : HullT S t) (hu : ∀ n, S n → Mem u n) : t.m &&& ~~~u.m = 0#64 := by
  apply BitVec.eq_of_getLsbD_eq
  intro i hi
  simp only [BitVec.getLsbD_and, BitVec.getLsbD_not, hi, decide_true, Bool.true_and, BitVec.getLsbD_zero]
  cases ht : t.m.getLsbD i with
  | false => rfl
  | true =>
    obtain ⟨a, b, h1, h2, h3⟩ := h.two i hi ht
    cases hm : u.m.getLsbD i with
    | true => rfl
    | false =>
      exfalso
      apply h3
      have q1 := (hu a h1).bit i hi
      have q2 := (hu b h2).bit i hi
      rw [hm] at q1 q2
      simp at q1 q2
      rw [← q1, ← q2]
theorem hull_uniq {S : W → Prop} {t u : Tn} (h : HullT S t) (h' : HullT S u) : t = u := by
  have a1 := hull_in h h'.mem
  have a2 := hull_in h' h.mem
  have em : t.m = u.m := by
    apply BitVec.eq_of_getLsbD_eq
    intro i hi
    have b1 := congrArg (fun x : W => x.getLsbD i) a1
    have b2 := congrArg (fun x : W => x.getLsbD i) a2
    simp only [BitVec.getLsbD_and, BitVec.getLsbD_not, hi, decide_true, Bool.true_and, BitVec.getLsbD_zero] at b1 b2
    revert b1 b2
    cases t.m.getLsbD i <;> cases u.m.getLsbD i <;> simp
  obtain ⟨n, hn⟩ := h.some
  refine Tn.ext' ?_ em
  have c1 : n &&& ~~~t.m = t.v := h.mem n hn
  have c2 : n &&& ~~~u.m = u.v := h'.mem n hn
  rw [← c1, ← c2, em]
theorem hull_isIn {S : W → Prop} {t u : Tn} (h : HullT S t) (hu : ∀ n, S n → Mem u n) : isIn t u = true := by
  obtain ⟨n, hn⟩ := h.some
  have hm := h.mem n hn
  have hz := hull_in h hu
  unfold isIn
  rw [hm.may, hz]
  have : has u t.v = true := by
    rw [has_iff, mem_iff_bits]
    intro i hi
    have b1 := hm.bit i hi
    have b2 := (hu n hn).bit i hi
    have b3 := congrArg (fun x : W => x.getLsbD i) hz
    simp only [BitVec.getLsbD_and, BitVec.getLsbD_not, hi, decide_true, Bool.true_and, BitVec.getLsbD_zero] at b3
    rw [b1, b2]
    revert b3
    cases t.m.getLsbD i <;> cases u.m.getLsbD i <;> cases n.getLsbD i <;> simp
  rw [this]; rfl

/-- What comes of all numbers of both. -/
def Out (f : W → W → W) (a b : Tn) (n : W) : Prop := ∃ x y, Mem a x ∧ Mem b y ∧ n = f x y

theorem lo_mem {t : Tn} (h : may t = true) : Mem t t.v := may_mem h
theorem hi_mem' {t : Tn} (h : may t = true) : Mem t (t.v ||| t.m) := by
  rw [mem_iff_bits]
  intro i hi
  have := may_bit h i
  simp only [BitVec.getLsbD_or]
  revert this
  cases t.v.getLsbD i <;> cases t.m.getLsbD i <;> simp
/-- One of its bits turned. -/
theorem turn_mem {t : Tn} (h : may t = true) {i : Nat} (hi : i < 64) (hm : t.m.getLsbD i = true) : Mem t (t.v + 1#64 <<< i) ∧ t.v.getLsbD i = false := by
  have hv : t.v.getLsbD i = false := by
    have := may_bit h i
    rw [hm] at this
    simpa using this
  refine ⟨?_, hv⟩
  have e : t.v + 1#64 <<< i = t.v ||| 1#64 <<< i := by
    apply BitVec.add_eq_or_of_and_eq_zero
    apply BitVec.eq_of_getLsbD_eq
    intro j hj
    have e2 := pow_bit hi hj
    rw [BitVec.getLsbD_and, e2]
    by_cases h2 : i = j
    · subst h2; rw [hv]; simp
    · simp [h2]
  rw [e, mem_iff_bits]
  intro j hj
  have e2 := pow_bit hi hj
  rw [BitVec.getLsbD_or, e2]
  have := may_bit h j
  by_cases h2 : i = j
  · subst h2; rw [hm, hv]; simp
  · simp only [h2, decide_false, Bool.or_false]
    revert this
    cases t.v.getLsbD j <;> cases t.m.getLsbD j <;> simp
/-- A power of two added turns the bit. -/
theorem add_pow_bit (x : W) {i : Nat} (hi : i < 64) : (x + 1#64 <<< i).getLsbD i = !x.getLsbD i := by
  have e2 : (1#64 <<< i : W).getLsbD i = true := by simp [BitVec.getLsbD_shiftLeft, hi]
  rw [bit_add _ _ _ hi, e2]
  have hc : BitVec.carry i x (1#64 <<< i) false = false := by
    have ez : (1#64 <<< i : W).toNat % 2 ^ i = 0 := by
      rw [BitVec.toNat_shiftLeft]
      have : (1#64 : W).toNat = 1 := rfl
      rw [this, Nat.shiftLeft_eq, Nat.one_mul, mod_mod_pow _ _ (by omega)]
      exact Nat.mod_self _
    have hlt : x.toNat % 2 ^ i < 2 ^ i := Nat.mod_lt _ (Nat.two_pow_pos i)
    show decide (x.toNat % 2 ^ i + (1#64 <<< i : W).toNat % 2 ^ i + (false).toNat ≥ 2 ^ i) = false
    rw [ez]
    exact decide_eq_false (by show ¬ (x.toNat % 2 ^ i + 0 + 0 ≥ 2 ^ i); omega)
  rw [hc]
  cases x.getLsbD i <;> rfl
theorem sub_pow_bit (x : W) {i : Nat} (hi : i < 64) : (x - 1#64 <<< i).getLsbD i = !x.getLsbD i := by
  have := add_pow_bit (x - 1#64 <<< i) hi
  have e : x - 1#64 <<< i + 1#64 <<< i = x := by rw [BitVec.sub_add_cancel]
  rw [e] at this
  rw [this]; simp

variable {a b : Tn} (ha : may a = true) (hb : may b = true)
include ha hb
theorem best_add : HullT (Out (fun x y => x + y) a b) (tAdd a b) := by
  refine ⟨⟨_, a.v, b.v, lo_mem ha, lo_mem hb, rfl⟩, ?_, ?_⟩
  · rintro n ⟨x, y, h1, h2, rfl⟩; exact add_sound h1 h2
  · intro i hi hm
    by_cases h1 : a.m.getLsbD i = true
    · obtain ⟨q1, q2⟩ := turn_mem ha hi h1
      refine ⟨a.v + b.v, (a.v + 1#64 <<< i) + b.v, ⟨_, _, lo_mem ha, lo_mem hb, rfl⟩, ⟨_, _, q1, lo_mem hb, rfl⟩, ?_⟩
      have e : a.v + 1#64 <<< i + b.v = a.v + b.v + 1#64 <<< i := by rw [BitVec.add_assoc, BitVec.add_comm (1#64 <<< i) b.v, ← BitVec.add_assoc]
      rw [e, add_pow_bit _ hi]
      cases (a.v + b.v).getLsbD i <;> simp
    · by_cases h2 : b.m.getLsbD i = true
      · obtain ⟨q1, q2⟩ := turn_mem hb hi h2
        refine ⟨a.v + b.v, a.v + (b.v + 1#64 <<< i), ⟨_, _, lo_mem ha, lo_mem hb, rfl⟩, ⟨_, _, lo_mem ha, q1, rfl⟩, ?_⟩
        rw [← BitVec.add_assoc, add_pow_bit _ hi]
        cases (a.v + b.v).getLsbD i <;> simp
      · refine ⟨a.v + b.v, (a.v ||| a.m) + (b.v ||| b.m), ⟨_, _, lo_mem ha, lo_mem hb, rfl⟩, ⟨_, _, hi_mem' ha, hi_mem' hb, rfl⟩, ?_⟩
        rw [← may_add ha, ← may_add hb]
        have e : a.v + a.m + (b.v + b.m) = a.v + b.v + a.m + b.m := by
          rw [BitVec.add_assoc, BitVec.add_assoc, BitVec.add_assoc]
          congr 1
          rw [← BitVec.add_assoc, BitVec.add_comm a.m b.v, BitVec.add_assoc]
        rw [e]
        simp only [tAdd, fit, BitVec.getLsbD_or, BitVec.getLsbD_xor, h1, h2, Bool.or_false] at hm
        intro h
        rw [← h] at hm
        simp at hm
theorem best_sub : HullT (Out (fun x y => x - y) a b) (tSub a b) := by
  refine ⟨⟨_, a.v, b.v, lo_mem ha, lo_mem hb, rfl⟩, ?_, ?_⟩
  · rintro n ⟨x, y, h1, h2, rfl⟩; exact sub_sound h1 h2
  · intro i hi hm
    by_cases h1 : a.m.getLsbD i = true
    · obtain ⟨q1, q2⟩ := turn_mem ha hi h1
      refine ⟨a.v - b.v, (a.v + 1#64 <<< i) - b.v, ⟨_, _, lo_mem ha, lo_mem hb, rfl⟩, ⟨_, _, q1, lo_mem hb, rfl⟩, ?_⟩
      have e : a.v + 1#64 <<< i - b.v = a.v - b.v + 1#64 <<< i := by
        rw [BitVec.sub_eq_add_neg, BitVec.sub_eq_add_neg, BitVec.add_assoc, BitVec.add_comm (1#64 <<< i), ← BitVec.add_assoc]
      rw [e, add_pow_bit _ hi]
      cases (a.v - b.v).getLsbD i <;> simp
    · by_cases h2 : b.m.getLsbD i = true
      · obtain ⟨q1, q2⟩ := turn_mem hb hi h2
        refine ⟨a.v - b.v, a.v - (b.v + 1#64 <<< i), ⟨_, _, lo_mem ha, lo_mem hb, rfl⟩, ⟨_, _, lo_mem ha, q1, rfl⟩, ?_⟩
        have e : a.v - (b.v + 1#64 <<< i) = a.v - b.v - 1#64 <<< i := by rw [sub_two]
        rw [e, sub_pow_bit _ hi]
        cases (a.v - b.v).getLsbD i <;> simp
      · refine ⟨(a.v ||| a.m) - b.v, a.v - (b.v ||| b.m), ⟨_, _, hi_mem' ha, lo_mem hb, rfl⟩, ⟨_, _, lo_mem ha, hi_mem' hb, rfl⟩, ?_⟩
        rw [← may_add ha, ← may_add hb]
        have e1 : a.v + a.m - b.v = a.v - b.v + a.m := by
          rw [BitVec.sub_eq_add_neg, BitVec.sub_eq_add_neg, BitVec.add_assoc, BitVec.add_comm a.m, ← BitVec.add_assoc]
        have e2 : a.v - (b.v + b.m) = a.v - b.v - b.m := by rw [sub_two]
        rw [e1, e2]
        simp only [tSub, fit, BitVec.getLsbD_or, BitVec.getLsbD_xor, h1, h2, Bool.or_false] at hm
        intro h
        rw [h] at hm
        simp at hm
theorem best_or : HullT (Out (fun x y => x ||| y) a b) (tOr a b) := by
  refine ⟨⟨_, a.v, b.v, lo_mem ha, lo_mem hb, rfl⟩, ?_, ?_⟩
  · rintro n ⟨x, y, h1, h2, rfl⟩; exact or_sound h1 h2
  · intro i hi hm
    refine ⟨a.v ||| b.v, (a.v ||| a.m) ||| (b.v ||| b.m), ⟨_, _, lo_mem ha, lo_mem hb, rfl⟩, ⟨_, _, hi_mem' ha, hi_mem' hb, rfl⟩, ?_⟩
    simp only [tOr, BitVec.getLsbD_and, BitVec.getLsbD_not, hi, decide_true, Bool.true_and, BitVec.getLsbD_or] at hm ⊢
    revert hm
    cases a.m.getLsbD i <;> cases b.m.getLsbD i <;> cases a.v.getLsbD i <;> cases b.v.getLsbD i <;> simp
theorem best_and : HullT (Out (fun x y => x &&& y) a b) (tAnd a b) := by
  refine ⟨⟨_, a.v, b.v, lo_mem ha, lo_mem hb, rfl⟩, ?_, ?_⟩
  · rintro n ⟨x, y, h1, h2, rfl⟩; exact and_sound h1 h2
  · intro i hi hm
    refine ⟨a.v &&& b.v, (a.v ||| a.m) &&& (b.v ||| b.m), ⟨_, _, lo_mem ha, lo_mem hb, rfl⟩, ⟨_, _, hi_mem' ha, hi_mem' hb, rfl⟩, ?_⟩
    simp only [tAnd, BitVec.getLsbD_and, BitVec.getLsbD_not, hi, decide_true, Bool.true_and, BitVec.getLsbD_or] at hm ⊢
    revert hm
    cases a.m.getLsbD i <;> cases b.m.getLsbD i <;> cases a.v.getLsbD i <;> cases b.v.getLsbD i <;> simp
theorem best_xor : HullT (Out (fun x y => x ^^^ y) a b) (tXor a b) := by
  refine ⟨⟨_, a.v, b.v, lo_mem ha, lo_mem hb, rfl⟩, ?_, ?_⟩
  · rintro n ⟨x, y, h1, h2, rfl⟩; exact xor_sound h1 h2
  · intro i hi hm
    by_cases h1 : a.m.getLsbD i = true
    · refine ⟨a.v ^^^ b.v, (a.v ||| a.m) ^^^ b.v, ⟨_, _, lo_mem ha, lo_mem hb, rfl⟩, ⟨_, _, hi_mem' ha, lo_mem hb, rfl⟩, ?_⟩
      have := may_bit ha i
      simp only [BitVec.getLsbD_xor, BitVec.getLsbD_or]
      revert this h1
      cases a.m.getLsbD i <;> cases a.v.getLsbD i <;> cases b.v.getLsbD i <;> simp
    · refine ⟨a.v ^^^ b.v, a.v ^^^ (b.v ||| b.m), ⟨_, _, lo_mem ha, lo_mem hb, rfl⟩, ⟨_, _, lo_mem ha, hi_mem' hb, rfl⟩, ?_⟩
      have := may_bit hb i
      simp only [tXor, fit, BitVec.getLsbD_or] at hm
      simp only [BitVec.getLsbD_xor, BitVec.getLsbD_or]
      revert this h1 hm
      cases a.m.getLsbD i <;> cases b.m.getLsbD i <;> cases a.v.getLsbD i <;> cases b.v.getLsbD i <;> simp
theorem best_done (j : Nat) (hj : j < 6) (h2 : j ≠ 2) : HullT (Out (aluV (opsF j) true) a b) (doneT (opsF j) a b) := by
  have hbad := bad2_false ha hb
  have hc : j = 0 ∨ j = 1 ∨ j = 3 ∨ j = 4 ∨ j = 5 := by omega
  rcases hc with rfl | rfl | rfl | rfl | rfl
  · have e1 : doneT (opsF 0) a b = Tn.mux (bad2 a b) nil (tAdd a b) := rfl
    rw [e1, hbad]; exact best_add ha hb
  · have e1 : doneT (opsF 1) a b = Tn.mux (bad2 a b) nil (tSub a b) := rfl
    rw [e1, hbad]; exact best_sub ha hb
  · have e1 : doneT (opsF 3) a b = Tn.mux (bad2 a b) nil (tOr a b) := rfl
    rw [e1, hbad]; exact best_or ha hb
  · have e1 : doneT (opsF 4) a b = Tn.mux (bad2 a b) nil (tAnd a b) := rfl
    rw [e1, hbad]; exact best_and ha hb
  · have e1 : doneT (opsF 5) a b = Tn.mux (bad2 a b) nil (tXor a b) := rfl
    rw [e1, hbad]; exact best_xor ha hb
omit ha hb in
theorem sound_done (j : Nat) (hj : j < 6) (n : W) (h : Out (aluV (opsF j) true) a b n) : Mem (doneT (opsF j) a b) n := by
  obtain ⟨x, y, h1, h2, rfl⟩ := h
  exact has_iff.1 (done_sound h1 h2 j hj)
end Go.Rf

/- Tnums: the contracts of narrow and of what else the law calls. -/
namespace Go.Rf
open Go.Proofs

structure NaS where
  t : Tn
  o : Tn
  most : W
  i : W
def pNa : List Nat := [1, 1, 0, 1, 4]
noncomputable def lpNa : Lp NaS where
  keys := [2, 5, 6, 1]
  names := [0, 2]
  scr := wrAt Try.prog 33 pNa
  vals s := [.ptr 0 [], .ptr 2 [], eI s.i, eI s.most]
  blks s := [⟨24, eTn s.t⟩, ⟨24, eTn s.o⟩]
  dec vs bs := match vs, bs with
    | [_, _, i, m], [⟨_, t⟩, ⟨_, o⟩] => match cI.dec i, cI.dec m, cTn.dec t, cTn.dec o with
      | some i, some m, some t, some o => some ⟨t, o, m, i⟩
      | _, _, _, _ => none
    | _, _ => none
def bitI (i : W) : W := 1#64 <<< amt .u64 (convB .i64 .u64 i)
def NaS.go (s : NaS) : Bool := ltB .i64 s.i 64#64
def NaS.any (s : NaS) : Bool := ((s.t.m &&& bitI s.i) != 0#64) && ltB .i64 0#64 s.most
def NaS.n1 (s : NaS) : NaS := ⟨s.t, ⟨s.o.v, s.o.m ||| bitI s.i⟩, s.most - 1#64, s.i + 1#64⟩
def NaS.n2 (s : NaS) : NaS := ⟨s.t, ⟨s.o.v ||| ((s.t.v &&& bitI s.i) &&& ~~~s.t.m), s.o.m⟩, s.most, s.i + 1#64⟩
def NaS.nxt (s : NaS) : NaS := if s.any = true then s.n1 else s.n2
def NaS.step (s : NaS) : Rd NaS := .br s.go (.br s.any (.norm s.n1) (.norm s.n2)) (.exit 0 s)
def NaS.inv (s : NaS) : Prop := s.i.toNat ≤ 64
def NaS.mu (s : NaS) : Nat := 64 - s.i.toNat
theorem NaS.nxt_i (s : NaS) : s.nxt.i = s.i + 1#64 := by unfold NaS.nxt; split <;> rfl
theorem NaS.dec (s : NaS) (h : s.inv) (hg : s.go = true) : s.nxt.inv ∧ s.nxt.mu < s.mu := by
  have h' : s.i.toNat ≤ 64 := h
  rw [NaS.go, ltB_nat (by omega) (by decide), decide_eq_true_eq] at hg
  have z : (64#64 : W).toNat = 64 := rfl
  have e : s.nxt.i.toNat = s.i.toNat + 1 := by rw [NaS.nxt_i]; exact succ_nat (by omega)
  simp only [NaS.inv, NaS.mu, e]
  omega
def naT (s : NaS) : Rd NaS := .exit 0 (runN NaS.go NaS.nxt 64 s)
theorem naGoal (s : NaS) (h : s.inv) : LoopGoal Try.prog (loopAt Try.prog 33 pNa) lpNa naT s 3 43 0 := by
  refine lp_rule (cx := ⟨Try.prog, tabOf lC, inlF Try.prog (tabOf lC) noHooks 2⟩) gC (inlF_ok gC 2) (Λ := fun _ => none) (p := []) lpNa NaS.inv NaS.mu NaS.step naT 3 43 0 (fun _ => ⟨rfl, rfl⟩) ?_ ?_ s h
  · intro s r h hi
    exact ⟨.tt, by kernel_rfl, trivial⟩
  · refine good_run NaS.dec (fun s h => by simp only [NaS.mu]; omega) ?_ ?_
    · intro s hi hg
      simp only [NaS.step, Rd.sel, hg, if_true]
      unfold NaS.nxt
      cases s.any <;> rfl
    · intro s hi hg
      simp only [NaS.step, Rd.sel, hg, Bool.false_eq_true, if_false]
noncomputable def hNa : FuncId → Hook := fun f p => if f == 33 && p == pNa then some (lpNa.hk naT) else none
def narrD (t : Tn) (n : W) : Tn := (runN NaS.go NaS.nxt 64 ⟨t, ⟨0#64, 0#64⟩, n, 0#64⟩).o
theorem k33 : ConOk Try.prog 33 (con2 cTn cI fun t n => eTn (narrD t n)) :=
  con2_ok gC (Λ := hNa) 5 (fun _ _ => rfl) (fun t n => Ev.fl (g := true) (L := [LoopGoal Try.prog (loopAt Try.prog 33 pNa) lpNa naT ⟨t, ⟨0#64, 0#64⟩, n, 0#64⟩ 3 43 0]) (by kernel_rfl)
    (fun _ p hp => by simp only [List.mem_singleton] at hp; subst hp; exact naGoal _ (by show (0#64 : W).toNat ≤ 64; decide)))
noncomputable def lB1 : List (FuncId × Con) :=
  (33, con2 cTn cI fun t n => eTn (narrD t n)) ::
  (35, con2 cTn cTn fun a b => resTE (bad2 a b) (made (joL a b))) ::
  (36, con2 cTn cTn fun a b => eB (inD a b)) :: lC
theorem gB1 : TabOk Try.prog (tabOf lB1) := tabOf_cons (tabOf_cons (tabOf_cons gC k36) k35) k33
noncomputable def cxB : Cx := ⟨Try.prog, tabOf lB1, inlF Try.prog (tabOf lB1) noHooks 3⟩
theorem hIB : InlOk cxB.P cxB.inl := inlF_ok gB1 3
end Go.Rf

/- Tnums: narrow tnums and all their numbers: plain. -/
namespace Go.Rf

def cntM (m : W) : Nat → Nat
  | 0 => 0
  | k + 1 => cntM m k + (if m.getLsbD k = true then 1 else 0)
theorem cntM_cong {m m' : W} : ∀ k, (∀ j, j < k → m.getLsbD j = m'.getLsbD j) → cntM m k = cntM m' k
  | 0, _ => rfl
  | k + 1, h => by
    unfold cntM
    rw [cntM_cong k (fun j hj => h j (by omega)), h k (by omega)]
theorem cntM_mono (m : W) {i : Nat} : ∀ d, cntM m i ≤ cntM m (i + d)
  | 0 => Nat.le_refl _
  | d + 1 => by
    have := cntM_mono m (i := i) d
    have e : cntM m (i + (d + 1)) = cntM m (i + d) + (if m.getLsbD (i + d) = true then 1 else 0) := rfl
    rw [e]; omega
theorem bitI_eq {i : Nat} (hi : i < 64) : bitI (BitVec.ofNat 64 i) = 1#64 <<< i := by
  unfold bitI
  have e : (BitVec.ofNat 64 i : W).toInt = i := by rw [BitVec.toInt_eq_toNat_of_lt (by rw [ofNat_toNat (by omega)]; omega), ofNat_toNat (by omega)]
  have : amt .u64 (convB .i64 .u64 (BitVec.ofNat 64 i)) = i := by
    have e1 : convB .i64 .u64 (BitVec.ofNat 64 i) = (BitVec.ofNat 64 i : W) := by show ((BitVec.ofNat 64 i : W).signExtend 64) = _; rw [BitVec.signExtend_eq]
    rw [e1]
    show (BitVec.ofNat 64 i : W).toNat = i
    exact ofNat_toNat (by omega)
  rw [this]
theorem and_pow (x : W) {i : Nat} (hi : i < 64) : ((x &&& 1#64 <<< i) == 0#64) = !x.getLsbD i := by
  rw [Bool.eq_iff_iff, beq_iff_eq]
  constructor
  · intro h
    have := congrArg (fun z : W => z.getLsbD i) h
    simp only [BitVec.getLsbD_and, pow_bit hi hi, decide_true, Bool.and_true, BitVec.getLsbD_zero] at this
    rw [this]; rfl
  · intro h
    apply BitVec.eq_of_getLsbD_eq
    intro j hj
    rw [BitVec.getLsbD_and, pow_bit hi hj, BitVec.getLsbD_zero]
    by_cases e : i = j
    · subst e
      have : x.getLsbD i = false := by simpa using h
      rw [this]; rfl
    · simp [e]

/-! narrow. -/
def naS (t : Tn) : Nat → NaS
  | 0 => ⟨t, ⟨0#64, 0#64⟩, 5#64, 0#64⟩
  | i + 1 => (naS t i).nxt
structure NaOk (t : Tn) (i : Nat) : Prop where
  ft : (naS t i).t = t
  fi : (naS t i).i = BitVec.ofNat 64 i
  most : ∃ m, m + cntM (naS t i).o.m i = 5 ∧ (naS t i).most = BitVec.ofNat 64 m
  up : ∀ j, i ≤ j → j < 64 → (naS t i).o.m.getLsbD j = false ∧ (naS t i).o.v.getLsbD j = false
  low : ∀ j, j < 64 → ((naS t i).o.v.getLsbD j && (naS t i).o.m.getLsbD j) = false
theorem na_ok (t : Tn) : ∀ i, i ≤ 64 → NaOk t i
  | 0, _ => ⟨rfl, rfl, ⟨5, rfl, rfl⟩, fun j _ _ => by simp [naS], fun j _ => by simp [naS]⟩
  | i + 1, hi => by
    obtain ⟨h1, h2, ⟨m, h3, h3'⟩, h4, h5⟩ := na_ok t i (by omega)
    have hi' : i < 64 := by omega
    have en : naS t (i + 1) = (naS t i).nxt := rfl
    have eb : bitI (naS t i).i = 1#64 <<< i := by rw [h2, bitI_eq hi']
    by_cases hg : (naS t i).any = true
    · have e : naS t (i + 1) = (naS t i).n1 := by rw [en]; unfold NaS.nxt; rw [if_pos hg]
      have hm : 0 < m := by
        unfold NaS.any at hg
        rw [Bool.and_eq_true] at hg
        have hg' : ltB .i64 0#64 (naS t i).most = true := hg.2
        rw [h3', show (0#64 : W) = BitVec.ofNat 64 0 from rfl, ltB_ofNat (by omega) (by omega)] at hg'
        exact of_decide_eq_true hg'
      have em : ∀ j, j < 64 → ((naS t i).o.m ||| 1#64 <<< i).getLsbD j = ((naS t i).o.m.getLsbD j || decide (i = j)) := fun j hj => by rw [BitVec.getLsbD_or, pow_bit hi' hj]
      have e1 : (naS t i).n1.o = ⟨(naS t i).o.v, (naS t i).o.m ||| 1#64 <<< i⟩ := by unfold NaS.n1; rw [eb]
      refine ⟨?_, ?_, ?_, ?_, ?_⟩
      · rw [e]; exact h1
      · rw [e]; show (naS t i).i + 1#64 = _; rw [h2, ofNat_succ]
      · rw [e, e1]
        refine ⟨m - 1, ?_, ?_⟩
        · show m - 1 + (cntM ((naS t i).o.m ||| 1#64 <<< i) i + (if ((naS t i).o.m ||| 1#64 <<< i).getLsbD i = true then 1 else 0)) = 5
          rw [em i hi', cntM_cong (m := (naS t i).o.m ||| 1#64 <<< i) (m' := (naS t i).o.m) i (fun j hj => by
            rw [em j (by omega)]
            have : ¬ i = j := by omega
            simp [this])]
          simp only [decide_true, Bool.or_true, if_true]
          omega
        · show (naS t i).most - 1#64 = _
          rw [h3']
          obtain ⟨k, rfl⟩ : ∃ k, m = k + 1 := ⟨m - 1, by omega⟩
          rw [← ofNat_succ, BitVec.add_sub_cancel]; rfl
      · intro j hj hj64
        rw [e, e1]
        have q := h4 j (by omega) hj64
        have : ¬ i = j := by omega
        refine ⟨?_, q.2⟩
        show ((naS t i).o.m ||| 1#64 <<< i).getLsbD j = false
        rw [em j hj64, q.1]; simp [this]
      · intro j hj
        rw [e, e1]
        show ((naS t i).o.v.getLsbD j && ((naS t i).o.m ||| 1#64 <<< i).getLsbD j) = false
        rw [em j hj]
        by_cases e : i = j
        · subst e
          rw [(h4 i (Nat.le_refl _) hj).2]; rfl
        · have := h5 j hj
          simp only [e, decide_false, Bool.or_false]; exact this
    · have e : naS t (i + 1) = (naS t i).n2 := by rw [en]; unfold NaS.nxt; rw [if_neg hg]
      have e1 : (naS t i).n2.o = ⟨(naS t i).o.v ||| ((t.v &&& 1#64 <<< i) &&& ~~~t.m), (naS t i).o.m⟩ := by unfold NaS.n2; rw [eb, h1]
      have ev : ∀ j, j < 64 → ((naS t i).o.v ||| ((t.v &&& 1#64 <<< i) &&& ~~~t.m)).getLsbD j = ((naS t i).o.v.getLsbD j || ((t.v.getLsbD j && decide (i = j)) && !t.m.getLsbD j)) := fun j hj => by
        rw [BitVec.getLsbD_or, BitVec.getLsbD_and, BitVec.getLsbD_and, pow_bit hi' hj, BitVec.getLsbD_not]; simp [hj]
      refine ⟨?_, ?_, ?_, ?_, ?_⟩
      · rw [e]; exact h1
      · rw [e]; show (naS t i).i + 1#64 = _; rw [h2, ofNat_succ]
      · rw [e, e1]
        refine ⟨m, ?_, h3'⟩
        show m + (cntM (naS t i).o.m i + (if (naS t i).o.m.getLsbD i = true then 1 else 0)) = 5
        rw [(h4 i (Nat.le_refl _) hi').1]
        simp only [Bool.false_eq_true, if_false]; omega
      · intro j hj hj64
        rw [e, e1]
        have q := h4 j (by omega) hj64
        have : ¬ i = j := by omega
        refine ⟨q.1, ?_⟩
        show ((naS t i).o.v ||| ((t.v &&& 1#64 <<< i) &&& ~~~t.m)).getLsbD j = false
        rw [ev j hj64, q.2]; simp [this]
      · intro j hj
        rw [e, e1]
        show (((naS t i).o.v ||| ((t.v &&& 1#64 <<< i) &&& ~~~t.m)).getLsbD j && (naS t i).o.m.getLsbD j) = false
        rw [ev j hj]
        by_cases e : i = j
        · subst e
          rw [(h4 i (Nat.le_refl _) hj).1]; simp
        · have := h5 j hj
          simp only [e, decide_false, Bool.and_false, Bool.false_and, Bool.or_false]; exact this
def narrowT (t : Tn) : Tn := (naS t 64).o
theorem narrow_may (t : Tn) : may (narrowT t) = true := by
  have h := (na_ok t 64 (Nat.le_refl _)).low
  unfold may
  rw [beq_iff_eq]
  apply BitVec.eq_of_getLsbD_eq
  intro j hj
  rw [BitVec.getLsbD_and, BitVec.getLsbD_zero]
  exact h j hj
theorem narrow_few (t : Tn) : cntM (narrowT t).m 64 ≤ 5 := by
  obtain ⟨m, h, _⟩ := (na_ok t 64 (Nat.le_refl _)).most
  show cntM (naS t 64).o.m 64 ≤ 5
  omega
theorem narrow_run (t : Tn) : narrD t 5#64 = narrowT t := by
  have := runN_count (go := NaS.go) (next := NaS.nxt) (fun i => naS t i) 64 (fun i hi => by
    unfold NaS.go
    rw [(na_ok t i hi).fi, show (64#64 : W) = BitVec.ofNat 64 64 from rfl, ltB_ofNat (by omega) (by omega)]) (fun i hi => rfl)
  exact congrArg NaS.o this

/-! all. -/
def elI (f : Nat → W) (n : Nat) (bit : W) : Nat → Nat → W
  | 0 => f
  | k + 1 => catE (n + k) (elI f n bit k) fun _ => elI f n bit k k ||| bit
theorem elI_low (f : Nat → W) (n : Nat) (bit : W) : ∀ k j, j < n → elI f n bit k j = f j
  | 0, _, _ => rfl
  | k + 1, j, h => by
    unfold elI catE
    rw [if_pos (by omega)]
    exact elI_low f n bit k j h
theorem elI_up (f : Nat → W) (n : Nat) (bit : W) : ∀ k, k ≤ n → ∀ j, j < k → elI f n bit k (n + j) = f j ||| bit
  | 0, _, j, h => by omega
  | k + 1, hk, j, h => by
    unfold elI catE
    by_cases e : j < k
    · rw [if_pos (by omega)]
      exact elI_up f n bit k (by omega) j e
    · rw [if_neg (by omega), elI_low f n bit k k (by omega)]
      have : j = k := by omega
      rw [this]
def lenA (t : Tn) : Nat → Nat
  | 0 => 1
  | i + 1 => if t.m.getLsbD i = true then lenA t i + lenA t i else lenA t i
def elA (t : Tn) : Nat → Nat → W
  | 0 => fun _ => t.v
  | i + 1 => if t.m.getLsbD i = true then elI (elA t i) (lenA t i) (1#64 <<< i) (lenA t i) else elA t i
theorem lenA_pow (t : Tn) : ∀ i, lenA t i = 2 ^ cntM t.m i
  | 0 => rfl
  | i + 1 => by
    unfold lenA cntM
    rw [lenA_pow t i]
    split
    · rw [Nat.pow_succ]; omega
    · rfl
theorem lenA_le {t : Tn} (h : cntM t.m 64 ≤ 5) {i : Nat} (hi : i ≤ 64) : lenA t i ≤ 32 := by
  rw [lenA_pow]
  have := cntM_mono t.m (i := i) (64 - i)
  rw [show i + (64 - i) = 64 by omega] at this
  have : 2 ^ cntM t.m i ≤ 2 ^ 5 := Nat.pow_le_pow_right (by decide) (by omega)
  omega
def PA (t : Tn) (i : Nat) (n : W) : Prop := ∀ j, j < 64 → t.v.getLsbD j = (n.getLsbD j && !(t.m.getLsbD j && decide (j < i)))
theorem all_iff {t : Tn} (ht : may t = true) : ∀ i, i ≤ 64 → ∀ n, (∃ k, k < lenA t i ∧ elA t i k = n) ↔ PA t i n
  | 0, _, n => by
    constructor
    · rintro ⟨k, _, h⟩ j hj
      have : n = t.v := h.symm
      rw [this]; simp
    · intro h
      refine ⟨0, by show 0 < 1; omega, ?_⟩
      show t.v = n
      apply BitVec.eq_of_getLsbD_eq
      intro j hj
      have := h j hj
      simpa using this
  | i + 1, hi, n => by
    have ih := all_iff ht i (by omega)
    have hi' : i < 64 := by omega
    unfold lenA elA
    by_cases hm : t.m.getLsbD i = true
    · rw [if_pos hm, if_pos hm]
      have hv : t.v.getLsbD i = false := by
        have := may_bit ht i
        rw [hm] at this; simpa using this
      have hsplit : (∃ k, k < lenA t i + lenA t i ∧ elI (elA t i) (lenA t i) (1#64 <<< i) (lenA t i) k = n) ↔ PA t i n ∨ ∃ n', PA t i n' ∧ n = n' ||| 1#64 <<< i := by
        constructor
        · rintro ⟨k, hk, h⟩
          by_cases e : k < lenA t i
          · rw [elI_low _ _ _ _ _ e] at h
            exact .inl ((ih n).1 ⟨k, e, h⟩)
          · have := elI_up (elA t i) (lenA t i) (1#64 <<< i) (lenA t i) (Nat.le_refl _) (k - lenA t i) (by omega)
            rw [show lenA t i + (k - lenA t i) = k by omega] at this
            rw [this] at h
            exact .inr ⟨_, (ih _).1 ⟨_, by omega, rfl⟩, h.symm⟩
        · rintro (h | ⟨n', h, e⟩)
          · obtain ⟨k, hk, h⟩ := (ih n).2 h
            exact ⟨k, by omega, by rw [elI_low _ _ _ _ _ hk]; exact h⟩
          · obtain ⟨k, hk, h⟩ := (ih n').2 h
            exact ⟨lenA t i + k, by omega, by rw [elI_up _ _ _ _ (Nat.le_refl _) _ hk, h, e]⟩
      rw [hsplit]
      constructor
      · rintro (h | ⟨n', h, rfl⟩) j hj
        · have := h j hj
          by_cases e : j = i
          · subst e
            simp only [Nat.lt_irrefl, decide_false, Bool.and_false, Bool.not_false, Bool.and_true] at this
            rw [hv] at this ⊢
            rw [← this]; rfl
          · have e2 : decide (j < i + 1) = decide (j < i) := by congr 1; simp only [eq_iff_iff]; omega
            rw [e2]; exact this
        · have := h j hj
          rw [BitVec.getLsbD_or, pow_bit hi' hj]
          by_cases e : j = i
          · subst e
            rw [hv, hm]; simp
          · have e2 : decide (j < i + 1) = decide (j < i) := by congr 1; simp only [eq_iff_iff]; omega
            have e3 : decide (i = j) = false := decide_eq_false (by omega)
            rw [e2, e3, Bool.or_false]; exact this
      · intro h
        by_cases hn : n.getLsbD i = true
        · right
          refine ⟨n &&& ~~~(1#64 <<< i), ?_, ?_⟩
          · intro j hj
            have := h j hj
            rw [BitVec.getLsbD_and, BitVec.getLsbD_not, pow_bit hi' hj]
            by_cases e : j = i
            · subst e; rw [hv]; simp
            · have e2 : decide (j < i + 1) = decide (j < i) := by congr 1; simp only [eq_iff_iff]; omega
              have e3 : decide (i = j) = false := decide_eq_false (by omega)
              rw [e2] at this
              rw [e3, this]; simp [hj]
          · apply BitVec.eq_of_getLsbD_eq
            intro j hj
            rw [BitVec.getLsbD_or, BitVec.getLsbD_and, BitVec.getLsbD_not, pow_bit hi' hj]
            by_cases e : j = i
            · subst e; rw [hn]; simp
            · have e3 : decide (i = j) = false := decide_eq_false (by omega)
              rw [e3]; simp [hj]
        · left
          intro j hj
          have := h j hj
          by_cases e : j = i
          · subst e
            have hn' : n.getLsbD j = false := by simpa using hn
            rw [hn', hv]; rfl
          · have e2 : decide (j < i + 1) = decide (j < i) := by congr 1; simp only [eq_iff_iff]; omega
            rw [e2] at this; exact this
    · rw [if_neg hm, if_neg hm, ih n]
      have hm' : t.m.getLsbD i = false := by simpa using hm
      have : ∀ j, (t.m.getLsbD j && decide (j < i)) = (t.m.getLsbD j && decide (j < i + 1)) := fun j => by
        by_cases e : j = i
        · subst e; rw [hm']; rfl
        · have e2 : decide (j < i + 1) = decide (j < i) := by congr 1; simp only [eq_iff_iff]; omega
          rw [e2]
      unfold PA
      simp only [this]
theorem all_mem {t : Tn} (ht : may t = true) (n : W) : (∃ k, k < lenA t 64 ∧ elA t 64 k = n) ↔ Mem t n := by
  rw [all_iff ht 64 (Nat.le_refl _), mem_iff_bits]
  unfold PA
  constructor
  · intro h i hi
    have := h i hi
    rw [decide_eq_true hi, Bool.and_true] at this
    exact this
  · intro h i hi
    rw [decide_eq_true hi, Bool.and_true]
    exact h i hi
end Go.Rf

/- Tnums: all gives a row of numbers: states. -/
namespace Go.Rf
open Go.Proofs

/-! What a state is known to be. -/
def unlit : AV → AV
  | .lit k n => if n = 0 then .int k fun _ => BitVec.ofInt _ 0 else .lit k n
  | .blit b => .bool fun _ => b
  | v => v
theorem unlit_rel {E : Env} {v : AV} {y : Value} (h : TRel E v y) : TRel E (unlit v) y := by
  cases v with
  | lit k n =>
    show TRel E (if n = 0 then .int k fun _ => BitVec.ofInt _ 0 else .lit k n) y
    by_cases h0 : n = 0
    · rw [if_pos h0]
      subst h0
      refine ⟨trivial, ?_⟩
      rw [← h.2]
      cases k <;> rfl
    · rw [if_neg h0]; exact h
  | blit b => exact ⟨trivial, h.2⟩
  | _ => exact h
theorem kept_cons {st : St} {n : Nat} {x : Nat × AV} {ents : List (Nat × AV)} {hbs : List (Nat × Option Blk)} (hx : ∀ E y, TRel E (st.look x.1) y → TRel E x.2 y) (hn : nltB n x.2 = true) (h : Kept st n ents hbs) : Kept st n (x :: ents) hbs :=
  ⟨fun y hy => by
    rcases List.mem_cons.1 hy with rfl | hy
    · exact ⟨hx, nltB_nlt hn⟩
    · exact h.ent y hy, h.blk, h.lo⟩
theorem kept_of {st : St} {n : Nat} {ents : List (Nat × AV)} {hbs : List (Nat × Option Blk)} (h1 : (ents.map fun x => unlit (st.look x.1)) = ents.map (·.2)) (h2 : (hbs.map fun x => st.hp x.1) = hbs.map (·.2))
    (hn1 : (ents.all fun x => nltB n x.2) = true) (hn2 : (hbs.all fun x => Nat.blt x.1 n && match x.2 with | some B => nltB n B.v | none => true) = true) (hlo : Nat.ble st.lo n = true) : Kept st n ents hbs := by
  refine ⟨fun x hx => ⟨fun E y h => ?_, nltB_nlt (List.all_eq_true.1 hn1 x hx)⟩, fun x hx => ?_, Nat.le_of_ble_eq_true hlo⟩
  · have e : unlit (st.look x.1) = x.2 := (List.map_inj_left.1 h1) x hx
    rw [← e]; exact unlit_rel h
  · have e : st.hp x.1 = x.2 := (List.map_inj_left.1 h2) x hx
    have q := List.all_eq_true.1 hn2 x hx
    simp only [Bool.and_eq_true] at q
    refine ⟨by have := q.1; rw [Nat.blt_eq] at this; exact this, e, fun B hB => ?_⟩
    have := q.2
    rw [hB] at this
    exact nltB_nlt this
theorem norm_rel {st : St} {n nt lo : Nat} {ents : List (Nat × AV)} {hbs : List (Nat × Option Blk)} (hk : Kept st n ents hbs) (hnt : st.nt = nt) (hlo : st.lo = lo) {Es : Env} {ws : World} {a : Act} {w : World} (hs : SRel Es ws st a w) :
    SRel Es ws ⟨ents, fun _ => .un, hbs, fun _ => none, n, nt, lo⟩ a w := by
  have := hk.rel hs
  rwa [hnt, hlo] at this

noncomputable def codB (f : Nat) (p : List Nat) : Code := match Try.prog.funcs[f]? with
  | some fn => match fn.body with
    | some c => match codeAt c p with
      | some d => d
      | none => .skip
    | none => .skip
  | none => .skip
noncomputable def opsB (f : Nat) (p : List Nat) : List Oper := match codB f p with
  | .region _ ops _ => ops.toList
  | _ => []
noncomputable def opB (l : List Oper) (k : Nat) : Oper := (l.drop k).headD default
noncomputable def outB (x : Option (St × Ob)) : St := match x with
  | some y => y.1
  | none => ⟨[], fun _ => .un, [], fun _ => none, 0, 0, 0⟩
theorem regB {l : List Oper} {st st' : St} (he : ∃ ob, evalList cxB l st = some (st', ob) ∧ ob.holds) {id : Nat} {Es : Env} {ws : World} {a : Act} {w : World} (hs : SRel Es ws st a w) {Q : Exit → Act → World → Prop} (hQ : ∀ a' w', SRel Es ws st' a' w' → Q .normal a' w') :
    (Code.region id l.toArray false).wp Try.prog Q a w := by
  obtain ⟨ob, h1, h2⟩ := he
  exact region_wp (cx := cxB) gB1 hIB h1 h2 hs hQ
theorem lstB {l : List Oper} {st st' : St} (hg : noGd l = true) (he : ∃ ob, evalList cxB l st = some (st', ob) ∧ ob.holds) {Es : Env} {ws : World} {a : Act} {w : World} (hs : SRel Es ws st a w) {Q : Exit → Act → World → Prop} (hQ : ∀ a' w', SRel Es ws st' a' w' → Q .normal a' w') :
    wpList Try.prog #[] Q l a w := by
  obtain ⟨ob, h1, h2⟩ := he
  exact evalList_wp (cx := cxB) gB1 hIB hg h1 h2 hs hQ
theorem codeB {c : Code} {Λ : Hook} {p : List Nat} {st st' : St} (he : ∃ ob, evalCode cxB Λ c p st = some (.norm st', ob) ∧ ob.holds) {Es : Env} {ws : World} {a : Act} {w : World} (hs : SRel Es ws st a w) {Q : Exit → Act → World → Prop} (hQ : ∀ a' w', SRel Es ws st' a' w' → Q .normal a' w') :
    c.wp Try.prog Q a w := by
  obtain ⟨ob, h1, h2⟩ := he
  refine wp_mono (evalCode_wp (cx := cxB) gB1 hIB c p st _ ob h1 h2 a w hs) fun e a' w' hm => ?_
  cases e <;> simp only [MatchO] at hm
  exact hQ a' w' hm
theorem boolB {st : St} {t : Nat} {b : Bool} (h : st.look t = .bool fun _ => b) {Es : Env} {ws : World} {a : Act} {w : World} (hs : SRel Es ws st a w) : a.eval (.tmp t) = .bool b := by
  obtain ⟨E, h1, _⟩ := hs
  have q := h1 t
  rw [h] at q
  exact q.2.symm

def sU : Sh := .int .u64
theorem flatU : Flat sU := ⟨by kernel_rfl, fun y => Sh.enc_len sU (by kernel_rfl) y, by decide, fun _ => by show sU.good = true; kernel_rfl⟩

/-! Its code. -/
noncomputable def J0 : List Oper := opsB 34 [0]
noncomputable def J1 : List Oper := opsB 34 [1, 0]
noncomputable def J2 : List Oper := opsB 34 [1, 1, 0, 0]
noncomputable def J3 : List Oper := opsB 34 [1, 1, 0, 1, 4, 5, 0, 0]
noncomputable def J5 : List Oper := opsB 34 [1, 1, 0, 1, 4, 5, 1, 0, 4, 0]
noncomputable def J6 : List Oper := opsB 34 [1, 1, 0, 1, 4, 5, 1, 0, 4, 1, 0, 0]
noncomputable def J7 : List Oper := opsB 34 [1, 1, 0, 1, 4, 5, 1, 0, 4, 1, 1, 0]
noncomputable def J8 : List Oper := opsB 34 [1, 1, 0, 1, 4, 5, 1, 0, 4, 1, 1, 1, 0]
noncomputable def J9 : List Oper := opsB 34 [1, 1, 0, 1, 4, 5, 1, 0, 4, 1, 1, 1, 1, 4, 5, 0, 0]
noncomputable def J11 : List Oper := opsB 34 [1, 1, 0, 1, 4, 5, 1, 0, 4, 1, 1, 1, 1, 4, 5, 1, 0, 4]
noncomputable def J10 : List Oper := opsB 34 [1, 1, 0, 1, 4, 5, 1, 0, 4, 1, 1, 1, 1, 4, 5, 1, 1]
noncomputable def J4 : List Oper := opsB 34 [1, 1, 0, 1, 4, 5, 1, 1]
noncomputable def J12 : List Oper := opsB 34 [1, 1, 1, 0]
noncomputable def rndI : Code := .seq (.seq (.region 9 J9.toArray false) (.cond (.tmp 27) .skip (.exit 2))) (.seq (.block 3 (.region 11 J11.toArray false)) (.region 10 J10.toArray false))
noncomputable def rndA : Code := .seq (.seq (.region 3 J3.toArray false) (.cond (.tmp 12) .skip (.exit 0)))
  (.seq (.block 1 (.seq (.region 5 J5.toArray false) (.seq (.seq (.region 6 J6.toArray false) (.cond (.tmp 22) (.exit 1) .skip)) (.seq (.region 7 J7.toArray false) (.seq (.region 8 J8.toArray false) (.block 2 (.loop rndI))))))) (.region 4 J4.toArray false))
theorem body34 : Try.f34.body = some (.seq (.region 0 J0.toArray false) (.seq (.region 1 J1.toArray false) (.seq (.seq (.region 2 J2.toArray false) (.block 0 (.loop rndA))) (.seq (.region 12 J12.toArray false) .ret)))) := by kernel_rfl
noncomputable def J11a : List Oper := J11.take 8
noncomputable def opAp : Oper := opB J11 8
noncomputable def opAs : Oper := opB J11 9
theorem J11_eq : J11 = J11a ++ (opAp :: [opAs]) := by kernel_rfl
theorem gJ11a : noGd J11a = true := by kernel_rfl
theorem gJ11 : noGd J11 = true := by kernel_rfl
theorem gAs : noGd [opAs] = true := by kernel_rfl

/-! Its states. -/
def hbA (t : Tn) : List (Nat × Option Blk) := [(0, some ⟨24, eTn t⟩)]
def enA (i : W) : List (Nat × AV) := [(4, eI i), (1, .ptr 0 [])]
def enI (i n k : W) : List (Nat × AV) := [(7, eI k), (4, eI i), (1, .ptr 0 []), (5, eW (bitI i)), (6, eI n)]
def stA (t : Tn) (i : W) (D : SlD sU) : St := slSt D 1 3 (enA i) (hbA t) 40 0
def stI (t : Tn) (i n k : W) (D : SlD sU) : St := slSt D 1 3 (enI i n k) (hbA t) 40 0
noncomputable def p0 (t : Tn) : St := St.enter [eTn t] (fun _ => none) 0 40
noncomputable def p1 (t : Tn) : St := outB (evalList cxB J0 (p0 t))
noncomputable def p2 (t : Tn) : St := outB (evalList cxB J1 (p1 t))
noncomputable def p3 (t : Tn) : St := outB (evalList cxB J2 (p2 t))
theorem f1 (t : Tn) : ∃ ob, evalList cxB J0 (p0 t) = some (p1 t, ob) ∧ ob.holds := fl_two (L := []) (by kernel_rfl) (by kernel_rfl) (by simp)
theorem f2 (t : Tn) : ∃ ob, evalList cxB J1 (p1 t) = some (p2 t, ob) ∧ ob.holds := fl_two (L := []) (by kernel_rfl) (by kernel_rfl) (by simp)
theorem f3 (t : Tn) : ∃ ob, evalList cxB J2 (p2 t) = some (p3 t, ob) ∧ ob.holds := fl_two (L := []) (by kernel_rfl) (by kernel_rfl) (by simp)
section
variable (t : Tn) (i n k : W) (D : SlD sU)
noncomputable def y3 : St := outB (evalList cxB J3 (stA t i D))
noncomputable def y5 : St := outB (evalList cxB J5 (y3 t i D))
noncomputable def y6 : St := outB (evalList cxB J6 (y5 t i D))
noncomputable def y7 : St := outB (evalList cxB J7 (y6 t i D))
noncomputable def y8 : St := outB (evalList cxB J8 (y7 t i D))
theorem g3' : ∃ ob, evalList cxB J3 (stA t i D) = some (y3 t i D, ob) ∧ ob.holds := fl_two (L := []) (by kernel_rfl) (by kernel_rfl) (by simp)
theorem g5' : ∃ ob, evalList cxB J5 (y3 t i D) = some (y5 t i D, ob) ∧ ob.holds := fl_two (L := []) (by kernel_rfl) (by kernel_rfl) (by simp)
theorem g6' : ∃ ob, evalList cxB J6 (y5 t i D) = some (y6 t i D, ob) ∧ ob.holds := fl_two (L := []) (by kernel_rfl) (by kernel_rfl) (by simp)
theorem y3g : (y3 t i D).look 12 = .bool fun _ => ltB .i64 i 64#64 := by kernel_rfl
theorem y6g : (y6 t i D).look 22 = .bool fun _ => ((t.m &&& bitI i) == 0#64) := by kernel_rfl
noncomputable def y4 : St := outB (evalList cxB J4 (y6 t i D))
theorem g4' : ∃ ob, evalList cxB J4 (y6 t i D) = some (y4 t i D, ob) ∧ ob.holds := fl_two (L := []) (by kernel_rfl) (by kernel_rfl) (by simp)
noncomputable def y12 : St := outB (evalList cxB J12 (y3 t i D))
theorem g12' : ∃ ob, evalList cxB J12 (y3 t i D) = some (y12 t i D, ob) ∧ ob.holds := fl_two (L := []) (by kernel_rfl) (by kernel_rfl) (by simp)
noncomputable def z9 : St := outB (evalList cxB J9 (stI t i n k D))
theorem q9 : ∃ ob, evalList cxB J9 (stI t i n k D) = some (z9 t i n k D, ob) ∧ ob.holds := fl_two (L := []) (by kernel_rfl) (by kernel_rfl) (by simp)
theorem z9g : (z9 t i n k D).look 27 = .bool fun _ => ltB .i64 k n := by kernel_rfl
noncomputable def z11 : St := outB (evalList cxB J11a (z9 t i n k D))
noncomputable def zAs (D' : SlD sU) : St := outB (evalList cxB [opAs] (slSt D' 1 38 (enI i n k) (hbA t) 40 0))
theorem qAs (D' : SlD sU) : ∃ ob, evalList cxB [opAs] (slSt D' 1 38 (enI i n k) (hbA t) 40 0) = some (zAs t i n k D', ob) ∧ ob.holds := fl_two (L := []) (by kernel_rfl) (by kernel_rfl) (by simp)
noncomputable def z10 (D' : SlD sU) : St := outB (evalList cxB J10 (zAs t i n k D'))
theorem q10 (D' : SlD sU) : ∃ ob, evalList cxB J10 (zAs t i n k D') = some (z10 t i n k D', ob) ∧ ob.holds := fl_two (L := []) (by kernel_rfl) (by kernel_rfl) (by simp)
noncomputable def zE : St := outB (evalList cxB J4 (z9 t i n k D))
theorem qE : ∃ ob, evalList cxB J4 (z9 t i n k D) = some (zE t i n k D, ob) ∧ ob.holds := fl_two (L := []) (by kernel_rfl) (by kernel_rfl) (by simp)
theorem g7' (hl : D.len < 2 ^ 63) : ∃ ob, evalList cxB J7 (y6 t i D) = some (y7 t i D, ob) ∧ ob.holds := fl_two (L := [0 ≤ toZ .i64 (BitVec.ofNat 64 D.len)]) (by kernel_rfl) (by kernel_rfl) (fun p hp => by
  simp only [List.mem_singleton] at hp
  subst hp
  rw [toZ_nat (by rw [ofNat_toNat (by omega)]; exact hl)]; omega)
theorem g8' : ∃ ob, evalList cxB J8 (y7 t i D) = some (y8 t i D, ob) ∧ ob.holds := fl_two (L := []) (by kernel_rfl) (by kernel_rfl) (by simp)
theorem q11 (hl : D.len < 2 ^ 62) (hk : k.toNat < D.len) : ∃ ob, evalList cxB J11a (z9 t i n k D) = some (z11 t i n k D, ob) ∧ ob.holds := fl_two (L := [0 ≤ toZ .i64 k ∧ toZ .i64 k < toZ .i64 (BitVec.ofNat 64 D.len), D.pre.length = D.pre.length, (toZ .i64 k).toNat < D.len]) (by kernel_rfl) (by kernel_rfl) (fun p hp => by
  have h1 : toZ .i64 k = k.toNat := toZ_nat (by omega)
  have h2 : toZ .i64 (BitVec.ofNat 64 D.len) = D.len := by rw [toZ_nat (by rw [ofNat_toNat (by omega)]; omega), ofNat_toNat (by omega)]
  simp only [List.mem_cons, List.not_mem_nil, or_false] at hp
  rcases hp with rfl | rfl | rfl
  · rw [h1, h2]; omega
  · trivial
  · rw [h1]; omega)
end
end Go.Rf

/- Tnums: all gives a row of numbers: the walk. -/
namespace Go.Rf
open Go.Proofs

noncomputable def b31 (t : Tn) : Blk := ((p3 t).hp 1).getD ⟨0, .un⟩
theorem p3a (t : Tn) : (p3 t).nt = 40 := by kernel_rfl
theorem p3b (t : Tn) : (p3 t).lo = 0 := by kernel_rfl
theorem p3c (t : Tn) : (p3 t).look 3 = .slc 1 [] (.lit .i64 (1 : Nat)) 1 := by kernel_rfl
theorem p3d (t : Tn) : ((enA 0#64).map fun x => unlit ((p3 t).look x.1)) = (enA 0#64).map (·.2) := by kernel_rfl
theorem p3e (t : Tn) : ((hbA t).map fun x => (p3 t).hp x.1) = (hbA t).map (·.2) := by kernel_rfl
theorem p3f (t : Tn) : (p3 t).hp 1 = some (b31 t) := by kernel_rfl
theorem p3g (t : Tn) : (b31 t).T = 22 := by kernel_rfl
theorem p3h (t : Tn) : isRaw (b31 t).v = false := by kernel_rfl
theorem p3i (t : Tn) (E : Env) : cells E [] (b31 t).v = [.int .u64 (toZ .u64 t.v)] := by kernel_rfl
theorem p3j (t : Tn) : flatN sU 1 (elA t 0) = [.int .u64 (toZ .u64 t.v)] := by kernel_rfl
theorem enA_n (i : W) : ((enA i).all fun x => nltB 1 x.2) = true := by kernel_rfl
theorem hbA_n (t : Tn) : ((hbA t).all fun x => Nat.blt x.1 1 && match x.2 with | some B => nltB 1 B.v | none => true) = true := by kernel_rfl
theorem kept_lo {st : St} (h : st.lo = 0) (n : Nat) : Nat.ble st.lo n = true := by rw [h]; exact Nat.ble_eq_true_of_le (Nat.zero_le _)
theorem start34' (t : Tn) (st : St) (B : Blk) (hnt : st.nt = 40) (hlo : st.lo = 0) (f3 : st.look 3 = .slc 1 [] (.lit .i64 (1 : Nat)) 1) (h1 : ((enA 0#64).map fun x => unlit (st.look x.1)) = (enA 0#64).map (·.2)) (h2 : ((hbA t).map fun x => st.hp x.1) = (hbA t).map (·.2))
    (b1 : st.hp 1 = some B) (bT : B.T = 22) (bR : isRaw B.v = false) (bc : ∀ E, cells E [] B.v = flatN sU 1 (elA t 0)) {ws : World} {a : Act} {w : World} (hs : SRel E0 ws st a w) : ∃ D : SlD sU, D.Fix 22 ∧ D.len = 1 ∧ D.els = elA t 0 ∧ SRel E0 ws (stA t 0#64 D) a w := by
  obtain ⟨D, d1, d2, d3, d4⟩ := adopt flatU hs (n := 1) (src := 3) (k := 1) (els := elA t 0) (te := 22) (B := B) f3 b1 bT bR bc (kept_of h1 h2 (enA_n _) (hbA_n _) (kept_lo hlo 1)) (by rw [hnt]; omega) (by unfold maxLen; omega)
  rw [hnt, hlo] at d4
  exact ⟨D, d1.fix, d2, d3, d4⟩
theorem start34 (t : Tn) {ws : World} {a : Act} {w : World} (hs : SRel E0 ws (p3 t) a w) : ∃ D : SlD sU, D.Fix 22 ∧ D.len = 1 ∧ D.els = elA t 0 ∧ SRel E0 ws (stA t 0#64 D) a w :=
  start34' t (p3 t) (b31 t) (p3a t) (p3b t) (p3c t) (p3d t) (p3e t) (p3f t) (p3g t) (p3h t) (fun E => (p3i t E).trans (p3j t).symm) hs

/-! One more. -/
theorem enI_n (i n k : W) : ((enI i n k).all fun x => nltB 1 x.2) = true := by kernel_rfl
def elU (D : SlD sU) (j : Nat) : W := D.els j
noncomputable def inf22 : TypeInfo := (Try.prog.info? 22).getD default
theorem i22t : Try.prog.underlying 46 = some (.slice 22) := by kernel_rfl
theorem i22a : Try.prog.info? 22 = some inf22 := by kernel_rfl
theorem i22b : inf22.zero = some (.int .u64 0) := by kernel_rfl
theorem i22c : inf22.size = 1 := by kernel_rfl
theorem i22d : inf22.bytes = 8 := by kernel_rfl
theorem oApa : opAp.op = .call { callee := .builtin .append, args := #[.tmp 30, .tmp 37], argTypes := #[46, 46] } := by kernel_rfl
theorem oApb : opAp.dst = some 38 := by kernel_rfl
theorem oApc : opAp.guard = none := by kernel_rfl
theorem app34' (t : Tn) (i n k : W) {D : SlD sU} (hD : D.Fix 22) (hDl : D.len ≤ 64) (st : St) (B : Blk) (y : W) (hnt : st.nt = 40) (hlo : st.lo = 0) (hl : st.look 30 = D.at 1) (hx : st.look 37 = .slc 2 [] (.lit .i64 (1 : Nat)) 1)
    (h1 : ((enI i n k).map fun x => unlit (st.look x.1)) = (enI i n k).map (·.2)) (h2 : ((hbA t).map fun x => st.hp x.1) = (hbA t).map (·.2)) (b1 : st.hp 1 = some D.blk) (b2 : st.hp 2 = some B) (bR : noRaw B.v = true) (bc : ∀ E, cells E [] B.v = flatN sU 1 fun _ => y)
    {ws : World} {a : Act} {w : World} (hs : SRel E0 ws st a w) {Q : Exit → Act → World → Prop}
    (hQ : ∀ (D' : SlD sU) a' w', D'.Fix 22 → D'.len = D.len + 1 → D'.els = catE D.len D.els (fun _ => y) → SRel E0 ws (zAs t i n k D') a' w' → Q .normal a' w') : wpList Try.prog #[] Q (opAp :: [opAs]) a w := by
  refine step_append (P := Try.prog) flatU hs oApc (s := 30) (x := 37) (t := 46) (te := 22) oApa (dst := 38) oApb (by rw [hnt]; omega) (D := D) (n := 1) hl b1 hD
    (m := 2) (k := 1) (c := 1) (B2 := B) (ys := fun _ => y) hx b2 bR bc
    (ents := enI i n k) (hbs := hbA t) (kept_of h1 h2 (enI_n _ _ _) (hbA_n _) (kept_lo hlo 1))
    inf22 (.int .u64 0) i22t i22a i22b i22c rfl (by rw [i22d]; omega) (by omega) ?_
  intro D' a' w' d1 d2 d3 d4
  rw [hnt, hlo] at d4
  exact lstB gAs (qAs t i n k D') d4 fun a'' w'' h5 => hQ D' a'' w'' d1 d2 d3 h5
section
variable (t : Tn) (i n k : W) (D : SlD sU)
noncomputable def b112 : Blk := ((z11 t i n k D).hp 2).getD ⟨0, .un⟩
theorem z11a : (z11 t i n k D).nt = 40 := by kernel_rfl
theorem z11b : (z11 t i n k D).lo = 0 := by kernel_rfl
theorem z11c : (z11 t i n k D).look 30 = D.at 1 := by kernel_rfl
theorem z11d : (z11 t i n k D).look 37 = .slc 2 [] (.lit .i64 (1 : Nat)) 1 := by kernel_rfl
theorem z11e : ((enI i n k).map fun x => unlit ((z11 t i n k D).look x.1)) = (enI i n k).map (·.2) := by kernel_rfl
theorem z11f : ((hbA t).map fun x => (z11 t i n k D).hp x.1) = (hbA t).map (·.2) := by kernel_rfl
theorem z11g : (z11 t i n k D).hp 1 = some D.blk := by kernel_rfl
theorem z11h : (z11 t i n k D).hp 2 = some (b112 t i n k D) := by kernel_rfl
theorem z11i : noRaw (b112 t i n k D).v = true := by kernel_rfl
theorem z11j (E : Env) : cells E [] (b112 t i n k D).v = [.int .u64 (toZ .u64 (elU D (ixN k) ||| bitI i))] := by kernel_rfl
theorem flat1 (y : W) : flatN sU 1 (fun _ => y) = [.int .u64 (toZ .u64 y)] := by kernel_rfl
theorem z10a (D' : SlD sU) : (z10 t i n k D').nt = 40 := by kernel_rfl
theorem z10b (D' : SlD sU) : (z10 t i n k D').lo = 0 := by kernel_rfl
theorem z10c (D' : SlD sU) : (((3, D'.at 1) :: enI i n (k + 1#64)).map fun x => unlit ((z10 t i n k D').look x.1)) = ((3, D'.at 1) :: enI i n (k + 1#64)).map (·.2) := by kernel_rfl
theorem z10d (D' : SlD sU) : (((1, some D'.blk) :: hbA t).map fun x => (z10 t i n k D').hp x.1) = ((1, some D'.blk) :: hbA t).map (·.2) := by kernel_rfl
theorem enI_n2 (D' : SlD sU) : (((3, D'.at 1) :: enI i n k).all fun x => nltB 2 x.2) = true := by kernel_rfl
theorem hbA_n2 (D' : SlD sU) : (((1, some D'.blk) :: hbA t).all fun x => Nat.blt x.1 2 && match x.2 with | some B => nltB 2 B.v | none => true) = true := by kernel_rfl
theorem enA_n2 (D' : SlD sU) : (((3, D'.at 1) :: enA i).all fun x => nltB 2 x.2) = true := by kernel_rfl
theorem y8a : (y8 t i D).nt = 40 := by kernel_rfl
theorem y8b : (y8 t i D).lo = 0 := by kernel_rfl
theorem y8c : (((3, D.at 1) :: enI i (BitVec.ofNat 64 D.len) 0#64).map fun x => unlit ((y8 t i D).look x.1)) = ((3, D.at 1) :: enI i (BitVec.ofNat 64 D.len) 0#64).map (·.2) := by kernel_rfl
theorem y8d : (((1, some D.blk) :: hbA t).map fun x => (y8 t i D).hp x.1) = ((1, some D.blk) :: hbA t).map (·.2) := by kernel_rfl
theorem y4a : (y4 t i D).nt = 40 := by kernel_rfl
theorem y4b : (y4 t i D).lo = 0 := by kernel_rfl
theorem y4c : (((3, D.at 1) :: enA (i + 1#64)).map fun x => unlit ((y4 t i D).look x.1)) = ((3, D.at 1) :: enA (i + 1#64)).map (·.2) := by kernel_rfl
theorem y4d : (((1, some D.blk) :: hbA t).map fun x => (y4 t i D).hp x.1) = ((1, some D.blk) :: hbA t).map (·.2) := by kernel_rfl
theorem zEa : (zE t i n k D).nt = 40 := by kernel_rfl
theorem zEb : (zE t i n k D).lo = 0 := by kernel_rfl
theorem zEc : (((3, D.at 1) :: enA (i + 1#64)).map fun x => unlit ((zE t i n k D).look x.1)) = ((3, D.at 1) :: enA (i + 1#64)).map (·.2) := by kernel_rfl
theorem zEd : (((1, some D.blk) :: hbA t).map fun x => (zE t i n k D).hp x.1) = ((1, some D.blk) :: hbA t).map (·.2) := by kernel_rfl
theorem y12a : (y12 t i D).look 2 = D.at 1 := by kernel_rfl
theorem y12b : (y12 t i D).hp 1 = some D.blk := by kernel_rfl
end
/-- A known state is the state of a row. -/
theorem toIn (t : Tn) (i n k : W) (D : SlD sU) (st : St) (ha : st.nt = 40) (hb : st.lo = 0) (hc : (((3, D.at 1) :: enI i n k).map fun x => unlit (st.look x.1)) = ((3, D.at 1) :: enI i n k).map (·.2)) (hd : (((1, some D.blk) :: hbA t).map fun x => st.hp x.1) = ((1, some D.blk) :: hbA t).map (·.2))
    {ws : World} {a : Act} {w : World} (hs : SRel E0 ws st a w) : SRel E0 ws (stI t i n k D) a w :=
  norm_rel (kept_of hc hd (enI_n2 i n k D) (hbA_n2 t D) (kept_lo hb 2)) ha hb hs
theorem toA (t : Tn) (i : W) (D : SlD sU) (st : St) (ha : st.nt = 40) (hb : st.lo = 0) (hc : (((3, D.at 1) :: enA i).map fun x => unlit (st.look x.1)) = ((3, D.at 1) :: enA i).map (·.2)) (hd : (((1, some D.blk) :: hbA t).map fun x => st.hp x.1) = ((1, some D.blk) :: hbA t).map (·.2))
    {ws : World} {a : Act} {w : World} (hs : SRel E0 ws st a w) : SRel E0 ws (stA t i D) a w :=
  norm_rel (kept_of hc hd (enA_n2 i D) (hbA_n2 t D) (kept_lo hb 2)) ha hb hs

/-- The inner loop. -/
theorem loopI (t : Tn) (i : Nat) (n : Nat) (hn : n ≤ 32) (f : Nat → W) {ws : World} {Q : Exit → Act → World → Prop}
    (hQ : ∀ (D : SlD sU) a w, D.Fix 22 → D.len = n + n → D.els = elI f n (bitI (BitVec.ofNat 64 i)) n → SRel E0 ws (z9 t (BitVec.ofNat 64 i) (BitVec.ofNat 64 n) (BitVec.ofNat 64 n) D) a w → Q (.exit 2) a w)
    {D0 : SlD sU} (h1 : D0.Fix 22) (h2 : D0.len = n) (h3 : D0.els = f) {a : Act} {w : World} (hs : SRel E0 ws (stI t (BitVec.ofNat 64 i) (BitVec.ofNat 64 n) 0#64 D0) a w) : (Code.loop rndI).wp Try.prog Q a w := by
  refine wp_loop_ix (fun k a w => k ≤ n ∧ ∃ D : SlD sU, D.Fix 22 ∧ D.len = n + k ∧ D.els = elI f n (bitI (BitVec.ofNat 64 i)) k ∧ SRel E0 ws (stI t (BitVec.ofNat 64 i) (BitVec.ofNat 64 n) (BitVec.ofNat 64 k) D) a w) (fun k => n - k) ?_ 0 a w ⟨Nat.zero_le _, D0, h1, by rw [h2]; rfl, h3, hs⟩
  rintro k a w ⟨hk, D, d1, d2, d3, hs⟩
  refine wp_seq (wp_seq (regB (q9 t _ _ _ D) hs fun a2 w2 hs2 => ?_))
  have hc := boolB (z9g t (BitVec.ofNat 64 i) (BitVec.ofNat 64 n) (BitVec.ofNat 64 k) D) hs2
  rw [ltB_ofNat (by omega) (by omega)] at hc
  by_cases hlt : k < n
  · refine wp_cond_true (by rw [hc, decide_eq_true hlt]) (wp_skip ?_)
    show (Code.seq (.block 3 (.region 11 J11.toArray false)) (.region 10 J10.toArray false)).wp Try.prog _ a2 w2
    refine wp_seq (wp_block ?_)
    refine list_region (by simpa using gJ11) ?_
    rw [List.toList_toArray, J11_eq]
    refine wpList_app _ (noGd_spec gJ11a) _ _ ?_
    refine lstB gJ11a (q11 t _ _ _ D (by omega) (by rw [ofNat_toNat (by omega)]; omega)) hs2 fun a3 w3 hs3 => ⟨rfl, ?_⟩
    refine app34' t _ _ _ d1 (by omega) (z11 t (BitVec.ofNat 64 i) (BitVec.ofNat 64 n) (BitVec.ofNat 64 k) D) (b112 t _ _ _ D) (elU D (ixN (BitVec.ofNat 64 k)) ||| bitI (BitVec.ofNat 64 i)) (z11a t _ _ _ D) (z11b t _ _ _ D) (z11c t _ _ _ D) (z11d t _ _ _ D) (z11e t _ _ _ D) (z11f t _ _ _ D) (z11g t _ _ _ D) (z11h t _ _ _ D) (z11i t _ _ _ D)
      (fun E => (z11j t _ _ _ D E).trans (flat1 _).symm) hs3 fun D' a4 w4 e1 e2 e3 hs4 => ?_
    show (Code.region 10 J10.toArray false).wp Try.prog _ a4 w4
    refine regB (q10 t _ _ _ D') hs4 fun a5 w5 hs5 => ?_
    have hs6 := toIn t _ _ _ D' _ (z10a t _ _ _ D') (z10b t _ _ _ D') (z10c t _ _ _ D') (z10d t _ _ _ D') hs5
    rw [ofNat_succ] at hs6
    refine ⟨k + 1, ⟨by omega, D', e1, by omega, ?_, hs6⟩, by omega⟩
    have ek : elU D (ixN (BitVec.ofNat 64 k)) = elI f n (bitI (BitVec.ofNat 64 i)) k k := by
      rw [ixN_ofNat (by omega)]; unfold elU; rw [d3]
    rw [e3, ek, d3, d2]
    rfl
  · refine wp_cond_false (by rw [hc, decide_eq_false hlt]) ?_
    obtain rfl : k = n := by omega
    exact wp_exit (hQ D a2 w2 d1 d2 d3 hs2)
/-- The outer loop. -/
theorem loopA (t : Tn) (hf : cntM t.m 64 ≤ 5) {ws : World} {Q : Exit → Act → World → Prop}
    (hQ : ∀ (D : SlD sU) a w, D.Fix 22 → D.len = lenA t 64 → D.els = elA t 64 → SRel E0 ws (y3 t (BitVec.ofNat 64 64) D) a w → Q (.exit 0) a w)
    {D0 : SlD sU} (h1 : D0.Fix 22) (h2 : D0.len = 1) (h3 : D0.els = elA t 0) {a : Act} {w : World} (hs : SRel E0 ws (stA t 0#64 D0) a w) : (Code.loop rndA).wp Try.prog Q a w := by
  refine wp_loop_ix (fun i a w => i ≤ 64 ∧ ∃ D : SlD sU, D.Fix 22 ∧ D.len = lenA t i ∧ D.els = elA t i ∧ SRel E0 ws (stA t (BitVec.ofNat 64 i) D) a w) (fun i => 64 - i) ?_ 0 a w ⟨Nat.zero_le _, D0, h1, h2, h3, hs⟩
  rintro i a w ⟨hi, D, d1, d2, d3, hs⟩
  have hle := lenA_le hf hi
  refine wp_seq (wp_seq (regB (g3' t _ D) hs fun a2 w2 hs2 => ?_))
  have hc := boolB (y3g t (BitVec.ofNat 64 i) D) hs2
  rw [show (64#64 : W) = BitVec.ofNat 64 64 from rfl, ltB_ofNat (by omega) (by omega)] at hc
  by_cases hlt : i < 64
  · refine wp_cond_true (by rw [hc, decide_eq_true hlt]) (wp_skip ?_)
    show (Code.seq (.block 1 (.seq (.region 5 J5.toArray false) (.seq (.seq (.region 6 J6.toArray false) (.cond (.tmp 22) (.exit 1) .skip)) (.seq (.region 7 J7.toArray false) (.seq (.region 8 J8.toArray false) (.block 2 (.loop rndI))))))) (.region 4 J4.toArray false)).wp Try.prog _ a2 w2
    refine wp_seq (wp_block (wp_seq (regB (g5' t _ D) hs2 fun a3 w3 hs3 => ?_)))
    show (Code.seq (.seq (.region 6 J6.toArray false) (.cond (.tmp 22) (.exit 1) .skip)) _).wp Try.prog _ a3 w3
    refine wp_seq (wp_seq (regB (g6' t _ D) hs3 fun a4 w4 hs4 => ?_))
    have hb := boolB (y6g t (BitVec.ofNat 64 i) D) hs4
    rw [bitI_eq hlt, and_pow _ hlt] at hb
    by_cases hm : t.m.getLsbD i = true
    · refine wp_cond_false (by rw [hb, hm]; rfl) (wp_skip ?_)
      show (Code.seq (.region 7 J7.toArray false) (.seq (.region 8 J8.toArray false) (.block 2 (.loop rndI)))).wp Try.prog _ a4 w4
      refine wp_seq (regB (g7' t _ D (by omega)) hs4 fun a5 w5 hs5 => ?_)
      show (Code.seq (.region 8 J8.toArray false) (.block 2 (.loop rndI))).wp Try.prog _ a5 w5
      refine wp_seq (regB (g8' t _ D) hs5 fun a6 w6 hs6 => ?_)
      have hs7 := toIn t _ _ _ D _ (y8a t _ D) (y8b t _ D) (y8c t _ D) (y8d t _ D) hs6
      refine wp_block (loopI t i D.len (by omega) D.els ?_ d1 rfl rfl hs7)
      intro D' a7 w7 e1 e2 e3 hs8
      show (Code.region 4 J4.toArray false).wp Try.prog _ a7 w7
      refine regB (qE t _ _ _ D') hs8 fun a8 w8 hs9 => ?_
      have hs10 := toA t _ D' _ (zEa t _ _ _ D') (zEb t _ _ _ D') (zEc t _ _ _ D') (zEd t _ _ _ D') hs9
      rw [ofNat_succ] at hs10
      refine ⟨i + 1, ⟨by omega, D', e1, ?_, ?_, hs10⟩, by omega⟩
      · unfold lenA; rw [if_pos hm, e2, d2]
      · unfold elA; rw [if_pos hm, e3, d2, d3, bitI_eq hlt]
    · refine wp_cond_true (by rw [hb]; simp [hm]) (wp_exit ?_)
      show (Code.region 4 J4.toArray false).wp Try.prog _ a4 w4
      refine regB (g4' t _ D) hs4 fun a5 w5 hs5 => ?_
      have hs6 := toA t _ D _ (y4a t _ D) (y4b t _ D) (y4c t _ D) (y4d t _ D) hs5
      rw [ofNat_succ] at hs6
      refine ⟨i + 1, ⟨by omega, D, d1, ?_, ?_, hs6⟩, by omega⟩
      · unfold lenA; rw [if_neg hm, d2]
      · unfold elA; rw [if_neg hm, d3]
  · refine wp_cond_false (by rw [hc, decide_eq_false hlt]) ?_
    obtain rfl : i = 64 := by omega
    exact wp_exit (hQ D a2 w2 d1 d2 d3 hs2)
theorem all_makes (t : Tn) (hf : cntM t.m 64 ≤ 5) : Makes (e := sU) Try.prog 34 [eTn t] 22 (lenA t 64) (elA t 64) := by
  intro w
  refine calls_of_wp Try.func34 body34 ?_
  have hnt : Try.f34.ntmps = 40 := by kernel_rfl
  have hs0 := enter_rel (P := Try.prog) (fn := Try.f34) (args := [eTn t]) (by rw [hnt]; show 1 ≤ 40; omega) (fun v hv => by simp at hv; subst hv; exact cTn.pf t) w
  rw [hnt] at hs0
  have hle := lenA_le hf (Nat.le_refl 64)
  refine wp_seq (regB (f1 t) hs0 fun a1 w1 hs1 => ?_)
  show (Code.seq (.region 1 J1.toArray false) _).wp Try.prog _ a1 w1
  refine wp_seq (regB (f2 t) hs1 fun a2 w2 hs2 => ?_)
  show (Code.seq (.seq (.region 2 J2.toArray false) _) _).wp Try.prog _ a2 w2
  refine wp_seq (wp_seq (regB (f3 t) hs2 fun a3 w3 hs3 => ?_))
  obtain ⟨D0, d1, d2, d3, hsL⟩ := start34 t hs3
  refine wp_block (loopA t hf ?_ d1 d2 d3 hsL)
  intro D a4 w4 d1 d2 d3 hs4
  show (Code.seq (.region 12 J12.toArray false) .ret).wp Try.prog _ a4 w4
  refine wp_seq (regB (g12' t _ D) hs4 fun a5 w5 hs5 => ?_)
  refine wp_ret ?_
  obtain ⟨E, h1, h2, h3, h4, h5, h6, h7, h8, h9, h10⟩ := hs5
  obtain ⟨b, b1, b2, b3⟩ := h4 1 D.blk (y12b t _ D)
  have hv := h1 2
  rw [y12a] at hv
  let D' : SlD sU := { D with b := b }
  have hval : a5.tmps.getD 2 undef = D'.value := by
    have e1 : val E (D.at 1) = a5.tmps.getD 2 undef := hv.2
    rw [← e1]
    exact (at_val (D := D') (n := 1) b1 (by show D.len < 2 ^ 63; omega)).1
  have hres : (results Try.f34 a5.tmps).run Try.prog w5 = .ok (a5.tmps.getD 2 undef) w5 := by
    rw [results_tmp (t := 2) (by kernel_rfl)]
  refine bodyPost_ret hres h3 ?_
  refine ⟨D', by rw [hval], ⟨?_, d1.le, d1.pre, d1.fz, d1.ty, d1.post, d1.max⟩, d2, fun i _ => by rw [← d3], ?_, h8.below⟩
  · show w5.heap[b]? = _
    rw [b3, (blk_cells (flatU.good _) E).1]
    rfl
  · rcases h8.new 1 b b1 with h | h
    · cases h
    · exact h
end Go.Rf
