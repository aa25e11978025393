/- States: registers that may be. -/
import Derived.Test.YtflnkcibjebdeaaSt4
set_option linter.unusedVariables false
set_option linter.unusedSimpArgs false
namespace Go.Rf

inductive RegOk : Reg → Prop where
  | none : RegOk ⟨0#8, false, 0#64, nilC, 0#64, 0#64⟩
  | num (ln : Bool) (s : Sc) (hs : mayC s = true) (hl : (!ln || leB .u64 s.s.hi 65535#64) = true) : RegOk ⟨1#8, ln, 0#64, s, 0#64, 0#64⟩
  | ctx : RegOk ⟨2#8, false, 0#64, nilC, 0#64, 0#64⟩
  | pkt (lo hi : W) (h : spreadR ⟨0, false, 0, nilC, lo, hi⟩ = true) : RegOk ⟨3#8, false, 0#64, nilC, lo, hi⟩
  | frame (lo hi : W) (h : spreadR ⟨0, false, 0, nilC, lo, hi⟩ = true) : RegOk ⟨4#8, false, 0#64, nilC, lo, hi⟩
  | ref (m : W) (hm : leB .i64 0#64 m = true) : RegOk ⟨5#8, false, m, nilC, 0#64, 0#64⟩
  | cell (m lo hi : W) (hm : leB .i64 0#64 m = true) (h : spreadR ⟨0, false, 0, nilC, lo, hi⟩ = true) : RegOk ⟨6#8, false, m, nilC, lo, hi⟩
  | maybe (m : W) (hm : leB .i64 0#64 m = true) : RegOk ⟨7#8, false, m, nilC, 0#64, 0#64⟩

theorem eqReg_iff {a b : Reg} : eqReg a b = true ↔ a = b := by
  obtain ⟨k, ln, m, s, lo, hi⟩ := a
  obtain ⟨k', ln', m', s', lo', hi'⟩ := b
  simp only [eqReg, Bool.and_eq_true, beq_iff_eq, eqC_iff, Reg.mk.injEq]
theorem eqReg_self (a : Reg) : eqReg a a = true := eqReg_iff.2 rfl

theorem mayR_ok {r : Reg} : mayR r = true ↔ RegOk r := by
  constructor
  · intro h
    obtain ⟨k, ln, m, s, lo, hi⟩ := r
    rcases kinds k with hk | hk
    case inr =>
      simp only [mayR, ne_kind hk 0#8 (by decide), ne_kind hk 1#8 (by decide), ne_kind hk 2#8 (by decide), ne_kind hk 3#8 (by decide), ne_kind hk 4#8 (by decide), ne_kind hk 5#8 (by decide), ne_kind hk 6#8 (by decide), ne_kind hk 7#8 (by decide)] at h
      exact absurd h (by simp [sw2])
    rcases hk with rfl | rfl | rfl | rfl | rfl | rfl | rfl | rfl
    · have h' : eqReg ⟨0#8, ln, m, s, lo, hi⟩ ⟨0#8, false, 0#64, nilC, 0#64, 0#64⟩ = true := h
      rw [eqReg_iff.1 h']; exact .none
    · have h' : (mayC s && (!ln || leB .u64 s.s.hi 65535#64) && eqReg ⟨1#8, ln, m, s, lo, hi⟩ ⟨1#8, ln, 0#64, s, 0#64, 0#64⟩) = true := h
      rw [Bool.and_eq_true, Bool.and_eq_true] at h'
      rw [eqReg_iff.1 h'.2]; exact .num _ _ h'.1.1 h'.1.2
    · have h' : eqReg ⟨2#8, ln, m, s, lo, hi⟩ ⟨2#8, false, 0#64, nilC, 0#64, 0#64⟩ = true := h
      rw [eqReg_iff.1 h']; exact .ctx
    · have h' : (spreadR ⟨0, false, 0, nilC, lo, hi⟩ && eqReg ⟨3#8, ln, m, s, lo, hi⟩ ⟨3#8, false, 0#64, nilC, lo, hi⟩) = true := h
      rw [Bool.and_eq_true] at h'
      rw [eqReg_iff.1 h'.2]; exact .pkt _ _ h'.1
    · have h' : (spreadR ⟨0, false, 0, nilC, lo, hi⟩ && eqReg ⟨4#8, ln, m, s, lo, hi⟩ ⟨4#8, false, 0#64, nilC, lo, hi⟩) = true := h
      rw [Bool.and_eq_true] at h'
      rw [eqReg_iff.1 h'.2]; exact .frame _ _ h'.1
    · have h' : (leB .i64 0#64 m && eqReg ⟨5#8, ln, m, s, lo, hi⟩ ⟨5#8, false, m, nilC, 0#64, 0#64⟩) = true := h
      rw [Bool.and_eq_true] at h'
      rw [eqReg_iff.1 h'.2]; exact .ref _ h'.1
    · have h' : (spreadR ⟨0, false, 0, nilC, lo, hi⟩ && leB .i64 0#64 m && eqReg ⟨6#8, ln, m, s, lo, hi⟩ ⟨6#8, false, m, nilC, lo, hi⟩) = true := h
      rw [Bool.and_eq_true, Bool.and_eq_true] at h'
      rw [eqReg_iff.1 h'.2]; exact .cell _ _ _ h'.1.2 h'.1.1
    · have h' : (leB .i64 0#64 m && eqReg ⟨7#8, ln, m, s, lo, hi⟩ ⟨7#8, false, m, nilC, 0#64, 0#64⟩) = true := h
      rw [Bool.and_eq_true] at h'
      rw [eqReg_iff.1 h'.2]; exact .maybe _ h'.1
  · intro h
    cases h with
    | none => rfl
    | num ln s hs hl =>
      show (mayC s && (!ln || leB .u64 s.s.hi 65535#64) && eqReg _ _) = true
      rw [hs, hl, eqReg_self]; rfl
    | ctx => rfl
    | pkt lo hi h => show (spreadR ⟨0, false, 0, nilC, lo, hi⟩ && eqReg _ _) = true; rw [h, eqReg_self]; rfl
    | frame lo hi h => show (spreadR ⟨0, false, 0, nilC, lo, hi⟩ && eqReg _ _) = true; rw [h, eqReg_self]; rfl
    | ref m hm => show (leB .i64 0#64 m && eqReg _ _) = true; rw [hm, eqReg_self]; rfl
    | cell m lo hi hm h => show (spreadR ⟨0, false, 0, nilC, lo, hi⟩ && leB .i64 0#64 m && eqReg _ _) = true; rw [h, hm, eqReg_self]; rfl
    | maybe m hm => show (leB .i64 0#64 m && eqReg _ _) = true; rw [hm, eqReg_self]; rfl

theorem nought_same {s : Sc} (h : mayC s = true) : (s.s.hi == 0#64) = eqC s (ofC 0#64) := by
  rw [Bool.eq_iff_iff, beq_iff_eq, eqC_iff]
  constructor
  · intro h0
    obtain ⟨ht, hs, _, n2, he, hb⟩ := still_mayC h
    obtain ⟨t, ⟨lo, hi⟩⟩ := s
    simp only at h0
    subst h0
    have hl : lo = 0#64 := BitVec.eq_of_toNat_eq (by
      have := mayS_iff.1 hs
      have z : (0#64 : W).toNat = 0 := rfl
      simp only at this
      omega)
    subst hl
    have e : (⟨t, ⟨0#64, 0#64⟩, nilC, false⟩ : StS).rng = ⟨0#64, 0#64⟩ := by
      unfold StS.rng
      rw [he]
      show T.Tn.mux (T.badRg 0#64 0#64) T.nil (T.rgT 0#64 0#64) = ⟨0#64, 0#64⟩
      kernel_rfl
    unfold StS.bits at hb
    rw [n2] at hb
    unfold StS.n2 at n2
    rw [e] at n2 hb
    have hb' : T.tMeet t ⟨0#64, 0#64⟩ = t := hb
    have n2' : T.noMeet t ⟨0#64, 0#64⟩ = false := n2
    obtain ⟨v, m⟩ := t
    have em : m &&& 0#64 = m := congrArg T.Tn.m hb'
    rw [BitVec.and_zero] at em
    subst em
    unfold T.noMeet at n2'
    simp only [Bool.or_eq_false_iff, bne_eq_false_iff_eq] at n2'
    have ev := n2'.2
    have ev' : (v ^^^ 0#64) &&& t64 = 0#64 := ev
    rw [and64, BitVec.xor_zero] at ev'
    subst ev'
    rfl
  · intro e; rw [e]; rfl

noncomputable def knownS (x : Slt) : Bool := mayR x.r && (x.r.k == 0#8 || x.h == 255#8)
noncomputable def inR (x y : Reg) : Bool :=
  bif y.k == 0#8 then true else bif y.k == 7#8 && x.k != 7#8 then noughtR x || firstR x && x.m == y.m else
  bif x.k != y.k || x.m != y.m then false else bif x.k == 1#8 then inC x.s y.s && (x.ln || !y.ln) else leB .i64 y.lo x.lo && leB .i64 x.hi y.hi
noncomputable def inRD (x y : Reg) : Bool :=
  bif y.k == 0#8 then true else bif y.k == 7#8 && noughtD x || y.k == 7#8 && x.k == 6#8 && x.m == y.m && x.lo == 0#64 && x.hi == 0#64 then true else
  bif x.k != y.k then false else bif x.k == 1#8 then inC x.s y.s && (!y.ln || x.ln) else
  sw2 (x.k == 3#8) (x.k == 4#8) (leB .i64 y.lo x.lo && leB .i64 x.hi y.hi)
    (sw2 (x.k == 5#8) (x.k == 7#8) (x.m == y.m) (bif x.k == 6#8 then x.m == y.m && leB .i64 y.lo x.lo && leB .i64 x.hi y.hi else true))
def oneP (r : Reg) : Bool := noughtR r || firstR r || r.k == 7#8
def thirdD (r : Reg) : Bool := r.k == 7#8 || noughtD r || r.k == 6#8 && r.lo == 0#64 && r.hi == 0#64
theorem nought_same' {r : Reg} (h : RegOk r) : noughtD r = noughtR r := by
  unfold noughtD noughtR
  cases h <;> try rfl
  rename_i ln s hs hl
  show (1#8 == 1#8 && eqC s (ofC 0#64)) = (1#8 == 1#8 && (s.s.hi == 0#64))
  rw [nought_same hs]
theorem one_same {r : Reg} (h : RegOk r) : thirdD r = oneP r := by
  unfold thirdD oneP firstR
  rw [nought_same' h]
  generalize (r.k == 7#8) = a
  generalize noughtR r = b
  generalize (r.k == 6#8 && r.lo == 0#64 && r.hi == 0#64) = c
  cases a <;> cases b <;> cases c <;> rfl
theorem inR_same {x y : Reg} (hx : RegOk x) (hy : RegOk y) : inRD x y = inR x y := by
  unfold inRD inR
  rw [nought_same' hx]
  cases hx <;> cases hy <;> simp [noughtR, firstR, sw2, le00, bne]
  · rw [Bool.or_comm]
  · rw [Bool.and_assoc]
  · ac_rfl
end Go.Rf
