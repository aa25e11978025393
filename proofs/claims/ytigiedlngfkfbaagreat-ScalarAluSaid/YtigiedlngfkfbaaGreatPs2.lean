/- Scalars: what they hold, which is in which, what joins and meets them. -/
import Derived.Test.YtigiedlngfkfbaaGreatPs1
set_option linter.unusedVariables false
set_option linter.unusedSimpArgs false
namespace Go.Rf

noncomputable def mayC (x : Sc) : Bool := setOk x.t x.s && eqC (setR x.t x.s) x
noncomputable def hasC (x : Sc) (n : W) : Bool := mayC x && T.has x.t n && hasS x.s n
noncomputable def inC (a b : Sc) : Bool := mayC a && mayC b && T.isIn a.t b.t && inS a.s b.s
def ofC (n : W) : Sc := ⟨⟨n, 0⟩, ofS n⟩
def allC : Sc := ⟨⟨0, 18446744073709551615#64⟩, allS⟩
noncomputable def badC (a b : Sc) : Bool := !mayC a || !mayC b
noncomputable def joinC (a b : Sc) : Sc := setR (T.joinR a.t b.t) (joinS a.s b.s)
noncomputable def joinCR (a b : Sc) : Sc := Sc.mux (badC a b) nilC (joinC a b)
noncomputable def joinCE (a b : Sc) : W := bif badC a b then 1#64 else 0#64
noncomputable def noC (a b : Sc) : Bool := !ynS (T.noMeet a.t b.t) || !ynS (noMeetS a.s b.s)
noncomputable def meetC (a b : Sc) : Sc := Sc.mux (badC a b) nilC (Sc.mux (noC a b) nilC (setR (T.meetR a.t b.t) (meetM a.s b.s)))
noncomputable def meetCB (a b : Sc) : Bool := bif badC a b then false else bif noC a b then false else setOk (T.meetR a.t b.t) (meetM a.s b.s)

/-- A scalar that may be. -/
theorem mayC_iff {x : Sc} : mayC x = true ↔ setOk x.t x.s = true ∧ setR x.t x.s = x := by
  unfold mayC
  rw [Bool.and_eq_true, eqC_iff]
def MemC (x : Sc) (n : W) : Prop := T.Mem x.t n ∧ memS x.s n
theorem hasC_iff {x : Sc} {n : W} : hasC x n = true ↔ mayC x = true ∧ MemC x n := by
  unfold hasC MemC
  rw [Bool.and_eq_true, Bool.and_eq_true, T.has_iff, hasS_iff]
  exact ⟨fun h => ⟨h.1.1, h.1.2, h.2⟩, fun h => ⟨⟨h.1, h.2.1⟩, h.2.2⟩⟩

/-- Settled, it may be; and it holds what both held. -/
theorem settled {t : Tn} {s : Sp} (h : setOk t s = true) : mayC (setR t s) = true ∧ ∀ n, MemC (setR t s) n ↔ T.Mem t n ∧ memS s n := by
  obtain ⟨_, _, _, _, h5, h6, h7⟩ := settle_ok h
  exact ⟨mayC_iff.2 ⟨h6, h7⟩, h5⟩

/-! ### ScalarSettles -/
def bothC (t : Tn) (s : Sp) (n : W) : Bool := (t.v &&& t.m == 0#64) && (n &&& ~~~t.m == t.v) && leB .u64 s.lo n && leB .u64 n s.hi
theorem bothC_iff {t : Tn} {s : Sp} {n : W} : bothC t s n = true ↔ T.Mem t n ∧ memS s n := by
  have hm : T.Mem t n ↔ (n &&& ~~~t.m == t.v) = true := by rw [beq_iff_eq]; exact Iff.rfl
  unfold bothC memS
  rw [leU, leU, hm]
  constructor
  · intro h
    simp only [Bool.and_eq_true, decide_eq_true_eq] at h
    exact ⟨h.1.1.2, h.1.2, h.2⟩
  · rintro ⟨h1, h2, h3⟩
    have := (T.Mem.may (hm.2 h1))
    unfold T.may at this
    rw [this, h1, decide_eq_true h2, decide_eq_true h3]; rfl

noncomputable def settles (t : Tn) (s : Sp) (n : W) : Bool :=
  bif !setOk t s then !bothC t s n && eqC (setR t s) nilC
  else hasC (setR t s) n == bothC t s n && setOk (setR t s).t (setR t s).s && eqC (setR (setR t s).t (setR t s).s) (setR t s) && mayC (setR t s) &&
    (!T.eqT (setR t s).t t || !eqS (setR t s).s s || mayC ⟨t, s⟩)

theorem settles_true (t : Tn) (s : Sp) (n : W) : settles t s n = true := by
  unfold settles
  cases h : setOk t s with
  | false =>
    obtain ⟨h1, h2⟩ := settle_no h
    have : bothC t s n = false := by
      cases hb : bothC t s n with
      | false => rfl
      | true => exact absurd (bothC_iff.1 hb) (h2 n)
    rw [this, h1, eqC_iff.2 rfl]; rfl
  | true =>
    obtain ⟨k1, k2⟩ := settled h
    obtain ⟨_, _, _, _, h5, h6, h7⟩ := settle_ok h
    have e1 : hasC (setR t s) n = bothC t s n := by
      rw [Bool.eq_iff_iff, hasC_iff, bothC_iff, k2 n]
      exact ⟨fun h => h.2, fun h => ⟨k1, h⟩⟩
    have e2 : (!T.eqT (setR t s).t t || !eqS (setR t s).s s || mayC ⟨t, s⟩) = true := by
      cases ht : T.eqT (setR t s).t t with
      | false => rfl
      | true =>
        cases hs : eqS (setR t s).s s with
        | false => rfl
        | true =>
          have a1 := eqT_iff.1 ht
          have a2 := eqS_iff.1 hs
          have : setR t s = ⟨t, s⟩ := by
            show (⟨(setR t s).t, (setR t s).s⟩ : Sc) = ⟨t, s⟩
            rw [a1, a2]
          rw [this] at k1
          rw [k1]; rfl
    rw [e1, h6, h7, k1, e2, eqC_iff.2 rfl]
    simp
end Go.Rf
