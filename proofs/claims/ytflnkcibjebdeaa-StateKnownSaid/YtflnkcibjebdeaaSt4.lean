/- States: registers. -/
import Derived.Test.YtflnkcibjebdeaaSt2
import Derived.Test.YtflnkcibjebdeaaPs3
set_option linter.unusedVariables false
set_option linter.unusedSimpArgs false
namespace Go.Rf

def eqReg (a b : Reg) : Bool := a.k == b.k && (a.ln == b.ln && (a.m == b.m && (eqC a.s b.s && (a.lo == b.lo && a.hi == b.hi))))
noncomputable def mayR (r : Reg) : Bool :=
  bif r.k == 1#8 then mayC r.s && (!r.ln || leB .u64 r.s.s.hi 65535#64) && eqReg r ⟨1#8, r.ln, 0#64, r.s, 0#64, 0#64⟩ else
  sw2 (r.k == 3#8) (r.k == 4#8) (spreadR r && eqReg r ⟨r.k, false, 0#64, nilC, r.lo, r.hi⟩)
    (bif r.k == 6#8 then spreadR r && leB .i64 0#64 r.m && eqReg r ⟨6#8, false, r.m, nilC, r.lo, r.hi⟩ else
     sw2 (r.k == 5#8) (r.k == 7#8) (leB .i64 0#64 r.m && eqReg r ⟨r.k, false, r.m, nilC, 0#64, 0#64⟩)
      (sw2 (r.k == 0#8) (r.k == 2#8) (eqReg r ⟨r.k, false, 0#64, nilC, 0#64, 0#64⟩) false))
def numD (r : Reg) : Bool := r.k == 1#8
def sprD (r : Reg) : Bool := r.k == 3#8 || r.k == 4#8 || r.k == 6#8
def mapD (r : Reg) : Bool := r.k == 5#8 || r.k == 6#8 || r.k == 7#8
noncomputable def mayRD (r : Reg) : Bool :=
  bif ltB .u8 7#8 r.k then false else
  bif !numD r && (r.ln || !eqC r.s nilC) || !sprD r && (r.lo != 0#64 || r.hi != 0#64) || !mapD r && r.m != 0#64 then false else
  bif numD r && (!mayC r.s || r.ln && ltB .u64 65535#64 r.s.s.hi) then false else
  (!sprD r || spreadR r) && leB .i64 0#64 r.m

theorem kinds (k : B8) : (k = 0#8 ∨ k = 1#8 ∨ k = 2#8 ∨ k = 3#8 ∨ k = 4#8 ∨ k = 5#8 ∨ k = 6#8 ∨ k = 7#8) ∨ 7 < k.toNat := by
  by_cases h : 7 < k.toNat
  · exact .inr h
  · left
    have e : ∀ n : Nat, n < 256 → k.toNat = n → k = BitVec.ofNat 8 n := fun n hn hk => BitVec.eq_of_toNat_eq (by rw [hk]; simp; omega)
    have : k.toNat = 0 ∨ k.toNat = 1 ∨ k.toNat = 2 ∨ k.toNat = 3 ∨ k.toNat = 4 ∨ k.toNat = 5 ∨ k.toNat = 6 ∨ k.toNat = 7 := by omega
    rcases this with c | c | c | c | c | c | c | c
    · exact .inl (e 0 (by decide) c)
    · exact .inr (.inl (e 1 (by decide) c))
    · exact .inr (.inr (.inl (e 2 (by decide) c)))
    · exact .inr (.inr (.inr (.inl (e 3 (by decide) c))))
    · exact .inr (.inr (.inr (.inr (.inl (e 4 (by decide) c)))))
    · exact .inr (.inr (.inr (.inr (.inr (.inl (e 5 (by decide) c))))))
    · exact .inr (.inr (.inr (.inr (.inr (.inr (.inl (e 6 (by decide) c)))))))
    · exact .inr (.inr (.inr (.inr (.inr (.inr (.inr (e 7 (by decide) c)))))))
theorem ne_kind {k : B8} (h : 7 < k.toNat) (c : B8) (hc : c.toNat ≤ 7) : (k == c) = false := by
  rw [beq_eq_false_iff_ne]; intro e; subst e; omega
theorem le00 : leB .i64 0#64 0#64 = true := by decide
theorem big_kind {k : B8} (h : 7 < k.toNat) : ltB .u8 7#8 k = true := by
  show decide ((7#8 : B8).toNat < k.toNat) = true
  rw [decide_eq_true_eq]; exact h

theorem mayR_same (r : Reg) : mayRD r = mayR r := by
  obtain ⟨k, ln, m, s, lo, hi⟩ := r
  have hm : (m == 0#64) = true → leB .i64 0#64 m = true := by
    intro h
    rw [beq_iff_eq] at h
    subst h; exact le00
  have hh : ltB .u64 65535#64 s.s.hi = !leB .u64 s.s.hi 65535#64 := by rw [leU_lt, Bool.not_not]
  have hs : ∀ k, spreadR ⟨k, ln, m, s, lo, hi⟩ = (leB .i64 (BitVec.ofInt 64 (-1048576)) lo && leB .i64 lo hi && leB .i64 hi 1048576#64) := fun _ => rfl
  have q1 : eqC s s = true := eqC_iff.2 rfl
  have q2 : (m == m) = true := by simp
  have q3 : (lo == lo) = true := by simp
  have q4 : (hi == hi) = true := by simp
  have q5 : (ln == ln) = true := by simp
  rcases kinds k with (rfl | rfl | rfl | rfl | rfl | rfl | rfl | rfl) | hk
  case inr =>
    simp only [mayRD, mayR, big_kind hk, ne_kind hk 0#8 (by decide), ne_kind hk 1#8 (by decide), ne_kind hk 2#8 (by decide), ne_kind hk 3#8 (by decide), ne_kind hk 4#8 (by decide), ne_kind hk 5#8 (by decide), ne_kind hk 6#8 (by decide), ne_kind hk 7#8 (by decide)]
    rfl
  all_goals
    simp only [mayRD, mayR, numD, sprD, mapD, sw2, eqReg, hh, hs, q1, q2, q3, q4, q5, bne]
    generalize (m == 0#64) = x1 at *
    generalize leB .i64 0#64 m = x2 at *
    generalize mayC s = x3 at *
    generalize eqC s nilC = x4 at *
    generalize (lo == 0#64) = x5 at *
    generalize (hi == 0#64) = x6 at *
    generalize leB .u64 s.s.hi 65535#64 = x7 at *
    generalize (leB .i64 (BitVec.ofInt 64 (-1048576)) lo && leB .i64 lo hi && leB .i64 hi 1048576#64) = x8 at *
    cases x1 <;> cases x2 <;> first | (exact absurd (hm rfl) (by decide)) | (cases x3 <;> cases x4 <;> cases x5 <;> cases x6 <;> cases x7 <;> cases x8 <;> cases ln <;> rfl)
end Go.Rf
