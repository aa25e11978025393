/- States: plain laws of slots and states. -/
import Derived.Test.YtflnkcibjebdeaaSt22
import Derived.Test.YtflnkcibjebdeaaSt23
set_option linter.unusedVariables false
set_option linter.unusedSimpArgs false
namespace Go.Rf

theorem known_ok {x : Slt} (h : knownS x = true) : RegOk x.r ∧ (x.r.k = 0#8 ∨ x.h = 255#8) := by
  unfold knownS at h
  simp only [Bool.and_eq_true, Bool.or_eq_true, beq_iff_eq] at h
  exact ⟨mayR_ok.1 h.1, h.2⟩
theorem known_of {x : Slt} (h : RegOk x.r) (h2 : x.r.k = 0#8 ∨ x.h = 255#8) : knownS x = true := by
  unfold knownS
  simp only [Bool.and_eq_true, Bool.or_eq_true, beq_iff_eq]
  exact ⟨mayR_ok.2 h, h2⟩
def SubB (x y : B8) : Prop := x &&& y = x
theorem sub_refl (x : B8) : SubB x x := BitVec.and_self
theorem sub_trans {x y z : B8} (h1 : SubB x y) (h2 : SubB y z) : SubB x z := by
  unfold SubB at *
  rw [← h1, BitVec.and_assoc, h2]
theorem sub_all (x : B8) : SubB x 255#8 := by unfold SubB; revert x; decide +kernel
theorem all_sub {x : B8} (h : SubB 255#8 x) : x = 255#8 := by revert h; revert x; unfold SubB; decide +kernel
theorem sub_zero {x : B8} (h : SubB x 0#8) : x = 0#8 := by unfold SubB at h; rw [BitVec.and_zero] at h; exact h.symm
theorem sub_and_l (x y : B8) : SubB (x &&& y) x := by unfold SubB; rw [BitVec.and_comm (x &&& y) x, ← BitVec.and_assoc, BitVec.and_self]
theorem sub_and_r (x y : B8) : SubB (x &&& y) y := by unfold SubB; rw [BitVec.and_assoc, BitVec.and_self]
theorem sub_and {x y z : B8} (h1 : SubB x y) (h2 : SubB x z) : SubB x (y &&& z) := by
  unfold SubB at *
  rw [← BitVec.and_assoc, h1, h2]
theorem and8_sub' {x y : B8} : and8 x y = y ↔ SubB y x := by
  unfold and8 SubB; rw [BitVec.and_comm]

def numAll : Reg := ⟨1#8, false, 0#64, allC, 0#64, 0#64⟩
theorem numAll_ok : RegOk numAll := .num _ _ all_may rfl

theorem covers_iff {x y : Slt} : coversS x y = true ↔ (y.r.k = 0#8 ∧ SubB y.h (sureS x)) ∨ (y.r.k ≠ 0#8 ∧ x.r.k = 0#8 ∧ x.h = 255#8 ∧ y.r = numAll) ∨ (y.r.k ≠ 0#8 ∧ x.r.k ≠ 0#8 ∧ inR x.r y.r = true) := by
  unfold coversS
  by_cases h1 : y.r.k = 0#8
  · simp [h1, and8_sub']
  · by_cases h2 : x.r.k = 0#8
    · simp [h1, h2, eqReg_iff, numAll]
    · simp [h1, h2]
theorem sure_none {x : Slt} (h : x.r.k = 0#8) : sureS x = x.h := by unfold sureS; simp [h]
theorem sure_num {x : Slt} (h : x.r.k = 1#8) : sureS x = 255#8 := by unfold sureS; simp [h]
theorem sure_other {x : Slt} (h0 : x.r.k ≠ 0#8) (h : x.r.k ≠ 1#8) : sureS x = 0#8 := by
  unfold sureS
  rw [beq_eq_false_iff_ne.2 h0, beq_eq_false_iff_ne.2 h]; rfl
theorem in_num {x y : Reg} (h : inR x y = true) (hy : y.k = 1#8) : x.k = 1#8 := by
  unfold inR at h
  rw [hy] at h
  by_cases e : x.k = 1#8
  · exact e
  · simp [bne, e] at h

theorem covers_self {x : Slt} (h : knownS x = true) : coversS x x = true := by
  rw [covers_iff]
  by_cases h0 : x.r.k = 0#8
  · left; exact ⟨h0, by rw [sure_none h0]; exact sub_refl _⟩
  · right; right; exact ⟨h0, h0, inR_self (known_ok h).1⟩
/-- What covers is sure of as much. -/
theorem sure_mono {x y : Slt} (h : coversS x y = true) : SubB (sureS y) (sureS x) := by
  rw [covers_iff] at h
  rcases h with ⟨h0, h⟩ | ⟨h0, h1, h2, h3⟩ | ⟨h0, h1, h2⟩
  · rw [sure_none h0]; exact h
  · rw [sure_none h1, h2]; exact sub_all _
  · by_cases e : y.r.k = 1#8
    · rw [sure_num (in_num h2 e)]; exact sub_all _
    · rw [sure_other h0 e]; exact BitVec.zero_and
theorem in_all {x : Reg} (hx : RegOk x) (h : x.k = 1#8) : inR x numAll = true := by
  cases hx <;> simp at h
  rename_i ln s hs hl
  show (inC s allC && (ln || !false)) = true
  rw [all_in hs]; simp
theorem all_ne0 : (allC.s.hi == 0#64) = false := by decide
theorem all_only {z : Reg} (hz : RegOk z) (h0 : z.k ≠ 0#8) (h : inR numAll z = true) : z = numAll := by
  cases hz <;> simp [inR, numAll, noughtR, firstR, bne, all_ne0] at h h0
  · rename_i ln s hs hl
    obtain ⟨h1, rfl⟩ := h
    have e : s = allC := by
      have a := (inC_iff.1 h1).2.2
      have b := (inC_iff.1 (all_in hs)).2.2
      have hm := mayC_parts hs
      have e1 := eqT_iff.1 (T.in_anti (mayC_parts all_may).1 hm.1 a.1 b.1)
      have a2 := (inS_iff.1 a.2).2
      have b2 := (inS_iff.1 b.2).2
      obtain ⟨t, lo, hi⟩ := s
      have e2 : lo = allC.s.lo := BitVec.eq_of_toNat_eq (Nat.le_antisymm a2.1 b2.1)
      have e3 : hi = allC.s.hi := BitVec.eq_of_toNat_eq (Nat.le_antisymm b2.2 a2.2)
      subst e2 e3
      simp only at e1
      rw [← e1]
    rw [e]; rfl
theorem covers_trans {x y z : Slt} (hx : knownS x = true) (hy : knownS y = true) (hz : knownS z = true) (h1 : coversS x y = true) (h2 : coversS y z = true) : coversS x z = true := by
  have m := sure_mono h1
  have h1' := h1
  rw [covers_iff] at h1 h2 ⊢
  obtain ⟨rx, ax⟩ := known_ok hx
  obtain ⟨ry, ay⟩ := known_ok hy
  obtain ⟨rz, az⟩ := known_ok hz
  rcases h2 with ⟨z0, h2⟩ | ⟨z0, y0, yh, zr⟩ | ⟨z0, y0, h2⟩
  · left; exact ⟨z0, sub_trans h2 m⟩
  · rw [sure_none y0, yh] at m
    have hs := all_sub m
    by_cases x0 : x.r.k = 0#8
    · right; left; rw [sure_none x0] at hs; exact ⟨z0, x0, hs, zr⟩
    · right; right
      by_cases x1 : x.r.k = 1#8
      · rw [zr]; exact ⟨by rw [← zr]; exact z0, x0, in_all rx x1⟩
      · rw [sure_other x0 x1] at hs; exact absurd hs (by decide)
  · rcases h1 with ⟨y0', _⟩ | ⟨_, x0, xh, yr⟩ | ⟨_, x0, h1⟩
    · exact absurd y0' y0
    · right; left
      rw [yr] at h2
      exact ⟨z0, x0, xh, all_only rz z0 h2⟩
    · right; right; exact ⟨z0, x0, inR_trans rx ry rz h1 h2⟩

theorem joinSl_cases (x y : Slt) : (x.r.k ≠ 0#8 ∧ y.r.k ≠ 0#8 ∧ (joinR x.r y.r).k ≠ 0#8 ∧ joinSl x y = ⟨255#8, joinR x.r y.r⟩) ∨
    ((x.r.k = 0#8 ∨ y.r.k = 0#8 ∨ (joinR x.r y.r).k = 0#8) ∧ joinSl x y = ⟨sureS x &&& sureS y, nilR⟩) := by
  unfold joinSl jc1 jc2 and8
  by_cases h1 : x.r.k = 0#8
  · right; exact ⟨.inl h1, by simp [h1]⟩
  · by_cases h2 : y.r.k = 0#8
    · right; exact ⟨.inr (.inl h2), by simp [h2]⟩
    · by_cases h3 : (joinR x.r y.r).k = 0#8
      · right; exact ⟨.inr (.inr h3), by simp [h1, h2, h3]⟩
      · left
        refine ⟨h1, h2, h3, ?_⟩
        rw [beq_eq_false_iff_ne.2 h1, beq_eq_false_iff_ne.2 h2, bne_iff_ne.2 h3]; rfl
theorem nil0 : nilR.k = 0#8 := rfl
theorem joinSl_facts {x y : Slt} (hx : knownS x = true) (hy : knownS y = true) : knownS (joinSl x y) = true ∧ coversS x (joinSl x y) = true ∧ coversS y (joinSl x y) = true := by
  obtain ⟨rx, ax⟩ := known_ok hx
  obtain ⟨ry, ay⟩ := known_ok hy
  rcases joinSl_cases x y with ⟨x0, y0, j0, e⟩ | ⟨_, e⟩
  · have h := joinR_in rx ry
    rw [e]
    exact ⟨known_of (joinR_ok rx ry) (.inr rfl), covers_iff.2 (.inr (.inr ⟨j0, x0, h.1⟩)), covers_iff.2 (.inr (.inr ⟨j0, y0, h.2⟩))⟩
  · rw [e]
    exact ⟨known_of .none (.inl rfl), covers_iff.2 (.inl ⟨rfl, sub_and_l _ _⟩), covers_iff.2 (.inl ⟨rfl, sub_and_r _ _⟩)⟩
theorem in_zero {x z : Reg} (h : inR x z = true) (hx : x.k = 0#8) : z.k = 0#8 := by
  by_cases e : z.k = 0#8
  · exact e
  · unfold inR at h
    simp [noughtR, firstR, hx, e, bne] at h
    by_cases e7 : z.k = 7#8
    · simp [e7] at h
    · have e' : ¬ 0#8 = z.k := fun q => e q.symm
      simp [e7, e'] at h
theorem joinSl_least {x y z : Slt} (hx : knownS x = true) (hy : knownS y = true) (hz : knownS z = true) (h1 : coversS x z = true) (h2 : coversS y z = true) : coversS (joinSl x y) z = true := by
  obtain ⟨rx, ax⟩ := known_ok hx
  obtain ⟨ry, ay⟩ := known_ok hy
  obtain ⟨rz, az⟩ := known_ok hz
  have m1 := sure_mono h1
  have m2 := sure_mono h2
  rw [covers_iff] at h1 h2 ⊢
  by_cases z0 : z.r.k = 0#8
  · left
    refine ⟨z0, ?_⟩
    rw [sure_none z0] at m1 m2
    rcases joinSl_cases x y with ⟨x0, y0, j0, e⟩ | ⟨_, e⟩
    · rw [e]
      by_cases j1 : (joinR x.r y.r).k = 1#8
      · rw [sure_num (x := ⟨255#8, joinR x.r y.r⟩) j1]; exact sub_all _
      · have : z.h = 0#8 := by
          by_cases x1 : x.r.k = 1#8
          · by_cases y1 : y.r.k = 1#8
            · exact absurd (by unfold joinR; simp [x1, y1]) j1
            · rw [sure_other y0 y1] at m2; exact sub_zero m2
          · rw [sure_other x0 x1] at m1; exact sub_zero m1
        rw [this]; exact BitVec.zero_and
    · rw [e]
      rw [sure_none (x := ⟨sureS x &&& sureS y, nilR⟩) rfl]
      exact sub_and m1 m2
  · have full : x.r.k = 0#8 ∨ y.r.k = 0#8 → SubB 255#8 (sureS x &&& sureS y) ∧ z.r = numAll := by
      intro h
      have zr : z.r = numAll := by
        rcases h with h | h
        · rcases h1 with ⟨c, _⟩ | ⟨_, _, _, c⟩ | ⟨_, c, _⟩
          · exact absurd c z0
          · exact c
          · exact absurd h c
        · rcases h2 with ⟨c, _⟩ | ⟨_, _, _, c⟩ | ⟨_, c, _⟩
          · exact absurd c z0
          · exact c
          · exact absurd h c
      have sz : sureS z = 255#8 := sure_num (by rw [zr]; rfl)
      rw [sz] at m1 m2
      exact ⟨sub_and m1 m2, zr⟩
    rcases joinSl_cases x y with ⟨x0, y0, j0, e⟩ | ⟨hc, e⟩
    · right; right
      rw [e]
      rcases h1 with ⟨c, _⟩ | ⟨_, c, _, _⟩ | ⟨_, _, c1⟩
      · exact absurd c z0
      · exact absurd c x0
      · rcases h2 with ⟨c, _⟩ | ⟨_, c, _, _⟩ | ⟨_, _, c2⟩
        · exact absurd c z0
        · exact absurd c y0
        · exact ⟨z0, j0, joinR_least rx ry rz c1 c2⟩
    · rw [e]
      by_cases hn : x.r.k = 0#8 ∨ y.r.k = 0#8
      · right; left
        exact ⟨z0, rfl, all_sub (full hn).1, (full hn).2⟩
      · exfalso
        have x0 : x.r.k ≠ 0#8 := fun q => hn (.inl q)
        have y0 : y.r.k ≠ 0#8 := fun q => hn (.inr q)
        have j0 : (joinR x.r y.r).k = 0#8 := by
          rcases hc with q | q | q
          · exact absurd q x0
          · exact absurd q y0
          · exact q
        rcases h1 with ⟨c, _⟩ | ⟨_, c, _, _⟩ | ⟨_, _, c1⟩
        · exact absurd c z0
        · exact absurd c x0
        · rcases h2 with ⟨c, _⟩ | ⟨_, c, _, _⟩ | ⟨_, _, c2⟩
          · exact absurd c z0
          · exact absurd c y0
          · exact z0 (in_zero (joinR_least rx ry rz c1 c2) j0)
end Go.Rf
