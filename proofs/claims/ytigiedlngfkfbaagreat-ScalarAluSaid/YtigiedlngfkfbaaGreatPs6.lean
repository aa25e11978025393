/- Scalars: ScalarSwaps, plain. -/
import Derived.Test.YtigiedlngfkfbaaGreatPs5
set_option linter.unusedVariables false
set_option linter.unusedSimpArgs false
namespace Go.Rf

def sel3 (c1 c2 c3 : Bool) (v d : W) : W := bif c1 then (bif c1 then v else d) else bif c2 then (bif c2 then v else d) else bif c3 then v else d
def shU (x z : W) : W := shrB .u64 x (amt .u64 (convB .i64 .u64 (64#64 - z)))
def swP (z a : W) : W := sel3 (z == 16#64) (z == 32#64) (z == 64#64) (shU (revW a) z) 0#64
def swE (z : W) : W := sel3 (z == 16#64) (z == 32#64) (z == 64#64) 0#64 1#64
def topB (z : W) : W := (1#64 <<< amt .u64 (convB .i64 .u64 z)) - 1#64
def belowM (z : W) : W := sel3 (z == 8#64) (z == 16#64) (z == 32#64) (topB z) 0#64
def belowC (z : W) : Sc := ⟨⟨bif z == 64#64 then allC.t.v else 0, bif z == 64#64 then allC.t.m else belowM z⟩, ⟨bif z == 64#64 then allC.s.lo else 0, bif z == 64#64 then allC.s.hi else belowM z⟩⟩
def dbl (n : W) : W := n * 2#64
def topD (z : W) : W := (CtS.run dbl ⟨z, 1#64, 0#64⟩).n - 1#64
def bad3 (z : W) : Bool := z != 8#64 && z != 16#64 && z != 32#64
def belowD (z : W) : Sc := Sc.mux (z == 64#64) allC (Sc.mux (bad3 z) (ofC 0#64) ⟨⟨0#64, topD z⟩, ⟨0#64, topD z⟩⟩)

theorem topD_eq {z : W} (h : z = 8#64 ∨ z = 16#64 ∨ z = 32#64) : topD z = topB z := by
  have h0 : 0 ≤ z.toInt := by rcases h with rfl | rfl | rfl <;> decide
  have e := ct_run h0 dbl (fun i => 2 ^ i) (fun i => by
    unfold dbl
    rw [BitVec.mul_comm, ofNat_two, Nat.pow_succ, Nat.mul_comm])
  have e' : (CtS.run dbl ⟨z, 1#64, 0#64⟩).n = BitVec.ofNat 64 (2 ^ z.toNat) := e
  unfold topD
  rw [e']
  rcases h with rfl | rfl | rfl <;> rfl

theorem below_same (z : W) : belowC z = belowD z := by
  unfold belowC belowD belowM
  by_cases h1 : z = 64#64
  · rw [h1]; rfl
  · have e1 : (z == 64#64) = false := by rw [beq_eq_false_iff_ne]; exact h1
    rw [e1]
    by_cases h2 : z = 8#64
    · subst h2
      have := topD_eq (z := 8#64) (.inl rfl)
      show (⟨⟨0, topB 8#64⟩, ⟨0, topB 8#64⟩⟩ : Sc) = ⟨⟨0#64, topD 8#64⟩, ⟨0#64, topD 8#64⟩⟩
      rw [this]; rfl
    · by_cases h3 : z = 16#64
      · subst h3
        have := topD_eq (z := 16#64) (.inr (.inl rfl))
        show (⟨⟨0, topB 16#64⟩, ⟨0, topB 16#64⟩⟩ : Sc) = ⟨⟨0#64, topD 16#64⟩, ⟨0#64, topD 16#64⟩⟩
        rw [this]; rfl
      · by_cases h4 : z = 32#64
        · subst h4
          have := topD_eq (z := 32#64) (.inr (.inr rfl))
          show (⟨⟨0, topB 32#64⟩, ⟨0, topB 32#64⟩⟩ : Sc) = ⟨⟨0#64, topD 32#64⟩, ⟨0#64, topD 32#64⟩⟩
          rw [this]; rfl
        · have e2 : (z == 8#64) = false := by rw [beq_eq_false_iff_ne]; exact h2
          have e3 : (z == 16#64) = false := by rw [beq_eq_false_iff_ne]; exact h3
          have e4 : (z == 32#64) = false := by rw [beq_eq_false_iff_ne]; exact h4
          have e5 : bad3 z = true := by unfold bad3 bne; rw [e2, e3, e4]; rfl
          rw [e2, e3, e4, e5]; rfl

noncomputable def swapBad (z : W) (x : Sc) : Bool := !mayC x || swE z != 0#64
noncomputable def swapC (z : W) (x : Sc) : Sc := setR ⟨swP z x.t.v, swP z x.t.m⟩ (belowC z).s
noncomputable def swapBadD (z : W) (x : Sc) : Bool := !mayC x || (bif swBad z then 1#64 else 0#64) != 0#64
noncomputable def swapD (z : W) (x : Sc) : Sc := setR ⟨swD z x.t.v, swD z x.t.m⟩ (belowD z).s

theorem swE_eq (z : W) : swE z = bif swBad z then 1#64 else 0#64 := by
  unfold swE swBad sel3 bne
  cases z == 16#64 <;> cases z == 32#64 <;> cases z == 64#64 <;> rfl
theorem swP_eq (z a : W) : swP z a = swD z a := by
  unfold swP swD sel3
  by_cases h1 : z = 16#64
  · subst h1
    rw [sw_run (k := 2) (by decide) (by decide), ← rev_sw a (k := 2) (by decide) (by decide)]; rfl
  · by_cases h2 : z = 32#64
    · subst h2
      rw [sw_run (k := 4) (by decide) (by decide), ← rev_sw a (k := 4) (by decide) (by decide)]; rfl
    · by_cases h3 : z = 64#64
      · subst h3
        rw [sw_run (k := 8) (by decide) (by decide), ← rev_sw a (k := 8) (by decide) (by decide)]; rfl
      · have e1 : (z == 16#64) = false := by rw [beq_eq_false_iff_ne]; exact h1
        have e2 : (z == 32#64) = false := by rw [beq_eq_false_iff_ne]; exact h2
        have e3 : (z == 64#64) = false := by rw [beq_eq_false_iff_ne]; exact h3
        have e4 : swBad z = true := by unfold swBad bne; rw [e1, e2, e3]; rfl
        rw [e1, e2, e3, e4]; rfl

noncomputable def swaps (z : W) (x : Sc) : Bool :=
  true && eqC (Sc.mux (swapBad z x) nilC (swapC z x)) (Sc.mux (swapBadD z x) nilC (swapD z x)) && (bif swapBad z x then 1#64 else 0#64 : W) == (bif swapBadD z x then 1#64 else 0#64)
theorem swaps_true (z : W) (x : Sc) : swaps z x = true := by
  have e1 : swapBad z x = swapBadD z x := by unfold swapBad swapBadD; rw [swE_eq]
  have e2 : swapC z x = swapD z x := by unfold swapC swapD; rw [swP_eq, swP_eq, below_same]
  unfold swaps
  rw [e1, e2, eqC_iff.2 rfl]
  simp
end Go.Rf
