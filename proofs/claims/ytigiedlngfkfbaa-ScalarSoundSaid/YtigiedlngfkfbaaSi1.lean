/- Scalars: turned bytes are held. -/
import Derived.Test.YtigiedlngfkfbaaShB
set_option linter.unusedVariables false
set_option linter.unusedSimpArgs false
set_option maxRecDepth 100000
namespace Go.Rf
open Go.Proofs

theorem rev_mem {t : Tn} {x : W} (h : T.Mem t x) : T.Mem ⟨revW t.v, revW t.m⟩ (revW x) := by
  rw [T.mem_iff_bits] at h ⊢
  intro i hi
  show (revW t.v).getLsbD i = ((revW x).getLsbD i && !(revW t.m).getLsbD i)
  rw [rev_bit _ i hi, rev_bit _ i hi, rev_bit _ i hi]
  exact h _ (by omega)
theorem shU_eq (x : W) {z : W} (h : z = 16#64 ∨ z = 32#64 ∨ z = 64#64) : shU x z = x >>> (64 - z.toNat) := by
  rcases h with rfl | rfl | rfl <;> rfl
theorem swP_is {z : W} (h : z = 16#64 ∨ z = 32#64 ∨ z = 64#64) (a : W) : swP z a = revW a >>> (64 - z.toNat) := by
  rw [← shU_eq _ h]
  rcases h with rfl | rfl | rfl <;> rfl
theorem swP_mem {z : W} (h : z = 16#64 ∨ z = 32#64 ∨ z = 64#64) {t : Tn} {x : W} (hm : T.Mem t x) : T.Mem ⟨swP z t.v, swP z t.m⟩ (swP z x) := by
  rw [swP_is h, swP_is h, swP_is h]
  exact rsh_mem (rev_mem hm) _
theorem below_mem {z : W} (h : z = 16#64 ∨ z = 32#64 ∨ z = 64#64) (x : W) : memS (belowC z).s (swP z x) := by
  rw [swP_is h]
  have hx := (revW x).isLt
  rcases h with rfl | rfl | rfl
  · have e : (belowC 16#64).s = ⟨0#64, 65535#64⟩ := by kernel_rfl
    rw [e]
    refine ⟨Nat.zero_le _, ?_⟩
    show (revW x >>> (64 - (16#64 : W).toNat)).toNat ≤ (65535#64 : W).toNat
    rw [BitVec.toNat_ushiftRight, Nat.shiftRight_eq_div_pow]
    have e1 : (16#64 : W).toNat = 16 := by decide
    have e2 : (65535#64 : W).toNat = 65535 := by decide
    rw [e1, e2]
    omega
  · have e : (belowC 32#64).s = ⟨0#64, 4294967295#64⟩ := by kernel_rfl
    rw [e]
    refine ⟨Nat.zero_le _, ?_⟩
    show (revW x >>> (64 - (32#64 : W).toNat)).toNat ≤ (4294967295#64 : W).toNat
    rw [BitVec.toNat_ushiftRight, Nat.shiftRight_eq_div_pow]
    have e1 : (32#64 : W).toNat = 32 := by decide
    have e2 : (4294967295#64 : W).toNat = 4294967295 := by decide
    rw [e1, e2]
    omega
  · have e : (belowC 64#64).s = ⟨0#64, 18446744073709551615#64⟩ := by kernel_rfl
    rw [e]
    refine ⟨Nat.zero_le _, ?_⟩
    have e2 : (18446744073709551615#64 : W).toNat = 18446744073709551615 := by decide
    show (revW x >>> (64 - (64#64 : W).toNat)).toNat ≤ (18446744073709551615#64 : W).toNat
    have := (revW x >>> (64 - (64#64 : W).toNat)).isLt
    omega
noncomputable def swRes (z : W) (x : Sc) : Sc := Sc.mux (swapBad z x) nilC (swapC z x)
noncomputable def swErr (z : W) (x : Sc) : W := bif swapBad z x then 1#64 else 0#64
theorem sw_good {z : W} (h : z = 16#64 ∨ z = 32#64 ∨ z = 64#64) {a : Sc} {x : W} (ha : hasC a x = true) : swErr z a = 0#64 ∧ hasC (swRes z a) (swD z x) = true := by
  obtain ⟨h1, h2⟩ := hasC_iff.1 ha
  have hb : swapBad z a = false := by
    unfold swapBad
    rw [h1]
    rcases h with rfl | rfl | rfl <;> rfl
  obtain ⟨_, q2, q3⟩ := settle_mem (swP_mem h h2.1) (below_mem h x)
  unfold swErr swRes
  rw [hb, ← swP_eq]
  exact ⟨rfl, hasC_iff.2 ⟨q3, q2⟩⟩
theorem k18 : ConOk Try.prog 18 (con2 cI cSc fun z x => pair (eSc (swRes z x)) (eI (swErr z x))) :=
  con2_ok rsf3 (Λ := noHooks) 8 (fun _ _ => rfl) (fun z x => Ev.of (by kernel_rfl))
theorem k24 : ConOk Try.prog 24 (con3 cSm cW cW fun s x y => eB true) :=
  (show (con3 cSm cW cW fun s x y => eB (soundB s x y)) = (con3 cSm cW cW fun s x y => eB true) from congrArg _ (by funext s x y; rw [soundB_true])) ▸ kk24
noncomputable def ti1 : List (FuncId × Con) := (24, con3 cSm cW cW fun s x y => eB true) :: (18, con2 cI cSc fun z x => pair (eSc (swRes z x)) (eI (swErr z x))) :: tj2
theorem rti1 : TabOk Try.prog (tabOf ti1) := tabOf_cons (tabOf_cons rtj2 k18) k24
end Go.Rf
