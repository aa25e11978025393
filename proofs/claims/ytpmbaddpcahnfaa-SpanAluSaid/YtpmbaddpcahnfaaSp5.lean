/- Spans: sums, differences, quotients, what is left; products of two words. -/
import Derived.Test.YtpmbaddpcahnfaaSp4
set_option linter.unusedVariables false
set_option linter.unusedSimpArgs false
namespace Go.Rf
open Go.Proofs

def sumBad (a b : Sp) (t : W) : Bool := carryB a.lo b.lo != carryB a.hi b.hi || ltB .u64 t (a.lo + b.lo) != ltB .u64 t (a.hi + b.hi)
def sumS (a b : Sp) (t : W) : Sp := Sp.mux (sumBad a b t) ⟨0, t⟩ ⟨(a.lo + b.lo) &&& t, (a.hi + b.hi) &&& t⟩
def lessBad (a b : Sp) : Bool := borrowB a.lo b.hi != borrowB a.hi b.lo
def lessS (a b : Sp) (t : W) : Sp := Sp.mux (lessBad a b) ⟨0, t⟩ ⟨(a.lo - b.hi) &&& t, (a.hi - b.lo) &&& t⟩
def quoW (x y : W) : W := quoB .u64 x y
def remW (x y : W) : W := remB .u64 x y
def partsS (a b : Sp) : Sp := Sp.mux (b.hi == 0#64) nilS (Sp.mux (b.lo == 0#64) ⟨0, a.hi⟩ ⟨quoW a.lo b.hi, quoW a.hi b.lo⟩)
def restC1 (a b : Sp) : Bool := b.hi == 0#64 || ltB .u64 a.hi b.lo
def restC2 (a b : Sp) : Bool := b.lo == b.hi && quoW a.lo b.lo == quoW a.hi b.lo
def restS (a b : Sp) : Sp :=
  ⟨bif restC1 a b then a.lo else bif restC2 a b then remW a.lo b.lo else 0#64,
   bif restC1 a b then a.hi else bif restC2 a b then remW a.hi b.lo else bif b.lo == 0#64 then a.hi else minU a.hi (b.hi - 1#64)⟩

theorem k30 : ConOk Try.prog 30 (con3 cSp cSp cW fun a b t => eSp (sumS a b t)) :=
  con3_ok sg5 (Λ := noHooks) 3 (fun _ _ _ => rfl) (fun a b t => Ev.of (by kernel_rfl))
theorem k31 : ConOk Try.prog 31 (con3 cSp cSp cW fun a b t => eSp (lessS a b t)) :=
  con3_ok sg5 (Λ := noHooks) 3 (fun _ _ _ => rfl) (fun a b t => Ev.of (by kernel_rfl))
theorem k33 : ConOk Try.prog 33 (con2 cSp cSp fun a b => eSp (partsS a b)) :=
  con2_ok sg5 (Λ := noHooks) 3 (fun _ _ => rfl) (fun a b => Ev.fg (L := [([!(b.lo == 0#64), !(b.hi == 0#64)], b.hi ≠ 0#64), ([!(b.lo == 0#64), !(b.hi == 0#64)], b.lo ≠ 0#64)]) (by kernel_rfl) (by
    intro e he hg
    simp only [List.mem_cons, List.not_mem_nil, or_false] at he
    rcases he with rfl | rfl
    · have := hg _ (List.mem_cons_of_mem _ (List.mem_cons_self ..)); simpa using this
    · have := hg _ (List.mem_cons_self ..); simpa using this))

theorem rest_n0 {a b : Sp} (h1 : (!restC1 a b) = true) (h2 : b.lo = b.hi) : b.lo ≠ 0#64 := by
  unfold restC1 at h1
  rw [h2]
  intro h
  rw [h] at h1
  simp at h1
theorem k38 : ConOk Try.prog 38 (con2 cSp cSp fun a b => eSp (restS a b)) :=
  con2_ok sg5 (Λ := noHooks) 3 (fun _ _ => rfl) (fun a b => Ev.fg (L := [([b.lo == b.hi, !(restC1 a b)], b.lo ≠ 0#64), ([b.lo == b.hi, !(restC1 a b)], b.lo ≠ 0#64), ([restC2 a b, !(restC1 a b)], b.lo ≠ 0#64), ([restC2 a b, !(restC1 a b)], b.lo ≠ 0#64)]) (by kernel_rfl) (by
    intro e he hg
    simp only [List.mem_cons, List.not_mem_nil, or_false] at he
    rcases he with rfl | rfl | rfl | rfl
    · exact rest_n0 (hg _ (List.mem_cons_of_mem _ (List.mem_cons_self ..))) (by have := hg _ (List.mem_cons_self ..); simpa using this)
    · exact rest_n0 (hg _ (List.mem_cons_of_mem _ (List.mem_cons_self ..))) (by have := hg _ (List.mem_cons_self ..); simpa using this)
    · exact rest_n0 (hg _ (List.mem_cons_of_mem _ (List.mem_cons_self ..))) (by have := hg _ (List.mem_cons_self ..); simp [restC2] at this; exact this.1)
    · exact rest_n0 (hg _ (List.mem_cons_of_mem _ (List.mem_cons_self ..))) (by have := hg _ (List.mem_cons_self ..); simp [restC2] at this; exact this.1)))

/-! Products of two words. -/
def m32 : W := 4294967295#64
def s32 (x : W) : W := x >>> 32
def mulT (x y : W) : W := s32 x * (y &&& m32) + s32 ((x &&& m32) * (y &&& m32))
def mulHi (x y : W) : W := s32 x * s32 y + s32 (mulT x y) + s32 ((mulT x y &&& m32) + (x &&& m32) * s32 y)
theorem k32 : ConOk Try.prog 32 (con2 cW cW fun x y => pair (eW (mulHi x y)) (eW (x * y))) :=
  con2_ok sg5 (Λ := noHooks) 3 (fun _ _ => rfl) (fun a b => Ev.of (by kernel_rfl))

theorem s32_nat (x : W) : (s32 x).toNat = x.toNat / 4294967296 := by
  unfold s32
  rw [BitVec.toNat_ushiftRight, Nat.shiftRight_eq_div_pow]
theorem m32_nat (x : W) : (x &&& m32).toNat = x.toNat % 4294967296 := by
  rw [BitVec.toNat_and]
  exact Nat.and_two_pow_sub_one_eq_mod x.toNat 32

theorem mul_bd {x y : Nat} (hx : x < 4294967296) (hy : y < 4294967296) : x * y ≤ 18446744065119617025 :=
  Nat.mul_le_mul (Nat.le_of_lt_succ hx) (Nat.le_of_lt_succ hy)

theorem mulHi_nat (x y : W) : (mulHi x y).toNat = x.toNat * y.toNat / 18446744073709551616 := by
  have hx := x.isLt
  have hy := y.isLt
  have x1 : x.toNat / 4294967296 < 4294967296 := by omega
  have y1 : y.toNat / 4294967296 < 4294967296 := by omega
  have x0 : x.toNat % 4294967296 < 4294967296 := Nat.mod_lt _ (by decide)
  have y0 : y.toNat % 4294967296 < 4294967296 := Nat.mod_lt _ (by decide)
  have b00 := mul_bd x0 y0
  have b01 := mul_bd x0 y1
  have b10 := mul_bd x1 y0
  have b11 := mul_bd x1 y1
  have hT : (mulT x y).toNat = x.toNat / 4294967296 * (y.toNat % 4294967296) + x.toNat % 4294967296 * (y.toNat % 4294967296) / 4294967296 := by
    unfold mulT
    rw [BitVec.toNat_add, BitVec.toNat_mul, s32_nat, s32_nat, BitVec.toNat_mul, m32_nat, m32_nat]
    omega
  have hprod : x.toNat * y.toNat = x.toNat / 4294967296 * (y.toNat / 4294967296) * 18446744073709551616 + (x.toNat / 4294967296 * (y.toNat % 4294967296) + x.toNat % 4294967296 * (y.toNat / 4294967296)) * 4294967296 + x.toNat % 4294967296 * (y.toNat % 4294967296) := by
    have ex : x.toNat = x.toNat / 4294967296 * 4294967296 + x.toNat % 4294967296 := by omega
    have ey : y.toNat = y.toNat / 4294967296 * 4294967296 + y.toNat % 4294967296 := by omega
    generalize x.toNat / 4294967296 = a at *
    generalize x.toNat % 4294967296 = b at *
    generalize y.toNat / 4294967296 = c at *
    generalize y.toNat % 4294967296 = d at *
    rw [ex, ey, Nat.add_mul, Nat.mul_add, Nat.mul_add]
    have e1 : a * 4294967296 * (c * 4294967296) = a * c * 18446744073709551616 := by
      rw [Nat.mul_mul_mul_comm]
    have e2 : a * 4294967296 * d = a * d * 4294967296 := Nat.mul_right_comm _ _ _
    have e3 : b * (c * 4294967296) = b * c * 4294967296 := (Nat.mul_assoc _ _ _).symm
    rw [e1, e2, e3]
    omega
  unfold mulHi
  rw [BitVec.toNat_add, BitVec.toNat_add, BitVec.toNat_mul, s32_nat, s32_nat, s32_nat, s32_nat, BitVec.toNat_add, BitVec.toNat_mul, m32_nat, m32_nat, s32_nat, hT, hprod]
  generalize x.toNat / 4294967296 * (y.toNat % 4294967296) = B at *
  generalize x.toNat % 4294967296 * (y.toNat / 4294967296) = C at *
  generalize x.toNat / 4294967296 * (y.toNat / 4294967296) = A at *
  generalize x.toNat % 4294967296 * (y.toNat % 4294967296) = D at *
  omega
end Go.Rf
