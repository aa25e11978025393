/- How many bits a number has; stretches; how many bits are any. -/
import Derived.Test.YtkfgohhmicfnhaaTn9
set_option linter.unusedVariables false
set_option linter.unusedSimpArgs false
namespace Go.Rf
open Go.Proofs

/-- The table that bits.Len64 reads, out of the program. -/
noncomputable def lenTab : ByteArray :=
  match (match Try.prog.funcs[71]? with
    | some fn => match fn.body with
      | some c => match codeAt c [1, 1, 1, 1, 0] with
        | some (.region _ ops _) => match ops[3]? with
          | some o => match o.op with
            | .index _ x _ => strOf x
            | _ => none
          | none => none
        | _ => none
      | none => none
    | none => none) with
  | some s => s
  | none => ⟨#[]⟩

noncomputable def tabW (x : W) : W := convB .u8 .i64 (BitVec.ofNat 8 (byteAt lenTab (toZ .u8 (convB .u64 .u8 x)).toNat))
def shrW (x : W) (k : Nat) : W := shrB .u64 x k
noncomputable def lenC (n : W) (x : W) : W := bif leB .u64 256#64 x then (n + 8#64) + tabW (shrW x 8) else n + tabW x
noncomputable def lenB (n : W) (x : W) : W := bif leB .u64 65536#64 x then lenC (n + 16#64) (shrW x 16) else lenC n x
noncomputable def lenW (x : W) : W := bif leB .u64 4294967296#64 x then lenB 32#64 (shrW x 32) else lenB 0#64 x


def tabOb (x : W) : Prop := 0 ≤ toZ .u8 (convB .u64 .u8 x) ∧ toZ .u8 (convB .u64 .u8 x) < (lenTab.size : Int)

theorem lenTab_size : lenTab.size = 256 := by kernel_rfl

theorem tabOb_holds (x : W) : tabOb x := by
  unfold tabOb
  rw [lenTab_size]
  show 0 ≤ (((convB .u64 .u8 x : BitVec 8).toNat : Nat) : Int) ∧ (((convB .u64 .u8 x : BitVec 8).toNat : Nat) : Int) < _
  have : (convB .u64 .u8 x : BitVec 8).toNat < 256 := (convB .u64 .u8 x : BitVec 8).isLt
  omega

theorem k71 : ConOk Try.prog 71 (con1 cW fun x => eI (lenW x)) :=
  con1_ok gC (Λ := noHooks) 5 (fun _ => rfl) (fun x => Ev.fl (g := true) (L := [tabOb (shrW (shrW (shrW x 32) 16) 8), tabOb (shrW (shrW x 32) 16), tabOb (shrW (shrW x 32) 8), tabOb (shrW x 32),
      tabOb (shrW (shrW x 16) 8), tabOb (shrW x 16), tabOb (shrW x 8), tabOb x]) (by kernel_rfl)
    (fun _ p hp => by
      simp only [List.mem_cons, List.not_mem_nil, or_false] at hp
      rcases hp with rfl | rfl | rfl | rfl | rfl | rfl | rfl | rfl <;> exact tabOb_holds _))

noncomputable def lD : List (FuncId × Con) := (71, con1 cW fun x => eI (lenW x)) :: lC
theorem gD : TabOk Try.prog (tabOf lD) := tabOf_cons gC k71

def badRg (lo hi : W) : Bool := ltB .u64 hi lo
noncomputable def rgN (lo hi : W) : W := lenW (lo ^^^ hi)
noncomputable def rgT (lo hi : W) : Tn := Tn.mux (rgN lo hi == 64#64) ⟨0#64, 18446744073709551615#64⟩ (fit lo ((1#64 <<< amt .u64 (convB .i64 .u64 (rgN lo hi))) - 1#64))
theorem k45 : ConOk Try.prog 45 (con2 cW cW fun lo hi => resTE (badRg lo hi) (rgT lo hi)) :=
  con2_ok gD (Λ := noHooks) 5 (fun _ _ => rfl) (fun x y => Ev.of (by kernel_rfl))

/-! What they are. -/
def bl (n : Nat) : Nat := if n = 0 then 0 else n.log2 + 1

theorem tab_all : (List.range 256).all (fun i => byteAt lenTab i == bl i) = true := by kernel_rfl
theorem tab_eq (i : Nat) (h : i < 256) : byteAt lenTab i = bl i := by
  have := List.all_eq_true.1 tab_all i (by simpa using h)
  simpa using this

theorem bl_shift (n k : Nat) (h : 2 ^ k ≤ n) : bl n = bl (n / 2 ^ k) + k := by
  have h0 : 0 < 2 ^ k := Nat.two_pow_pos k
  have hn : n ≠ 0 := by omega
  have hd : n / 2 ^ k ≠ 0 := by
    have := Nat.div_pos h h0; omega
  simp only [bl, hn, hd, if_false]
  have : n.log2 = (n / 2 ^ k).log2 + k := by
    have h1 := (Nat.le_log2 hd (k := (n / 2 ^ k).log2)).1 (Nat.le_refl _)
    have h2 := (Nat.log2_lt hd (k := (n / 2 ^ k).log2 + 1)).1 (by omega)
    apply Nat.le_antisymm
    · have : n.log2 < (n / 2 ^ k).log2 + k + 1 := by
        rw [Nat.log2_lt hn]
        rw [Nat.div_lt_iff_lt_mul h0, ← Nat.pow_add] at h2
        have e : (n / 2 ^ k).log2 + 1 + k = (n / 2 ^ k).log2 + k + 1 := by omega
        rw [e] at h2
        exact h2
      omega
    · rw [Nat.le_log2 hn]
      rw [Nat.le_div_iff_mul_le h0, ← Nat.pow_add] at h1
      exact h1
  omega

theorem bl_le (n k : Nat) (h : n < 2 ^ k) : bl n ≤ k := by
  unfold bl
  split
  · omega
  · rename_i h0
    have := (Nat.log2_lt h0).2 h
    omega

theorem tabW_eq (x : W) (h : x.toNat < 256) : tabW x = BitVec.ofNat 64 (bl x.toNat) := by
  have e : (toZ .u8 (convB .u64 .u8 x)).toNat = x.toNat := by
    show (((x.setWidth 8).toNat : Nat) : Int).toNat = _
    simp; omega
  unfold tabW
  rw [e, tab_eq _ h]
  have hb := bl_le x.toNat 8 (by omega)
  show ((BitVec.ofNat 8 (bl x.toNat)).setWidth 64 : W) = _
  apply BitVec.eq_of_toNat_eq
  simp; omega

theorem shr_nat (x : W) (k : Nat) : (shrW x k).toNat = x.toNat / 2 ^ k := by
  show (x >>> k).toNat = _
  rw [BitVec.toNat_ushiftRight, Nat.shiftRight_eq_div_pow]

theorem le_nat (x y : W) : leB .u64 x y = decide (x.toNat ≤ y.toNat) := rfl

theorem lenC_eq (c : Nat) (x : W) (h : x.toNat < 2 ^ 16) (hc : c ≤ 48) : lenC (BitVec.ofNat 64 c) x = BitVec.ofNat 64 (c + bl x.toNat) := by
  unfold lenC
  have e256 : (256#64 : W).toNat = 256 := rfl
  rw [le_nat, e256]
  by_cases hx : 256 ≤ x.toNat
  · have h8 : (shrW x 8).toNat = x.toNat / 2 ^ 8 := shr_nat x 8
    rw [decide_eq_true hx, cond_true, tabW_eq _ (by rw [h8]; omega), h8, bl_shift x.toNat 8 (by omega)]
    rw [← BitVec.ofNat_add, ← BitVec.ofNat_add]
    congr 1; omega
  · rw [decide_eq_false hx, cond_false, tabW_eq _ (by omega), ← BitVec.ofNat_add]

theorem lenB_eq (c : Nat) (x : W) (h : x.toNat < 2 ^ 32) (hc : c ≤ 32) : lenB (BitVec.ofNat 64 c) x = BitVec.ofNat 64 (c + bl x.toNat) := by
  unfold lenB
  have e : (65536#64 : W).toNat = 2 ^ 16 := rfl
  rw [le_nat, e]
  by_cases hx : 2 ^ 16 ≤ x.toNat
  · have h8 : (shrW x 16).toNat = x.toNat / 2 ^ 16 := shr_nat x 16
    have e2 : (BitVec.ofNat 64 c + 16#64 : W) = BitVec.ofNat 64 (c + 16) := by rw [← BitVec.ofNat_add]
    rw [decide_eq_true hx, cond_true, e2, lenC_eq _ _ (by rw [h8]; omega) (by omega), h8, bl_shift x.toNat 16 hx]
    congr 1; omega
  · rw [decide_eq_false hx, cond_false, lenC_eq _ _ (by omega) (by omega)]

theorem lenW_eq (x : W) : lenW x = BitVec.ofNat 64 (bl x.toNat) := by
  unfold lenW
  have e : (4294967296#64 : W).toNat = 2 ^ 32 := rfl
  rw [le_nat, e]
  by_cases hx : 2 ^ 32 ≤ x.toNat
  · have h8 : (shrW x 32).toNat = x.toNat / 2 ^ 32 := shr_nat x 32
    have := x.isLt
    rw [decide_eq_true hx, cond_true, lenB_eq 32 _ (by rw [h8]; omega) (by omega), h8, bl_shift x.toNat 32 hx]
    congr 1; omega
  · rw [decide_eq_false hx, cond_false, lenB_eq 0 _ (by omega) (by omega)]
    congr 1; omega

end Go.Rf
