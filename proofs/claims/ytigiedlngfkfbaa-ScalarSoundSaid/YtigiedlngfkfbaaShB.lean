/- Several texts as one: Sh7 Sh8 Sh9 Sh10 Sh11 Sh12 Sh13. -/
import Derived.Test.YtigiedlngfkfbaaPP
import Derived.Test.YtigiedlngfkfbaaTV
import Derived.Test.YtigiedlngfkfbaaShA
set_option linter.unusedVariables false
set_option linter.unusedSimpArgs false
set_option linter.unusedSectionVars false
set_option maxRecDepth 100000

/- Numbers: one operation, said twice. -/
namespace Go.Rf
def wN (w : Bool) : Nat := bif w then 64 else 32
def wT (w : Bool) : W := bif w then t64 else t32
def wS (w : Bool) : W := bif w then 64#64 else 32#64
theorem fit_mask (w : Bool) (x : W) : T.fitW w x = x &&& wT w := by
  cases w with
  | true => exact (and64 x).symm
  | false =>
    apply BitVec.eq_of_toNat_eq
    show (x % 4294967296#64).toNat = (x &&& t32).toNat
    rw [BitVec.toNat_umod, BitVec.toNat_and]
    exact (Nat.and_two_pow_sub_one_eq_mod x.toNat 32).symm
theorem fit_nat (w : Bool) (x : W) : (T.fitW w x).toNat = x.toNat % 2 ^ wN w := by
  cases w with
  | true => exact (Nat.mod_eq_of_lt x.isLt).symm
  | false =>
    show (x % 4294967296#64).toNat = _
    rw [BitVec.toNat_umod]; rfl
theorem wN_le (w : Bool) : wN w ≤ 64 := by cases w <;> decide
theorem fit_of_lt {w : Bool} {x : W} (h : x.toNat < 2 ^ wN w) : T.fitW w x = x := by
  apply BitVec.eq_of_toNat_eq
  rw [fit_nat, Nat.mod_eq_of_lt h]
theorem fit_lt (w : Bool) (x : W) : (T.fitW w x).toNat < 2 ^ wN w := by
  rw [fit_nat]; exact Nat.mod_lt _ (Nat.two_pow_pos _)
theorem oneR_eq (op : W) (w : Bool) (x y : W) : oneR op w x y = one' op (T.fitW w x) (T.fitW w y) (wS w) (wT w) := by
  unfold oneR
  rw [top32, top64]
  cases w with
  | true => rw [fit_mask, fit_mask]; rfl
  | false => rw [fit_mask, fit_mask]; rfl
theorem and_lt {w : Bool} {x y : W} (hx : x.toNat < 2 ^ wN w) : (x &&& y).toNat < 2 ^ wN w := by
  rw [BitVec.toNat_and]; exact Nat.lt_of_le_of_lt Nat.and_le_left hx
theorem or_lt {w : Bool} {x y : W} (hx : x.toNat < 2 ^ wN w) (hy : y.toNat < 2 ^ wN w) : (x ||| y).toNat < 2 ^ wN w := by
  rw [BitVec.toNat_or]; exact Nat.or_lt_two_pow hx hy
theorem xor_lt {w : Bool} {x y : W} (hx : x.toNat < 2 ^ wN w) (hy : y.toNat < 2 ^ wN w) : (x ^^^ y).toNat < 2 ^ wN w := by
  rw [BitVec.toNat_xor]; exact Nat.xor_lt_two_pow hx hy
theorem one_0 (w : Bool) (x y : W) : oneR 0#64 w x y = T.aluV 0#64 w x y := by
  rw [oneR_eq]; exact (fit_mask w _).symm
theorem one_1 (w : Bool) (x y : W) : oneR 1#64 w x y = T.aluV 1#64 w x y := by
  rw [oneR_eq]; exact (fit_mask w _).symm
theorem one_2 (w : Bool) (x y : W) : oneR 2#64 w x y = T.aluV 2#64 w x y := by
  rw [oneR_eq]; exact (fit_mask w _).symm
theorem one_4 (w : Bool) (x y : W) : oneR 4#64 w x y = T.aluV 4#64 w x y := by
  rw [oneR_eq]; exact (fit_of_lt (or_lt (fit_lt w x) (fit_lt w y))).symm
theorem one_5 (w : Bool) (x y : W) : oneR 5#64 w x y = T.aluV 5#64 w x y := by
  rw [oneR_eq]; exact (fit_of_lt (and_lt (fit_lt w x))).symm
theorem one_8 (w : Bool) (x y : W) : oneR 8#64 w x y = T.aluV 8#64 w x y := by
  rw [oneR_eq]; exact (fit_mask w _).symm
theorem one_10 (w : Bool) (x y : W) : oneR 10#64 w x y = T.aluV 10#64 w x y := by
  rw [oneR_eq]; exact (fit_of_lt (xor_lt (fit_lt w x) (fit_lt w y))).symm
theorem one_11 (w : Bool) (x y : W) : oneR 11#64 w x y = T.aluV 11#64 w x y := by
  rw [oneR_eq]; exact (fit_of_lt (fit_lt w y)).symm
theorem pos_eq (w : Bool) (y : W) : T.pos w y = !(T.fitW w y == 0#64) := by
  show decide ((0#64 : W).toNat < (T.fitW w y).toNat) = _
  by_cases h : T.fitW w y = 0#64
  · rw [h]; decide
  · have e : (T.fitW w y == 0#64) = false := by simpa using h
    rw [e]
    have : (T.fitW w y).toNat ≠ 0 := fun h0 => h (BitVec.eq_of_toNat_eq h0)
    have z : (0#64 : W).toNat = 0 := rfl
    rw [z, decide_eq_true (by omega)]
    rfl
theorem quo_lt {w : Bool} {x y : W} (hx : x.toNat < 2 ^ wN w) : (quoB .u64 x y).toNat < 2 ^ wN w := by
  show (x.udiv y).toNat < _
  rw [BitVec.udiv_eq, BitVec.toNat_udiv]
  exact Nat.lt_of_le_of_lt (Nat.div_le_self _ _) hx
theorem rem_lt {w : Bool} {x y : W} (hx : x.toNat < 2 ^ wN w) : (remB .u64 x y).toNat < 2 ^ wN w := by
  show (x.umod y).toNat < _
  rw [BitVec.umod_eq, BitVec.toNat_umod]
  exact Nat.lt_of_le_of_lt (Nat.mod_le _ _) hx
theorem one_3 (w : Bool) (x y : W) : oneR 3#64 w x y = T.aluV 3#64 w x y := by
  rw [oneR_eq]
  show (bif T.fitW w y == 0#64 then 0#64 else quoW (T.fitW w x) (T.fitW w y)) = bif T.pos w y then T.fitW w (quoB .u64 (T.fitW w x) (T.fitW w y)) else T.fitW w 0#64
  rw [pos_eq]
  cases (T.fitW w y == 0#64) with
  | true => exact (fit_of_lt (by show (0#64 : W).toNat < _; exact Nat.two_pow_pos _)).symm
  | false => exact (fit_of_lt (quo_lt (fit_lt w x))).symm
theorem one_9 (w : Bool) (x y : W) : oneR 9#64 w x y = T.aluV 9#64 w x y := by
  rw [oneR_eq]
  show (bif T.fitW w y == 0#64 then T.fitW w x else remW (T.fitW w x) (T.fitW w y)) = bif T.pos w y then T.fitW w (remB .u64 (T.fitW w x) (T.fitW w y)) else T.fitW w (T.fitW w x)
  rw [pos_eq]
  cases (T.fitW w y == 0#64) with
  | true => exact (fit_of_lt (fit_lt w x)).symm
  | false => exact (fit_of_lt (rem_lt (fit_lt w x))).symm
/-- By how much is shifted. -/
def cntD (w : Bool) (y : W) : W := toIS (remW y (toUS (wS w)))
theorem cntD_nat (w : Bool) (y : W) : (cntD w y).toNat = y.toNat % wN w := by
  have := cnt_nat y (wS w) (by cases w <;> simp [wS])
  unfold cntD
  rw [this]
  cases w <;> rfl
theorem byW_nat (w : Bool) (y : W) : (T.byW w y).toNat = (T.fitW w y).toNat % wN w := by
  show ((T.fitW w y).umod (T.sizeW w)).toNat = _
  rw [BitVec.umod_eq, BitVec.toNat_umod]
  cases w <;> rfl
theorem wN_pos (w : Bool) : 0 < wN w := by cases w <;> decide
theorem cntD_lt (w : Bool) (y : W) : (cntD w y).toNat < 64 := by
  rw [cntD_nat]; exact Nat.lt_of_lt_of_le (Nat.mod_lt _ (wN_pos w)) (wN_le w)
theorem cnt_int (w : Bool) (y : W) : 0 ≤ (cntD w y).toInt := by
  have := cntD_lt w y
  rw [BitVec.toInt_eq_toNat_cond]
  split <;> omega
theorem amt_by (w : Bool) (y : W) : amt .u64 (T.byW w y) = (cntD w (T.fitW w y)).toNat := by
  rw [cntD_nat]; exact byW_nat w y
theorem one_6 (w : Bool) (x y : W) : oneR 6#64 w x y = T.aluV 6#64 w x y := by
  rw [oneR_eq]
  show (T.fitW w x * powWr (cntD w (T.fitW w y))) &&& wT w = T.fitW w (T.fitW w x <<< amt .u64 (T.byW w y))
  rw [fit_mask w (T.fitW w x <<< _), amt_by, powWr_eq (cnt_int _ _)]
  congr 1
  apply BitVec.eq_of_toNat_eq
  rw [BitVec.toNat_mul, BitVec.toNat_shiftLeft, BitVec.toNat_ofNat, Nat.shiftLeft_eq, Nat.mul_mod_mod]
theorem one_7 (w : Bool) (x y : W) : oneR 7#64 w x y = T.aluV 7#64 w x y := by
  rw [oneR_eq]
  show quoW (T.fitW w x) (powWr (cntD w (T.fitW w y))) = T.fitW w (shrB .u64 (T.fitW w x) (amt .u64 (T.byW w y)))
  have e : quoW (T.fitW w x) (powWr (cntD w (T.fitW w y))) = shrB .u64 (T.fitW w x) (amt .u64 (T.byW w y)) := by
    rw [amt_by, powWr_eq (cnt_int _ _)]
    apply BitVec.eq_of_toNat_eq
    show ((T.fitW w x).udiv (BitVec.ofNat 64 (2 ^ (cntD w (T.fitW w y)).toNat))).toNat = (T.fitW w x >>> (cntD w (T.fitW w y)).toNat).toNat
    have hk := cntD_lt w (T.fitW w y)
    rw [BitVec.udiv_eq, BitVec.toNat_udiv, BitVec.toNat_ushiftRight, BitVec.toNat_ofNat, Nat.mod_eq_of_lt (Nat.pow_lt_pow_right (by decide) hk), Nat.shiftRight_eq_div_pow]
  rw [e]
  refine (fit_of_lt ?_).symm
  rw [← e]
  exact quo_lt (fit_lt w x)
theorem wdOf (w : Bool) : Wd (wS w) (wT w) := by cases w; exact wd32; exact wd64
theorem wT_nat (w : Bool) : (wT w).toNat = 2 ^ wN w - 1 := by cases w <;> decide
theorem fit_le (w : Bool) (x : W) : (T.fitW w x).toNat ≤ (wT w).toNat := by
  have := fit_lt w x
  rw [wT_nat]; omega
theorem top_eq (w : Bool) : (1#64 <<< amt .u64 (T.sizeW w - 1#64) : W) = powWr (wS w - 1#64) := by
  cases w with
  | true => rw [powWr_eq (by decide)]; decide
  | false => rw [powWr_eq (by decide)]; decide
/-- A round: what is shifted in is the sign. -/
theorem al_step (w : Bool) {r : W} (hr : r.toNat < 2 ^ wN w) : (r >>> 1) ||| (r &&& powWr (wS w - 1#64)) = quoW r 2#64 + (r &&& powWr (wS w - 1#64)) := by
  have e1 : quoW r 2#64 = r >>> 1 := by
    apply BitVec.eq_of_toNat_eq
    rw [quoW_nat, BitVec.toNat_ushiftRight, Nat.shiftRight_eq_div_pow]
    rfl
  have e2 : powWr (wS w - 1#64) = BitVec.twoPow 64 (wN w - 1) := by
    cases w with
    | true => rw [powWr_eq (by decide)]; decide
    | false => rw [powWr_eq (by decide)]; decide
  rw [e1, e2, BitVec.add_eq_or_of_and_eq_zero]
  apply BitVec.eq_of_getLsbD_eq
  intro i hi
  simp only [BitVec.getLsbD_and, BitVec.getLsbD_ushiftRight, BitVec.getLsbD_twoPow, BitVec.getLsbD_zero]
  by_cases h : wN w - 1 = i
  · have hp := wN_pos w
    have : r.getLsbD (1 + i) = false := by
      have e : 1 + i = wN w := by omega
      rw [e, BitVec.getLsbD, Nat.testBit_lt_two_pow hr]
    rw [this]; rfl
  · simp [h]
theorem one_12 (w : Bool) (x y : W) : oneR 12#64 w x y = T.aluV 12#64 w x y := by
  rw [oneR_eq]
  show drawnR (T.fitW w x) (cntD w (T.fitW w y)) (wS w) = T.fitW w (runN T.AlS.go T.AlS.nxt 64 (T.arS w x y)).r
  have hk := cntD_lt w (T.fitW w y)
  have hx := fit_le w x
  have hb : (T.byW w y).toNat = (cntD w (T.fitW w y)).toNat := by rw [byW_nat, cntD_nat]
  rw [drawnR_eq (wdOf w) hx hk]
  let D : Nat → W := fun i => BitVec.ofNat 64 (drawnN (wT w).toNat (T.fitW w x).toNat i)
  have hD : ∀ i, (D i).toNat < 2 ^ wN w := by
    intro i
    have h1 := drawnN_le (k := i) hx
    have h2 := (wT w).isLt
    have h3 := wT_nat w
    have h4 := Nat.two_pow_pos (wN w)
    show (BitVec.ofNat 64 _).toNat < _
    rw [BitVec.toNat_ofNat, Nat.mod_eq_of_lt (by omega)]
    omega
  have h0 : D 0 = T.fitW w x := by
    have : drawnN (wT w).toNat (T.fitW w x).toNat 0 = (T.fitW w x).toNat := by unfold drawnN; split <;> simp <;> omega
    show BitVec.ofNat 64 _ = _
    rw [this]
    rw [BitVec.ofNat_toNat, BitVec.setWidth_eq]
  have hs : T.arS w x y = (⟨T.byW w y, D 0, powWr (wS w - 1#64), BitVec.ofNat 64 0⟩ : T.AlS) := by
    rw [h0, ← top_eq]; rfl
  have hinv : (T.arS w x y).inv := ⟨T.byW_le w y, by show (0#64 : W).toNat ≤ _; exact Nat.zero_le _⟩
  have hmu : (T.arS w x y).mu = (cntD w (T.fitW w y)).toNat := by
    show (T.byW w y).toNat - (0#64 : W).toNat = _
    rw [hb]; rfl
  rw [runN_ge T.AlS.dec 64 _ hinv (by rw [hmu]; omega), hmu, hs]
  rw [runN_count (go := T.AlS.go) (next := T.AlS.nxt) (fun i => (⟨T.byW w y, D i, powWr (wS w - 1#64), BitVec.ofNat 64 i⟩ : T.AlS)) (cntD w (T.fitW w y)).toNat (fun i hi => by
    rw [T.AlS.go_iff]
    show decide ((BitVec.ofNat 64 i).toNat < (T.byW w y).toNat) = _
    rw [ofNat_toNat (by omega), hb]) (fun i hi => by
    show (⟨T.byW w y, (D i >>> 1) ||| (D i &&& powWr (wS w - 1#64)), powWr (wS w - 1#64), BitVec.ofNat 64 i + 1#64⟩ : T.AlS) = _
    rw [al_step w (hD i), drawn_step (wdOf w) hx i, ofNat_succ])]
  exact (fit_of_lt (hD _)).symm
theorem one_alu {op : W} (hop : isOp op) (w : Bool) (x y : W) : oneR op w x y = T.aluV op w x y := by
  rcases hop with rfl | rfl | rfl | rfl | rfl | rfl | rfl | rfl | rfl | rfl | rfl | rfl | rfl
  · exact one_0 w x y
  · exact one_1 w x y
  · exact one_2 w x y
  · exact one_3 w x y
  · exact one_4 w x y
  · exact one_5 w x y
  · exact one_6 w x y
  · exact one_7 w x y
  · exact one_8 w x y
  · exact one_9 w x y
  · exact one_10 w x y
  · exact one_11 w x y
  · exact one_12 w x y
end Go.Rf

/- Scalars: the bits of an answer hold it: what is done bit by bit, sums, products. -/
namespace Go.Rf

theorem tnA_no {c : Tn → Tn} {bad : Bool} {t : Tn} (h : bad = false) : tnA c bad t = c t := by subst h; rfl
theorem all_mem (n : W) : T.Mem allTn n := by
  show n &&& ~~~18446744073709551615#64 = 0
  apply BitVec.eq_of_getLsbD_eq
  intro i hi
  have : (~~~18446744073709551615#64 : W) = 0#64 := by decide
  rw [this]; simp
theorem bad2_no {a b : Tn} {x y : W} (ha : T.Mem a x) (hb : T.Mem b y) : T.bad2 a b = false := by
  unfold T.bad2; rw [ha.may, hb.may]; rfl
theorem zero_mem : T.Mem ⟨0#64, 0#64⟩ 0#64 := by simp [T.Mem]
variable {c : Tn → Tn} {f : W → W} (hc : ∀ t x, T.Mem t x → T.Mem (c t) (f x)) {sz : W} {a b : Sc} {x y : W} (ha : T.Mem a.t x) (hb : T.Mem b.t y)
include hc ha hb
theorem bits_0 : T.Mem (bitsG c sz 0#64 a b) (f (x + y)) := by
  show T.Mem (tnA c (T.bad2 a.t b.t) (T.tAdd a.t b.t)) _
  rw [tnA_no (bad2_no ha hb)]; exact hc _ _ (T.add_sound ha hb)
theorem bits_1 : T.Mem (bitsG c sz 1#64 a b) (f (x - y)) := by
  show T.Mem (tnA c (T.bad2 a.t b.t) (T.tSub a.t b.t)) _
  rw [tnA_no (bad2_no ha hb)]; exact hc _ _ (T.sub_sound ha hb)
theorem bits_2 : T.Mem (bitsG c sz 2#64 a b) (f (x * y)) := by
  show T.Mem (tnA c (T.bad2 a.t b.t) (T.tMul a.t b.t)) _
  rw [tnA_no (bad2_no ha hb)]; exact hc _ _ (T.mul_sound ha hb)
theorem bits_4 : T.Mem (bitsG c sz 4#64 a b) (f (x ||| y)) := by
  show T.Mem (tnA c (T.bad2 a.t b.t) (T.tOr a.t b.t)) _
  rw [tnA_no (bad2_no ha hb)]; exact hc _ _ (T.or_sound ha hb)
theorem bits_5 : T.Mem (bitsG c sz 5#64 a b) (f (x &&& y)) := by
  show T.Mem (tnA c (T.bad2 a.t b.t) (T.tAnd a.t b.t)) _
  rw [tnA_no (bad2_no ha hb)]; exact hc _ _ (T.and_sound ha hb)
theorem bits_10 : T.Mem (bitsG c sz 10#64 a b) (f (x ^^^ y)) := by
  show T.Mem (tnA c (T.bad2 a.t b.t) (T.tXor a.t b.t)) _
  rw [tnA_no (bad2_no ha hb)]; exact hc _ _ (T.xor_sound ha hb)
theorem bits_8 : T.Mem (bitsG c sz 8#64 a b) (f (0#64 - x)) := by
  show T.Mem (tnA c (T.bad2 ⟨0#64, 0#64⟩ a.t) (T.tSub ⟨0#64, 0#64⟩ a.t)) _
  rw [tnA_no (bad2_no zero_mem ha)]; exact hc _ _ (T.sub_sound zero_mem ha)
theorem bits_11 : T.Mem (bitsG c sz 11#64 a b) (f y) := hc _ _ hb
omit ha hb in
theorem bits_3 (n : W) : T.Mem (bitsG c sz 3#64 a b) (f n) := hc _ _ (all_mem n)
omit ha hb in
theorem bits_9 (n : W) : T.Mem (bitsG c sz 9#64 a b) (f n) := hc _ _ (all_mem n)
end Go.Rf

/- Scalars: the bits of an answer hold it: plain shifts. -/
namespace Go.Rf

theorem byB_nat {sz : W} (hs : sz = 32#64 ∨ sz = 64#64) (b : Sc) : (byB sz b).toNat = b.s.lo.toNat % sz.toNat ∧ (byB sz b).toNat < 64 := by
  have e : byB sz b = b.s.lo % sz := by
    show ((b.s.lo.umod sz).setWidth 64 : W) = _
    rw [BitVec.umod_eq, BitVec.setWidth_eq]
  rw [e, BitVec.toNat_umod]
  refine ⟨rfl, ?_⟩
  rcases hs with rfl | rfl
  · exact Nat.lt_of_lt_of_le (Nat.mod_lt _ (by decide)) (by decide)
  · exact Nat.mod_lt _ (by decide)
theorem shn_nat {n : W} (h : n.toNat < 64) : T.shn n = n.toNat := by
  show (n.signExtend 64 : W).toNat = _
  rw [BitVec.signExtend_eq]
theorem badSh_no {t : Tn} (ht : T.may t = true) {n : W} (h : n.toNat < 64) : T.badSh t n = false := by
  unfold T.badSh
  rw [ht, ltB_nat (by omega) (by decide), ltB_nat (by decide) (by omega)]
  have e1 : (63#64 : W).toNat = 63 := by decide
  have e0 : (0#64 : W).toNat = 0 := rfl
  rw [e1, e0, decide_eq_false (by omega), decide_eq_false (by omega)]
  rfl
theorem rsh_mem {t : Tn} {x : W} (h : T.Mem t x) (k : Nat) : T.Mem ⟨t.v >>> k, t.m >>> k⟩ (x >>> k) := by
  rw [T.mem_iff_bits] at h ⊢
  intro i hi
  simp only [BitVec.getLsbD_ushiftRight]
  by_cases hk : k + i < 64
  · exact h (k + i) hk
  · rw [BitVec.getLsbD_of_ge _ _ (by omega), BitVec.getLsbD_of_ge _ _ (by omega)]; rfl
theorem low32w : T.low 32#64 = 4294967295#64 := by decide
theorem cv32 (x : W) : convB .u64 .u32 (x &&& T.low 32#64) = convB .u64 .u32 x := by
  rw [low32w]
  show ((x &&& 4294967295#64).setWidth 32 : BitVec 32) = x.setWidth 32
  apply BitVec.eq_of_getLsbD_eq
  intro i hi
  have : (4294967295#64 : W).getLsbD i = true := by
    have e : (4294967295#64 : W) = BitVec.ofNat 64 (2 ^ 32 - 1) := by decide
    rw [e, BitVec.getLsbD, BitVec.toNat_ofNat, Nat.mod_eq_of_lt (by decide), Nat.testBit_two_pow_sub_one]
    simp; exact hi
  simp only [BitVec.getLsbD_setWidth, BitVec.getLsbD_and, this, Bool.and_true]
theorem arsh_cut {t : Tn} (ht : T.may t = true) (k : W) {s : W} (hs : s = 32#64 ∨ s = 64#64) : T.tArsh (T.tCut t s) k s = T.tArsh t k s := by
  rcases hs with rfl | rfl
  · have e : T.tCut t 32#64 = ⟨t.v &&& T.low 32#64, t.m &&& T.low 32#64⟩ := by unfold T.tCut; rw [ht]; rfl
    rw [e]
    show (⟨T.sar32 (t.v &&& T.low 32#64) (T.shn k), T.sar32 (t.m &&& T.low 32#64) (T.shn k)⟩ : Tn) = ⟨T.sar32 t.v (T.shn k), T.sar32 t.m (T.shn k)⟩
    unfold T.sar32
    rw [cv32, cv32]
  · have e : T.tCut t 64#64 = t := by unfold T.tCut; rw [ht]; rfl
    rw [e]
theorem badArsh_no {t : Tn} (ht : T.may t = true) {n s : W} (hs : s = 32#64 ∨ s = 64#64) (h : n.toNat < s.toNat) : T.badArsh t n s = false := by
  unfold T.badArsh
  rw [ht]
  have h64 : s.toNat ≤ 64 := by rcases hs with rfl | rfl <;> decide
  have e1 : leB .i64 s n = false := by
    have : leB .i64 s n = !ltB .i64 n s := by
      show s.sle n = !n.slt s
      rw [BitVec.sle_eq_not_slt]
    rw [this, ltB_nat (by omega) (by omega), decide_eq_true h]
    rfl
  have e0 : (0#64 : W).toNat = 0 := rfl
  rw [ltB_nat (by omega) (by decide), e0, decide_eq_false (by omega), e1]
  rcases hs with rfl | rfl <;> rfl
variable {c : Tn → Tn} {f : W → W} (hc : ∀ t x, T.Mem t x → T.Mem (c t) (f x)) {sz : W} (hs : sz = 32#64 ∨ sz = 64#64) {a b : Sc} {x y : W} (ha : T.Mem a.t x) (hb : MemC b y)
include hc hs ha hb
theorem bits_6 : T.Mem (bitsG c sz 6#64 a b) (f (x <<< (y.toNat % sz.toNat))) := by
  show T.Mem (T.Tn.mux (!single b) (c allTn) (tnA c (T.badSh a.t (byB sz b)) (T.tLsh a.t (byB sz b)))) _
  obtain ⟨h1, h2⟩ := byB_nat hs b
  cases h : single b with
  | false => exact hc _ _ (all_mem _)
  | true =>
    rw [single_mem h hb, ← h1]
    show T.Mem (tnA c (T.badSh a.t (byB sz b)) (T.tLsh a.t (byB sz b))) _
    rw [tnA_no (badSh_no ha.may h2)]
    refine hc _ _ ?_
    unfold T.tLsh
    rw [shn_nat h2]
    exact T.lsh_mem ha _
theorem bits_7 : T.Mem (bitsG c sz 7#64 a b) (f (x >>> (y.toNat % sz.toNat))) := by
  show T.Mem (T.Tn.mux (!single b) (c allTn) (tnA c (T.badSh a.t (byB sz b)) (T.tRsh a.t (byB sz b)))) _
  obtain ⟨h1, h2⟩ := byB_nat hs b
  cases h : single b with
  | false => exact hc _ _ (all_mem _)
  | true =>
    rw [single_mem h hb, ← h1]
    show T.Mem (tnA c (T.badSh a.t (byB sz b)) (T.tRsh a.t (byB sz b))) _
    rw [tnA_no (badSh_no ha.may h2)]
    refine hc _ _ ?_
    unfold T.tRsh
    rw [shn_nat h2]
    exact rsh_mem ha _
theorem bits_12 : T.Mem (bitsG c sz 12#64 a b) (f (T.aluV 12#64 (sz == 64#64) (T.fitW (sz == 64#64) x) (y % sz))) := by
  show T.Mem (T.Tn.mux (!single b) (c allTn) (tnA c (T.badArsh a.t (byB sz b) sz) (T.tArsh a.t (byB sz b) sz))) _
  obtain ⟨h1, h2⟩ := byB_nat hs b
  cases h : single b with
  | false => exact hc _ _ (all_mem _)
  | true =>
    have e : byB sz b = y % sz := by
      rw [single_mem h hb]
      apply BitVec.eq_of_toNat_eq
      rw [h1, BitVec.toNat_umod]
    have hk : (byB sz b).toNat < sz.toNat := by
      rw [h1]
      exact Nat.mod_lt _ (by rcases hs with rfl | rfl <;> decide)
    show T.Mem (tnA c (T.badArsh a.t (byB sz b) sz) (T.tArsh a.t (byB sz b) sz)) _
    rw [tnA_no (badArsh_no ha.may hs hk), ← e]
    refine hc _ _ ?_
    rw [← arsh_cut ha.may _ hs]
    exact T.arsh_mem ha hs hk
end Go.Rf

/- Scalars: the bits of an answer hold it. -/
namespace Go.Rf
def cOf (w : Bool) (t : Tn) : Tn := bif w then t else cutT32 t
theorem fit_fit (w : Bool) (x : W) : T.fitW w (T.fitW w x) = T.fitW w x := fit_of_lt (fit_lt w x)
theorem cOf_mem (w : Bool) (t : Tn) (x : W) (h : T.Mem t x) : T.Mem (cOf w t) (T.fitW w x) := by
  cases w with
  | true => exact h
  | false => exact T.cut_mem (s := 32#64) h (.inl rfl)
theorem wS_or (w : Bool) : wS w = 32#64 ∨ wS w = 64#64 := by cases w <;> simp [wS]
theorem wS_is (w : Bool) : (wS w == 64#64) = w := by cases w <;> decide
theorem wS_nat (w : Bool) : (wS w).toNat = wN w := by cases w <;> decide
theorem bits_all {op : W} (hop : isOp op) (w : Bool) {a b : Sc} {x y : W} (ha : T.Mem a.t (T.fitW w x)) (hb : MemC b (T.fitW w y)) : T.Mem (bitsG (cOf w) (wS w) op a b) (T.aluV op w x y) := by
  have hc := cOf_mem w
  have hs := wS_or w
  rcases hop with rfl | rfl | rfl | rfl | rfl | rfl | rfl | rfl | rfl | rfl | rfl | rfl | rfl
  · exact bits_0 hc ha hb.1
  · exact bits_1 hc ha hb.1
  · exact bits_2 hc ha hb.1
  · show T.Mem _ (bif T.pos w y then T.fitW w (quoB .u64 (T.fitW w x) (T.fitW w y)) else T.fitW w 0#64)
    cases T.pos w y with
    | true => exact bits_3 hc _
    | false => exact bits_3 hc _
  · exact bits_4 hc ha hb.1
  · exact bits_5 hc ha hb.1
  · have := bits_6 hc hs ha hb
    rw [wS_nat, ← byW_nat] at this
    exact this
  · have := bits_7 hc hs ha hb
    rw [wS_nat, ← byW_nat] at this
    exact this
  · exact bits_8 hc ha hb.1
  · show T.Mem _ (bif T.pos w y then T.fitW w (remB .u64 (T.fitW w x) (T.fitW w y)) else T.fitW w (T.fitW w x))
    cases T.pos w y with
    | true => exact bits_9 hc _
    | false => exact bits_9 hc _
  · exact bits_10 hc ha hb.1
  · exact bits_11 hc ha hb.1
  · have := bits_12 hc hs ha hb
    rw [wS_is, fit_fit] at this
    have e : T.byW w (T.fitW w y % wS w) = T.byW w y := by
      apply BitVec.eq_of_toNat_eq
      rw [byW_nat, byW_nat, fit_nat, BitVec.toNat_umod, wS_nat]
      have h1 : (T.fitW w y).toNat % wN w < 2 ^ wN w := Nat.lt_of_lt_of_le (Nat.mod_lt _ (wN_pos w)) (Nat.le_of_lt Nat.lt_two_pow_self)
      rw [Nat.mod_eq_of_lt h1, Nat.mod_mod]
    have e2 : T.fitW w (T.aluV 12#64 w (T.fitW w x) (T.fitW w y % wS w)) = T.aluV 12#64 w x y := by
      show T.fitW w (T.fitW w (runN T.AlS.go T.AlS.nxt 64 (T.arS w (T.fitW w x) (T.fitW w y % wS w))).r) = T.fitW w (runN T.AlS.go T.AlS.nxt 64 (T.arS w x y)).r
      rw [fit_fit]
      unfold T.arS
      rw [e, fit_fit]
    rw [e2] at this
    exact this
end Go.Rf

/- Scalars: halves. -/
namespace Go.Rf
theorem settle_mem {t : Tn} {s : Sp} {x : W} (ht : T.Mem t x) (hs : memS s x) : setOk t s = true ∧ MemC (setR t s) x ∧ mayC (setR t s) = true := by
  cases h : setOk t s with
  | false => exact absurd ⟨ht, hs⟩ ((settle_no h).2 x)
  | true => exact ⟨rfl, ((settled h).2 x).2 ⟨ht, hs⟩, (settled h).1⟩
theorem below32 : (belowC 32#64).s = ⟨0#64, 4294967295#64⟩ := by kernel_rfl
theorem half_mem {a : Sc} (ha : mayC a = true) {x : W} (hx : MemC a x) : MemC (halfC a) (T.fitW false x) ∧ mayC (halfC a) = true := by
  unfold halfC
  have e1 : (4294967296#64 : W).toNat = 4294967296 := by decide
  cases h : ltB .u64 a.s.hi 4294967296#64 with
  | true =>
    rw [ltU, decide_eq_true_eq, e1] at h
    have h2 := hx.2.2
    have : T.fitW false x = x := fit_of_lt (w := false) (by show x.toNat < 4294967296; omega)
    rw [this]
    exact ⟨hx, ha⟩
  | false =>
    have hm : memS (belowC 32#64).s (T.fitW false x) := by
      rw [below32]
      refine ⟨by show (0#64 : W).toNat ≤ _; exact Nat.zero_le _, ?_⟩
      have := fit_lt false x
      show (T.fitW false x).toNat ≤ (4294967295#64 : W).toNat
      have e2 : (4294967295#64 : W).toNat = 4294967295 := by decide
      rw [e2]
      have e3 : 2 ^ wN false = 4294967296 := by decide
      omega
    obtain ⟨_, h1, h2⟩ := settle_mem (cOf_mem false a.t x hx.1) hm
    exact ⟨h1, h2⟩
end Go.Rf

/- Scalars: the answer holds what is done. -/
namespace Go.Rf
theorem isOp_bad {op : W} (h : badOp op = false) : isOp op := by
  unfold badOp at h
  simp only [Bool.or_eq_false_iff] at h
  obtain ⟨h1, h2⟩ := h
  have a1 : ¬ op.toInt < (0#64 : W).toInt := by
    intro hh
    have : ltB .i64 op 0#64 = true := by show op.slt 0#64 = true; rw [BitVec.slt]; exact decide_eq_true hh
    rw [h1] at this; cases this
  have a2 : ¬ (12#64 : W).toInt < op.toInt := by
    intro hh
    have : ltB .i64 12#64 op = true := by show (12#64 : W).slt op = true; rw [BitVec.slt]; exact decide_eq_true hh
    rw [h2] at this; cases this
  have e0 : (0#64 : W).toInt = 0 := by decide
  have e12 : (12#64 : W).toInt = 12 := by decide
  exact isOp_of (by omega) (by omega)
theorem span_mem {op : W} (hb : badOp op = false) (w : Bool) {a b : Sc} (ha : mayC a = true) (hbm : mayC b = true) {x y : W} (hx : memS a.s x) (hy : memS b.s y) : memS (spanOf op w a b) (oneR op w x y) := by
  have hm : aluBad op a.s b.s = false := by
    unfold aluBad
    rw [(mayC_parts ha).2, (mayC_parts hbm).2]
    unfold badOp at hb
    rw [hb]; rfl
  unfold spanOf
  rw [hm]
  exact (alu_ok (isOp_bad hb) w (mayC_parts ha).2 (mayC_parts hbm).2 hx hy).1
theorem scF (x y : Sc) : Sc.mux false x y = y := rfl
theorem scT (x y : Sc) : Sc.mux true x y = x := rfl
theorem bP64 (op : W) (a b : Sc) : bitsP op 64#64 a b = bitsG (cOf true) (wS true) op a b := by unfold bitsP; rfl
theorem bP32 (op : W) (a b : Sc) : bitsP op 32#64 a b = bitsG (cOf false) (wS false) op a b := by unfold bitsP; rfl
theorem alu_mem {op : W} (hb : badOp op = false) (w : Bool) {a b : Sc} (ha : mayC a = true) (hbm : mayC b = true) {x y : W} (hx : MemC a x) (hy : MemC b y) : MemC (aluSc op w a b) (T.aluV op w x y) ∧ mayC (aluSc op w a b) = true := by
  have hop := isOp_bad hb
  unfold aluSc
  rw [ha, hbm, hb]
  cases w with
  | true =>
    have h1 : T.Mem (bitsP op 64#64 a b) (T.aluV op true x y) := by rw [bP64]; exact bits_all hop true (x := x) (y := y) hx.1 hy
    have h2 := span_mem hb true ha hbm hx.2 hy.2
    rw [one_alu hop] at h2
    obtain ⟨q1, q2, q3⟩ := settle_mem h1 h2
    rw [show (!true || !true) = false from rfl, scF, scF, show (!true) = false from rfl, scF]
    unfold aluT
    rw [q1, scT]
    exact ⟨q2, q3⟩
  | false =>
    obtain ⟨ma, ca⟩ := half_mem ha hx
    obtain ⟨mb, cb⟩ := half_mem hbm hy
    have h1 : T.Mem (bitsP op 32#64 (halfC a) (halfC b)) (T.aluV op false x y) := by rw [bP32]; exact bits_all hop false (x := x) (y := y) ma.1 mb
    have h2 := span_mem hb false ca cb ma.2 mb.2
    have e0 : oneR op false (T.fitW false x) (T.fitW false y) = oneR op false x y := by rw [oneR_eq, oneR_eq, fit_fit, fit_fit]
    rw [e0, one_alu hop] at h2
    obtain ⟨q1, q2, q3⟩ := settle_mem h1 h2
    rw [show (!true || !true) = false from rfl, scF, scF, show (!false) = true from rfl, scT]
    unfold aluT
    rw [q1, scT]
    exact ⟨q2, q3⟩
end Go.Rf

/- Scalars: of single ones an operation's answer is single. -/
namespace Go.Rf

theorem and_n0 (x : W) : x &&& ~~~0#64 = x := by
  have : (~~~0#64 : W) = BitVec.allOnes 64 := by decide
  rw [this, BitVec.and_allOnes]
theorem mem_m0 {t : Tn} {n : W} (hm : T.Mem t n) (h : t.m = 0#64) : t = ⟨n, 0#64⟩ := by
  have h1 : n &&& ~~~t.m = t.v := hm
  rw [h] at h1
  have h2 : n = t.v := by rw [← h1, and_n0]
  exact T.Tn.ext' h2.symm h
/-- A scalar of one number. -/
theorem single_of {c : Sc} (hc : mayC c = true) {n : W} (hm : MemC c n) (h : c.s.lo = c.s.hi ∨ c.t.m = 0#64) : c = ofC n := by
  obtain ⟨ht, hs, n1, n2, he, hb⟩ := still_mayC hc
  have hi : (⟨c.t, c.s, nilC, false⟩ : StS).inv := ⟨ht, hs⟩
  have hn : (⟨c.t, c.s, nilC, false⟩ : StS).n1 = false := n1
  have e1 : meetS c.s (hull c.t) = c.s := by
    have := StS.ends_eq n1
    rw [he] at this; exact this.symm
  have e2 : T.tMeet c.t (T.rgT c.s.lo c.s.hi) = c.t := by
    have h1 := StS.bits_eq n2
    have h2 := StS.rng_eq hi n1
    rw [he] at h2
    rw [h2, hb] at h1
    exact h1.symm
  have hm2 : c.t.m = 0#64 ∧ c.s.lo = n ∧ c.s.hi = n := by
    rcases h with h | h
    · have a1 := hm.2.1
      have a2 := hm.2.2
      have l : c.s.lo = n := BitVec.eq_of_toNat_eq (by rw [← h] at a2; omega)
      have hh : c.s.hi = n := by rw [← h]; exact l
      refine ⟨?_, l, hh⟩
      have hz : (T.rgT n n).m = 0#64 := by
        apply BitVec.eq_of_getLsbD_eq
        intro i hi'
        rw [(T.rgT_bits n n i hi').1]
        have : T.unl n n i = false := T.unl_false.2 rfl
        rw [this]; simp
      have := congrArg T.Tn.m e2
      rw [l, hh, meet_m, hz] at this
      rw [← this]; simp
    · refine ⟨h, ?_⟩
      have hv : c.t.v = n := by rw [mem_m0 hm.1 h]
      have e3 : hull c.t = ⟨n, n⟩ := by
        unfold hull
        rw [h, hv]; simp
      rw [e3] at e1
      have l : (meetS c.s ⟨n, n⟩).lo.toNat = max c.s.lo.toNat n.toNat := maxU_nat _ _
      have hh : (meetS c.s ⟨n, n⟩).hi.toNat = min c.s.hi.toNat n.toNat := minU_nat _ _
      rw [e1] at l hh
      have a1 := hm.2.1
      have a2 := hm.2.2
      exact ⟨BitVec.eq_of_toNat_eq (by omega), BitVec.eq_of_toNat_eq (by omega)⟩
  obtain ⟨q1, q2, q3⟩ := hm2
  have e4 := mem_m0 hm.1 q1
  show (⟨c.t, ⟨c.s.lo, c.s.hi⟩⟩ : Sc) = ⟨⟨n, 0⟩, ⟨n, n⟩⟩
  rw [e4, q2, q3]; rfl
theorem setR_one {t : Tn} {s : Sp} {n : W} (ht : T.Mem t n) (hs : memS s n) (h : s.lo = s.hi ∨ t.m = 0#64) : setOk t s = true ∧ setR t s = ofC n := by
  obtain ⟨k1, k2, k3⟩ := settle_mem ht hs
  refine ⟨k1, single_of k3 k2 ?_⟩
  obtain ⟨l1, l2⟩ := settle_in k1
  rcases h with h | h
  · left
    have i := (inS_iff.1 l2)
    have x1 := i.2.1
    have x2 := i.2.2
    have m := mayS_iff.1 i.1
    rw [h] at x1
    exact BitVec.eq_of_toNat_eq (by omega)
  · right
    have : T.isIn (setR t s).t t = true := l1
    unfold T.isIn at this
    simp only [Bool.and_eq_true, beq_iff_eq] at this
    have h2 := this.2
    rw [h] at h2
    rw [and_n0] at h2
    exact h2
theorem one_mem (x : W) : MemC (ofC x) x := by
  refine ⟨?_, Nat.le_refl _, Nat.le_refl _⟩
  exact and_n0 x
theorem one_may (x : W) : mayC (ofC x) = true := by
  have h := setR_one (t := ⟨x, 0⟩) (s := ofS x) (one_mem x).1 (one_mem x).2 (.inl rfl)
  exact mayC_iff.2 ⟨h.1, h.2⟩
theorem cOf_m0 {w : Bool} {t : Tn} (h : t.m = 0#64) (hm : T.may t = true) : (cOf w t).m = 0#64 := by
  cases w with
  | true => exact h
  | false =>
    have e : T.tCut t 32#64 = ⟨t.v &&& T.low 32#64, t.m &&& T.low 32#64⟩ := by unfold T.tCut; rw [hm]; rfl
    show (T.tCut t 32#64).m = _
    rw [e]
    show t.m &&& _ = _
    rw [h]; simp
theorem half_one (x : W) : halfC (ofC x) = ofC (T.fitW false x) := by
  obtain ⟨h1, h2⟩ := half_mem (one_may x) (one_mem x)
  refine single_of h2 h1 ?_
  unfold halfC
  cases ltB .u64 (ofC x).s.hi 4294967296#64 with
  | true => exact .inr rfl
  | false =>
    have hm : memS (belowC 32#64).s (T.fitW false x) := by
      rw [below32]
      refine ⟨by show (0#64 : W).toNat ≤ _; exact Nat.zero_le _, ?_⟩
      have := fit_lt false x
      show (T.fitW false x).toNat ≤ (4294967295#64 : W).toNat
      have e2 : (4294967295#64 : W).toNat = 4294967295 := by decide
      rw [e2]
      have e3 : 2 ^ wN false = 4294967296 := by decide
      omega
    have := setR_one (cOf_mem false (ofC x).t x (one_mem x).1) hm (.inr (cOf_m0 (w := false) rfl (one_mem x).1.may))
    have e : setR (cutT32 (ofC x).t) (belowC 32#64).s = ofC (T.fitW false x) := this.2
    rw [scF, e]
    exact .inl rfl
theorem add_m0 {a b : Tn} (ha : a.m = 0#64) (hb : b.m = 0#64) : (T.addN a b).m = 0#64 := by
  unfold T.addN
  cases T.bad2 a b with
  | true => rfl
  | false =>
    show (a.v + b.v + a.m + b.m) ^^^ (a.v + b.v) ||| a.m ||| b.m = 0#64
    rw [ha, hb]; simp
theorem fin_m0 : ∀ (k : Nat) (s : T.MulS), s.a.m = 0#64 → s.b.m = 0#64 → s.s.m = 0#64 → (T.MulS.fin k s).s.m = 0#64 := by
  intro k
  induction k with
  | zero => intro s _ _ h; exact h
  | succ k ih =>
    intro s h1 h2 h3
    rw [T.MulS.fin]
    cases s.go with
    | false => exact h3
    | true =>
      show (T.MulS.fin k s.next).s.m = _
      have ha : s.any = false := by unfold T.MulS.any; rw [h1]; decide
      have u1 : ∀ t, (s.up t).a.m = 0#64 := fun t => by show shrB .u64 s.a.m 1 = _; rw [h1]; rfl
      have u2 : ∀ t, (s.up t).b.m = 0#64 := fun t => by show s.b.m <<< 1 = _; rw [h2]; rfl
      rw [T.MulS.next_eq, ha]
      simp only [Bool.false_eq_true, if_false]
      split
      · exact ih _ (u1 _) (u2 _) h3
      · exact ih _ (u1 _) (u2 _) (add_m0 h3 h2)
theorem mul_m0 (x y : W) : (T.tMul ⟨x, 0#64⟩ ⟨y, 0#64⟩).m = 0#64 := fin_m0 64 _ rfl rfl rfl
/-- Products and shifts of single numbers are single by their bits. -/
theorem bits_one {op : W} (h : op = 2#64 ∨ op = 6#64) (w : Bool) (x y : W) : (bitsG (cOf w) (wS w) op (ofC x) (ofC y)).m = 0#64 := by
  rcases h with rfl | rfl
  · show (tnA (cOf w) (T.bad2 (ofC x).t (ofC y).t) (T.tMul (ofC x).t (ofC y).t)).m = _
    rw [tnA_no (bad2_no (one_mem x).1 (one_mem y).1)]
    exact cOf_m0 (mul_m0 x y) (T.mul_sound (one_mem x).1 (one_mem y).1).may
  · show (T.Tn.mux (!single (ofC y)) (cOf w allTn) (tnA (cOf w) (T.badSh (ofC x).t (byB (wS w) (ofC y))) (T.tLsh (ofC x).t (byB (wS w) (ofC y))))).m = _
    have hs : single (ofC y) = true := by simp [single, ofC, ofS]
    rw [hs]
    obtain ⟨h1, h2⟩ := byB_nat (wS_or w) (ofC y)
    show (tnA (cOf w) (T.badSh (ofC x).t (byB (wS w) (ofC y))) (T.tLsh (ofC x).t (byB (wS w) (ofC y)))).m = _
    rw [tnA_no (badSh_no (one_mem x).1.may h2)]
    have hm : T.Mem (T.tLsh (ofC x).t (byB (wS w) (ofC y))) (x <<< (byB (wS w) (ofC y)).toNat) := by
      unfold T.tLsh
      rw [shn_nat h2]
      exact T.lsh_mem (one_mem x).1 _
    refine cOf_m0 ?_ hm.may
    show (0#64 : W) <<< _ = 0#64
    simp
theorem alu_single {op : W} (hb : badOp op = false) (w : Bool) (x y : W) : aluSc op w (ofC x) (ofC y) = ofC (T.aluV op w x y) := by
  have hop := isOp_bad hb
  have key : ∀ (x' y' : W), T.fitW w x' = T.fitW w x → T.fitW w y' = T.fitW w y → T.Mem (ofC x').t (T.fitW w x) → T.Mem (ofC y').t (T.fitW w y) → memS (ofC x').s (T.fitW w x) → memS (ofC y').s (T.fitW w y) → ∀ all, aluT (wS w) op w (ofC x') (ofC y') all = ofC (T.aluV op w x y) := by
    intro x' y' ex ey hx hy hxs hys all
    have h1 : T.Mem (bitsP op (wS w) (ofC x') (ofC y')) (T.aluV op w x y) := by
      have e : bitsP op (wS w) (ofC x') (ofC y') = bitsG (cOf w) (wS w) op (ofC x') (ofC y') := by cases w; exact bP32 _ _ _; exact bP64 _ _ _
      rw [e]; exact bits_all hop w (x := x) (y := y) hx ⟨hy, hys⟩
    have e0 : oneR op w x' y' = oneR op w x y := by rw [oneR_eq, oneR_eq, ex, ey]
    have h2 := span_mem hb w (one_may x') (one_may y') hxs hys
    have e1 : oneR op w (T.fitW w x) (T.fitW w y) = oneR op w x y := by rw [oneR_eq, oneR_eq, fit_fit, fit_fit]
    rw [e1, one_alu hop] at h2
    have hm : aluBad op (ofC x').s (ofC y').s = false := by
      unfold aluBad
      rw [(mayC_parts (one_may x')).2, (mayC_parts (one_may y')).2]
      unfold badOp at hb
      rw [hb]; rfl
    have h3 : (spanOf op w (ofC x') (ofC y')).lo = (spanOf op w (ofC x') (ofC y')).hi ∨ (bitsP op (wS w) (ofC x') (ofC y')).m = 0#64 := by
      rcases alu_one hop w x' y' with h | ⟨h, _⟩
      · left
        have e : spanOf op w (ofC x') (ofC y') = ofS (oneR op w x' y') := by
          unfold spanOf
          rw [hm]
          exact h
        rw [e]; rfl
      · right
        have e : bitsP op (wS w) (ofC x') (ofC y') = bitsG (cOf w) (wS w) op (ofC x') (ofC y') := by cases w; exact bP32 _ _ _; exact bP64 _ _ _
        rw [e]; exact bits_one h w x' y'
    obtain ⟨q1, q2⟩ := setR_one h1 h2 h3
    unfold aluT
    rw [q1, scT]
    exact q2
  unfold aluSc
  rw [one_may, one_may, hb]
  cases w with
  | true =>
    rw [show (!true || !true) = false from rfl, scF, scF, show (!true) = false from rfl, scF]
    exact key x y rfl rfl (one_mem x).1 (one_mem y).1 (one_mem x).2 (one_mem y).2 _
  | false =>
    rw [show (!true || !true) = false from rfl, scF, scF, show (!false) = true from rfl, scT, half_one, half_one]
    exact key _ _ (fit_fit _ _) (fit_fit _ _) (one_mem _).1 (one_mem _).1 (one_mem _).2 (one_mem _).2 _

theorem soundB_true (s : SmV) (x y : W) : soundB s x y = true := by
  have hE : T.aluE s.op = bif badOp s.op then 20#64 else 0#64 := rfl
  have hA : soA s = false := by
    unfold soA aluScE aluSc
    rw [hE]
    cases mayC s.a with
    | false => rw [show (!false || !mayC s.b) = true from rfl, scT, eqC_iff.2 rfl]; rfl
    | true =>
      cases mayC s.b with
      | false => rw [show (!true || !false) = true from rfl, scT, eqC_iff.2 rfl]; rfl
      | true =>
        cases badOp s.op with
        | true => rw [show (!true || !true) = false from rfl, scF, scT, eqC_iff.2 rfl]; rfl
        | false => rfl
  unfold soundB
  rw [hA]
  cases hB : soB s x y with
  | true => rfl
  | false =>
    unfold soB at hB
    simp only [Bool.or_eq_false_iff, Bool.not_eq_false'] at hB
    obtain ⟨⟨h1, h2⟩, h3⟩ := hB
    have h1' : aluScE s.op s.a s.b = 0#64 := by simpa using h1
    have hb : badOp s.op = false := by
      unfold aluScE at h1'
      rw [(hasC_iff.1 h2).1, (hasC_iff.1 h3).1] at h1'
      cases hb : badOp s.op with
      | false => rfl
      | true => rw [hb] at h1'; exact absurd h1' (by decide)
    obtain ⟨m1, m2⟩ := alu_mem hb s.w (hasC_iff.1 h2).1 (hasC_iff.1 h3).1 (hasC_iff.1 h2).2 (hasC_iff.1 h3).2
    show soC s x y = true
    unfold soC
    have e0 : aluScE s.op (ofC x) (ofC y) = 0#64 := by
      unfold aluScE
      rw [one_may, one_may, hb]; rfl
    rw [m2, hasC_iff.2 ⟨m2, m1⟩, e0, eqC_iff.2 (alu_single hb s.w x y)]
    rfl
end Go.Rf
