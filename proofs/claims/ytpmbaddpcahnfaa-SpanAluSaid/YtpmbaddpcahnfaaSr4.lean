/- Spans: whatever an operation makes is held. -/
import Derived.Test.YtpmbaddpcahnfaaSr3
set_option linter.unusedVariables false
set_option linter.unusedSimpArgs false
namespace Go.Rf

variable {n t : W} {a b : Sp} {X Y : W}
theorem Wd.lt (h : Wd n t) {x : W} (hx : x.toNat ≤ t.toNat) : x.toNat < 2 ^ n.toNat := by
  have := h.tn
  have := Nat.two_pow_pos n.toNat
  omega
theorem Wd.or (h : Wd n t) {x y : W} (hx : x.toNat ≤ t.toNat) (hy : y.toNat ≤ t.toNat) : (x ||| y).toNat ≤ t.toNat := by
  have := Nat.or_lt_two_pow (h.lt hx) (h.lt hy)
  have := h.tn
  rw [BitVec.toNat_or]; omega
theorem Wd.xor (h : Wd n t) {x y : W} (hx : x.toNat ≤ t.toNat) (hy : y.toNat ≤ t.toNat) : (x ^^^ y).toNat ≤ t.toNat := by
  have := Nat.xor_lt_two_pow (h.lt hx) (h.lt hy)
  have := h.tn
  rw [BitVec.toNat_xor]; omega
theorem both_ok {f : W → W → W} {l m : W} (hl : Least a b f l) (hm : Most a b f m) (ht : ∀ x y, memS a x → memS b y → (f x y).toNat ≤ t.toNat) (hX : memS a X) (hY : memS b Y) : Holds ⟨l, m⟩ t (f X Y) := by
  obtain ⟨x, y, hx, hy, e⟩ := hm.2
  exact ⟨⟨hl.1 X Y hX hY, hm.1 X Y hX hY⟩, by show m.toNat ≤ _; rw [e]; exact ht x y hx hy⟩

/-- The operations that there are. -/
def isOp (op : W) : Prop := op = 0#64 ∨ op = 1#64 ∨ op = 2#64 ∨ op = 3#64 ∨ op = 4#64 ∨ op = 5#64 ∨ op = 6#64 ∨ op = 7#64 ∨ op = 8#64 ∨ op = 9#64 ∨ op = 10#64 ∨ op = 11#64 ∨ op = 12#64
theorem isOp_of {op : W} (h0 : 0 ≤ op.toInt) (h1 : op.toInt ≤ 12) : isOp op := by
  have hn := nat_of_int h0
  have : op.toNat ≤ 12 := by omega
  have e := ofNat_self op
  unfold isOp
  have c : op.toNat = 0 ∨ op.toNat = 1 ∨ op.toNat = 2 ∨ op.toNat = 3 ∨ op.toNat = 4 ∨ op.toNat = 5 ∨ op.toNat = 6 ∨ op.toNat = 7 ∨ op.toNat = 8 ∨ op.toNat = 9 ∨ op.toNat = 10 ∨ op.toNat = 11 ∨ op.toNat = 12 := by omega
  rcases c with c | c | c | c | c | c | c | c | c | c | c | c | c <;> rw [c] at e <;> simp [← e]

theorem core_ok (h : Wd n t) {op : W} (hop : isOp op) (ma : mayS a = true) (mb : mayS b = true) (ha : a.hi.toNat ≤ t.toNat) (hb : b.hi.toNat ≤ t.toNat) (hX : memS a X) (hY : memS b Y) :
    Holds (core op a b n t) t (one' op X Y n t) := by
  have lx : ∀ x, memS a x → x.toNat ≤ t.toNat := fun x hx => Nat.le_trans hx.2 ha
  have ly : ∀ x, memS b x → x.toNat ≤ t.toNat := fun x hx => Nat.le_trans hx.2 hb
  have hk := cnt_nat Y n h.nn
  rcases hop with rfl | rfl | rfl | rfl | rfl | rfl | rfl | rfl | rfl | rfl | rfl | rfl | rfl
  · exact sum_ok h ha hb hX hY
  · exact less_ok h ha hb hX hY
  · exact mul_ok h hX hY
  · exact parts_ok ha hX hY
  · show Holds ⟨leastOr a b, mostOr a b⟩ t (X ||| Y)
    exact both_ok (f := (· ||| ·)) (leastOr_least ma mb) (mostOr_most ma mb) (fun x y hx hy => h.or (lx x hx) (ly y hy)) hX hY
  · show Holds ⟨leastAnd a b, mostAnd a b⟩ t (X &&& Y)
    exact both_ok (f := (· &&& ·)) (leastAnd_least ma mb) (mostAnd_most ma mb) (fun x y hx hy => by
      have : (x &&& y).toNat ≤ x.toNat := by rw [BitVec.toNat_and]; exact Nat.and_le_left
      exact Nat.le_trans this (lx x hx)) hX hY
  · exact shift_ok h 6#64 (.inl rfl) mb ha hX hY hk
  · exact shift_ok h 7#64 (.inr (.inl rfl)) mb ha hX hY hk
  · exact less_ok (a := ofS 0#64) (b := a) h (Nat.zero_le _) ha ⟨Nat.le_refl _, Nat.le_refl _⟩ hX
  · exact rest_ok ha hX hY
  · show Holds ⟨leastXor a b, mostXor a b⟩ t (X ^^^ Y)
    exact both_ok (f := (· ^^^ ·)) (leastXor_least ma mb) (mostXor_most ma mb) (fun x y hx hy => h.xor (lx x hx) (ly y hy)) hX hY
  · exact ⟨hY, hb⟩
  · exact shift_ok h 12#64 (.inr (.inr rfl)) mb ha hX hY hk

theorem top32 : topW 32#64 = t32 := by rw [topW_eq (by decide)]; decide
theorem top64 : topW 64#64 = t64 := by rw [topW_eq (by decide)]; decide
theorem and64 (x : W) : x &&& t64 = x := by
  apply BitVec.eq_of_toNat_eq
  rw [wd64.and]
  exact Nat.mod_eq_of_lt x.isLt
theorem le64' (x : W) : x.toNat ≤ t64.toNat := by
  have := x.isLt
  have e : t64.toNat = 18446744073709551615 := by decide
  omega

/-- A span that is cut to 32 bits. -/
theorem cut32 {s : Sp} (hs : mayS s = true) {x : W} (hx : memS s x) : memS (cutS s 32#64) (x &&& t32) ∧ (cutS s 32#64).hi.toNat ≤ t32.toNat ∧ mayS (cutS s 32#64) = true := by
  have hle := mayS_iff.1 hs
  have e : cutN 32#64 = 32#64 := by decide
  have et : topK 32#64 = t32 := by rw [topK_eq (by decide)]; decide
  unfold cutS
  rw [hs, e, et]
  show memS (Sp.mux (shI s.lo 32#64 != shI s.hi 32#64) ⟨0, t32⟩ ⟨s.lo &&& t32, s.hi &&& t32⟩) (x &&& t32) ∧ (Sp.mux (shI s.lo 32#64 != shI s.hi 32#64) ⟨0, t32⟩ ⟨s.lo &&& t32, s.hi &&& t32⟩).hi.toNat ≤ t32.toNat ∧
    mayS (Sp.mux (shI s.lo 32#64 != shI s.hi 32#64) ⟨0, t32⟩ ⟨s.lo &&& t32, s.hi &&& t32⟩) = true
  have l1 := wd32.and x
  have l2 := wd32.and s.lo
  have l3 := wd32.and s.hi
  have z : (32#64 : W).toNat = 32 := rfl
  have tn : t32.toNat = 4294967295 := rfl
  rw [z] at l1 l2 l3
  obtain ⟨x1, x2⟩ := hx
  cases hc : (shI s.lo 32#64 != shI s.hi 32#64) with
  | true =>
    refine ⟨⟨Nat.zero_le _, ?_⟩, Nat.le_refl _, ?_⟩
    · show _ ≤ t32.toNat; omega
    · rw [mayS_iff]; exact Nat.zero_le _
  | false =>
    rw [bne_eq_false_iff_eq, ← BitVec.toNat_inj, shI_nat _ (by decide), shI_nat _ (by decide), z] at hc
    refine ⟨⟨?_, ?_⟩, ?_, ?_⟩
    · show (s.lo &&& t32).toNat ≤ _; omega
    · show _ ≤ (s.hi &&& t32).toNat; omega
    · show (s.hi &&& t32).toNat ≤ _; omega
    · rw [mayS_iff]
      show (s.lo &&& t32).toNat ≤ (s.hi &&& t32).toNat; omega

theorem alu_ok {op : W} (hop : isOp op) (w : Bool) (ma : mayS a = true) (mb : mayS b = true) (hX : memS a X) (hY : memS b Y) :
    Holds (aluS op w a b) (bif w then t64 else t32) (oneR op w X Y) := by
  unfold aluS oneR
  rw [top32, top64]
  cases w with
  | true =>
    show Holds (core op a b 64#64 t64) t64 (one' op (X &&& t64) (Y &&& t64) 64#64 t64)
    rw [and64, and64]
    exact core_ok wd64 hop ma mb (le64' _) (le64' _) hX hY
  | false =>
    show Holds (core op (cutS a 32#64) (cutS b 32#64) 32#64 t32) t32 (one' op (X &&& t32) (Y &&& t32) 32#64 t32)
    obtain ⟨a1, a2, a3⟩ := cut32 ma hX
    obtain ⟨b1, b2, b3⟩ := cut32 mb hY
    exact core_ok wd32 hop a3 b3 a2 b2 a1 b1

/-! The statement. -/
structure Gv where
  op : W
  w : Bool
  a : Sp
  b : Sp
  x : W
  y : W
def eGv (g : Gv) : AV := .agg (.cons (eI g.op) (.cons (eB g.w) (.cons (eSp g.a) (.cons (eSp g.b) (.cons (eW g.x) (.cons (eW g.y) .nil))))))

def pickW (s : Sp) (x : W) : W := bif s.hi - s.lo == t64 then x else s.lo + remW x (s.hi - s.lo + 1#64)
theorem sub_nat {s : Sp} (h : mayS s = true) : (s.hi - s.lo).toNat = s.hi.toNat - s.lo.toNat := by
  have := mayS_iff.1 h
  have := s.hi.isLt
  rw [BitVec.toNat_sub]; omega
theorem pick_mem {s : Sp} (h : mayS s = true) (x : W) : memS s (pickW s x) := by
  have hle := mayS_iff.1 h
  have hs := sub_nat h
  have l1 := s.hi.isLt
  have tn : t64.toNat = 18446744073709551615 := rfl
  unfold pickW
  cases hc : (s.hi - s.lo == t64) with
  | true =>
    rw [beq_iff_eq, ← BitVec.toNat_inj, hs, tn] at hc
    have := x.isLt
    show memS s x
    exact ⟨by omega, by omega⟩
  | false =>
    rw [beq_eq_false_iff_ne, Ne, ← BitVec.toNat_inj, hs, tn] at hc
    have e1 : (1#64 : W).toNat = 1 := rfl
    have hd : (s.hi - s.lo + 1#64).toNat = s.hi.toNat - s.lo.toNat + 1 := by rw [BitVec.toNat_add, hs, e1]; omega
    have hm := Nat.mod_lt x.toNat (show s.hi.toNat - s.lo.toNat + 1 > 0 by omega)
    have hv : (s.lo + remW x (s.hi - s.lo + 1#64)).toNat = s.lo.toNat + x.toNat % (s.hi.toNat - s.lo.toNat + 1) := by
      rw [BitVec.toNat_add, remW_nat, hd]
      generalize x.toNat % (s.hi.toNat - s.lo.toNat + 1) = r at *
      omega
    show memS s (s.lo + remW x (s.hi - s.lo + 1#64))
    refine ⟨?_, ?_⟩ <;> rw [hv] <;> omega

def badG (g : Gv) : Bool := ltB .i64 g.op 0#64 || ltB .i64 12#64 g.op || !mayS g.a || !mayS g.b
def resG (g : Gv) : Sp := Sp.mux (aluBad g.op g.a g.b) nilS (aluS g.op g.w g.a g.b)
def errG (g : Gv) : W := bif aluBad g.op g.a g.b then 1#64 else 0#64
def soundG (g : Gv) : Bool :=
  bif badG g then errG g == 1#64 && eqS (resG g) nilS && true
  else errG g == 0#64 && leB .u64 (resG g).lo (oneR g.op g.w (pickW g.a g.x) (pickW g.b g.y)) && leB .u64 (oneR g.op g.w (pickW g.a g.x) (pickW g.b g.y)) (resG g).hi && (g.w || ltB .u64 (resG g).hi 4294967296#64) && true

theorem good_op {op : W} (h1 : ltB .i64 op 0#64 = false) (h2 : ltB .i64 12#64 op = false) : isOp op := by
  have z0 : (0#64 : W).toInt = 0 := rfl
  have z12 : (12#64 : W).toInt = 12 := rfl
  rw [ltI, z0, decide_eq_false_iff_not] at h1
  rw [ltI, z12, decide_eq_false_iff_not] at h2
  exact isOp_of (by omega) (by omega)

theorem soundG_true (g : Gv) : soundG g = true := by
  unfold soundG
  cases hb : badG g with
  | true =>
    have : aluBad g.op g.a g.b = true := hb
    unfold errG resG
    rw [this]
    show (1#64 == 1#64 && eqS nilS nilS && true) = true
    rw [eqS_self]; rfl
  | false =>
    have hb2 : aluBad g.op g.a g.b = false := hb
    unfold badG at hb
    simp only [Bool.or_eq_false_iff, Bool.not_eq_false'] at hb
    obtain ⟨⟨⟨h1, h2⟩, ma⟩, mb⟩ := hb
    have hok := alu_ok (good_op h1 h2) g.w ma mb (pick_mem ma g.x) (pick_mem mb g.y)
    unfold errG resG
    rw [hb2]
    show (0#64 == 0#64 && leB .u64 (aluS g.op g.w g.a g.b).lo _ && leB .u64 _ (aluS g.op g.w g.a g.b).hi && (g.w || ltB .u64 (aluS g.op g.w g.a g.b).hi 4294967296#64) && true) = true
    rw [leU, leU, ltU, decide_eq_true hok.1.1, decide_eq_true hok.1.2]
    have h3 := hok.2
    cases hw : g.w with
    | true => rfl
    | false =>
      rw [hw] at h3
      have : (aluS g.op false g.a g.b).hi.toNat < (4294967296#64 : W).toNat := by
        have tn : t32.toNat = 4294967295 := rfl
        have z : (4294967296#64 : W).toNat = 4294967296 := rfl
        have h4 : (aluS g.op false g.a g.b).hi.toNat ≤ t32.toNat := h3
        omega
      rw [decide_eq_true this]; rfl
end Go.Rf
