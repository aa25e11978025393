/- Scalars: unequal, bits in common. -/
import Derived.Test.YtigiedlngfkfbaaSf1
set_option linter.unusedVariables false
set_option linter.unusedSimpArgs false
set_option maxRecDepth 100000
namespace Go.Rf

theorem bne_f {x y : W} (h : x ≠ y) : (x == y) = false := by simpa using h
theorem succ_f (x : W) : (x + 1#64 == x) = false := by
  apply bne_f
  intro h
  have := congrArg BitVec.toNat h
  rw [BitVec.toNat_add] at this
  have hx := x.isLt
  simp at this
  omega
theorem pred_f (x : W) : (x - 1#64 == x) = false := by
  apply bne_f
  intro h
  have := congrArg BitVec.toNat h
  rw [BitVec.toNat_sub] at this
  have hx := x.isLt
  simp at this
  omega
theorem mayC_le {a : Sc} (ha : mayC a = true) : a.s.lo.toNat ≤ a.s.hi.toNat := by
  have : leB .u64 a.s.lo a.s.hi = true := (mayC_parts ha).2
  rw [leU, decide_eq_true_eq] at this
  exact this
theorem side_wo {a : Sc} (ha : mayC a = true) (n : W) : Side a (woP a n) (woPB a n) (fun x => x ≠ n) := by
  have hle := mayC_le ha
  unfold woP woPB
  by_cases h1 : a.s.lo = n
  · have e1 : (a.s.lo == n) = true := by simpa using h1
    by_cases h2 : a.s.hi = n
    · have e2 : (a.s.hi == n) = true := by simpa using h2
      have e3 : (a.s.lo == a.s.hi) = true := by rw [h1, h2]; simp
      rw [e1, e2]
      unfold wi wiB
      rw [succ_f, e3]
      refine ⟨fun h => (by cases h), fun x hx hp => ?_⟩
      refine absurd (BitVec.eq_of_toNat_eq ?_) hp
      have q1 := hx.2.1
      have q2 := hx.2.2
      rw [h1] at q1; rw [h2] at q2
      omega
    · have e2 : (a.s.hi == n) = false := bne_f h2
      have e3 : (a.s.lo == a.s.hi) = false := bne_f (by rw [h1]; exact fun h => h2 h.symm)
      rw [e1, e2]
      unfold wi wiB
      rw [succ_f, e3]
      have hne : a.s.lo.toNat ≠ a.s.hi.toNat := fun e => by
        have := BitVec.eq_of_toNat_eq e
        rw [h1] at this; exact h2 this.symm
      have hs : (a.s.lo + 1#64).toNat = a.s.lo.toNat + 1 := succ_nat (by have := a.s.hi.isLt; omega)
      exact side_span (u := ⟨a.s.lo + 1#64, a.s.hi⟩) ha ⟨by show a.s.lo.toNat ≤ (a.s.lo + 1#64).toNat; omega, Nat.le_refl _⟩ (fun x hx hp => ⟨by
        show (a.s.lo + 1#64).toNat ≤ x.toNat
        have q1 := hx.2.1
        have : x.toNat ≠ a.s.lo.toNat := fun e => hp (by rw [← h1]; exact BitVec.eq_of_toNat_eq e)
        omega, hx.2.2⟩)
  · have e1 : (a.s.lo == n) = false := bne_f h1
    by_cases h2 : a.s.hi = n
    · have e2 : (a.s.hi == n) = true := by simpa using h2
      have e3 : (a.s.lo == a.s.hi) = false := bne_f (by rw [h2]; exact h1)
      have e4 : (a.s.lo == a.s.lo) = true := by simp
      rw [e1, e2]
      unfold wi wiB
      rw [pred_f, e3, e4]
      have hne : a.s.lo.toNat ≠ a.s.hi.toNat := fun e => by
        have := BitVec.eq_of_toNat_eq e
        rw [h2] at this; exact h1 this
      have hs : (a.s.hi - 1#64).toNat = a.s.hi.toNat - 1 := by
        rw [BitVec.toNat_sub]; have := a.s.hi.isLt; simp; omega
      exact side_span (u := ⟨a.s.lo, a.s.hi - 1#64⟩) ha ⟨Nat.le_refl _, by show (a.s.hi - 1#64).toNat ≤ a.s.hi.toNat; omega⟩ (fun x hx hp => ⟨hx.2.1, by
        show x.toNat ≤ (a.s.hi - 1#64).toNat
        have q1 := hx.2.2
        have : x.toNat ≠ a.s.hi.toNat := fun e => hp (by rw [← h2]; exact BitVec.eq_of_toNat_eq e)
        omega⟩)
    · have e2 : (a.s.hi == n) = false := bne_f h2
      rw [e1, e2]
      unfold wi wiB
      have e4 : (a.s.lo == a.s.lo) = true := by simp
      have e5 : (a.s.hi == a.s.hi) = true := by simp
      rw [e4, e5]
      exact Side.self ha _
theorem single_mem {b : Sc} (h : single b = true) {y : W} (hy : MemC b y) : y = b.s.lo := by
  have e : b.s.lo = b.s.hi := by simpa [single] using h
  apply BitVec.eq_of_toNat_eq
  have q1 := hy.2.1
  have q2 := hy.2.2
  rw [← e] at q2
  omega
theorem tells_ne {a b : Sc} (ha : mayC a = true) (hb : mayC b = true) : Tells a b (neG a b) (fun x y => x ≠ y) := by
  have wa : single b = true → ∀ y, MemC b y → Side a (woP a b.s.lo) (woPB a b.s.lo) (fun x => x ≠ y) := fun h y my => (side_wo ha _).mono fun x mx hp => by rw [← single_mem h my]; exact hp
  have wb : single a = true → ∀ x, MemC a x → Side b (woP b a.s.lo) (woPB b a.s.lo) (fun y => x ≠ y) := fun h x mx => (side_wo hb _).mono fun y my hp => by rw [← single_mem h mx]; exact fun e => hp e.symm
  have sa : ∀ y, MemC b y → Side a a true (fun x => x ≠ y) := fun y _ => Side.self ha _
  have sb : ∀ x, MemC a x → Side b b true (fun y => x ≠ y) := fun x _ => Side.self hb _
  unfold neG
  cases h1 : single b with
  | true =>
    rw [mux_t]
    cases h2 : single a with
    | true => rw [mux_t]; exact tells_both (wa h1) (wb h2) (side_wo ha _).le (side_wo hb _).le
    | false => rw [mux_f]; exact tells_both (wa h1) sb (side_wo ha _).le (fun _ => inC_self hb)
  | false =>
    rw [mux_f]
    cases h2 : single a with
    | true => rw [mux_t]; exact tells_both sa (wb h2) (fun _ => inC_self ha) (side_wo hb _).le
    | false => rw [mux_f]; exact tells_both sa sb (fun _ => inC_self ha) (fun _ => inC_self hb)
theorem and_off {x y : W} (h : x &&& y = 0#64) (i : Nat) : x.getLsbD i = true → y.getLsbD i = false := by
  intro hx
  have := congrArg (fun v => BitVec.getLsbD v i) h
  simp only [BitVec.getLsbD_and, hx, Bool.true_and, BitVec.getLsbD_zero] at this
  exact this
theorem and_zero {x y X Y : W} (h : X &&& Y = 0#64) (hx : T.Sb x X) (hy : T.Sb y Y) : x &&& y = 0#64 := by
  apply BitVec.eq_of_getLsbD_eq
  intro i hi
  rw [BitVec.getLsbD_and, BitVec.getLsbD_zero]
  cases h1 : x.getLsbD i with
  | false => rfl
  | true =>
    cases h2 : y.getLsbD i with
    | false => rfl
    | true =>
      have := and_off h i (hx i h1)
      rw [hy i h2] at this
      cases this
theorem tells_set {a b : Sc} (ha : mayC a = true) (hb : mayC b = true) : Tells a b (setG a b) (fun x y => x &&& y ≠ 0#64) := by
  refine tells_guard (fun _ => tells_keep ha hb _) (fun x y mx my h => ?_)
  apply bne_f
  intro e
  exact h (and_zero e mx.1.hi my.1.hi)
theorem nsT_may {a : Sc} (ha : T.may a.t = true) (b : Sc) : T.may (nsT a b) = true := by
  have h1 := T.may_mem ha
  refine (show T.Mem (nsT a b) a.t.v from T.mem_iff_bits.2 fun i hi => ?_).may
  have := T.mem_iff_bits.1 h1 i hi
  simp only [nsT, BitVec.getLsbD_and, BitVec.getLsbD_not, hi, decide_true, Bool.true_and]
  cases hv : a.t.v.getLsbD i with
  | false => rfl
  | true =>
    rw [hv] at this
    cases hm : a.t.m.getLsbD i with
    | true => rw [hm] at this; simp at this
    | false => simp
theorem nsT_in {a : Sc} (ha : T.may a.t = true) (b : Sc) : T.isIn (nsT a b) a.t = true := by
  unfold T.isIn
  rw [nsT_may ha b]
  simp only [Bool.true_and, Bool.and_eq_true, beq_iff_eq]
  refine ⟨T.has_iff.2 (T.may_mem ha), ?_⟩
  apply BitVec.eq_of_getLsbD_eq
  intro i hi
  simp only [nsT, BitVec.getLsbD_and, BitVec.getLsbD_not, hi, decide_true, Bool.true_and, BitVec.getLsbD_zero]
  cases a.t.m.getLsbD i <;> simp
theorem tells_ns {a b : Sc} (ha : mayC a = true) (hb : mayC b = true) : Tells a b (nsG a b) (fun x y => x &&& y = 0#64) := by
  refine tells_guard (fun _ => ?_) (fun x y mx my h => ?_)
  · cases h1 : single b with
    | false =>
      rw [mux_f]
      exact tells_both (fun y _ => Side.self ha _) (fun x _ => Side.self hb _) (fun _ => inC_self ha) (fun _ => inC_self hb)
    | true =>
      rw [mux_t]
      have hle : setOk (nsT a b) a.s = true → leP (nsT a b) a.s a.t a.s := fun _ => ⟨nsT_in (mayC_parts ha).1 b, inS_self (mayC_parts ha).2⟩
      refine tells_both (fun y my => side_settle ha hle fun x mx hp => ⟨?_, mx.2⟩) (fun x _ => Side.self hb _) (side_settle (P := fun _ => False) ha hle fun _ _ h => h.elim).le (fun _ => inC_self hb)
      rw [single_mem h1 my] at hp
      refine T.mem_iff_bits.2 fun i hi => ?_
      have := T.mem_iff_bits.1 mx.1 i hi
      simp only [nsT, BitVec.getLsbD_and, BitVec.getLsbD_not, hi, decide_true, Bool.true_and]
      rw [this]
      cases hx : x.getLsbD i with
      | false => rfl
      | true =>
        rw [and_off hp i hx]
        simp
  · rw [bne_eq_false_iff_eq]
    exact and_zero h mx.1.lo my.1.lo
end Go.Rf
