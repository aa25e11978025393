/- Scalars: what a condition tells keeps what there is. -/
import Derived.Test.YtigiedlngfkfbaaSe3
set_option linter.unusedVariables false
set_option linter.unusedSimpArgs false
set_option maxRecDepth 100000
namespace Go.Rf

/-- A side: in what was known, keeping what P says. -/
structure Side (a X : Sc) (ok : Bool) (P : W → Prop) : Prop where
  le : ok = true → inC X a = true
  mem : ∀ x, MemC a x → P x → ok = true ∧ MemC X x
structure Tells (a b : Sc) (r : R3) (P : W → W → Prop) : Prop where
  none : r.ok = false → r = R3.none
  le : r.ok = true → inC r.x a = true ∧ inC r.y b = true
  mem : ∀ x y, MemC a x → MemC b y → P x y → r.ok = true ∧ MemC r.x x ∧ MemC r.y y

theorem inC_self {a : Sc} (h : mayC a = true) : inC a a = true := inC_iff.2 ⟨h, h, leP_self h⟩
theorem Side.self {a : Sc} (h : mayC a = true) (P : W → Prop) : Side a a true P := ⟨fun _ => inC_self h, fun x hx _ => ⟨rfl, hx⟩⟩
theorem side_settle {a : Sc} (ha : mayC a = true) {t : Tn} {u : Sp} (h : setOk t u = true → leP t u a.t a.s) {P : W → Prop} (hm : ∀ x, MemC a x → P x → T.Mem t x ∧ memS u x) : Side a (setR t u) (setOk t u) P := by
  refine ⟨fun ho => ?_, fun x hx hp => ?_⟩
  · exact inC_iff.2 ⟨(settled ho).1, ha, leP_trans (settle_in ho) (h ho)⟩
  · obtain ⟨m1, m2⟩ := hm x hx hp
    cases ho : setOk t u with
    | false => exact absurd ⟨m1, m2⟩ ((settle_no ho).2 x)
    | true => exact ⟨rfl, ((settled ho).2 x).2 ⟨m1, m2⟩⟩
/-- The span alone narrowed. -/
theorem side_span {a : Sc} (ha : mayC a = true) {u : Sp} (h : leS u a.s) {P : W → Prop} (hm : ∀ x, MemC a x → P x → memS u x) : Side a (setR a.t u) (setOk a.t u) P :=
  side_settle ha (fun ho => ⟨T.in_refl (mayC_parts ha).1, inS_iff.2 ⟨(settle_ok ho).2.1, h⟩⟩) (fun x hx hp => ⟨hx.1, hm x hx hp⟩)
theorem Side.mono {a X : Sc} {ok : Bool} {P Q : W → Prop} (h : Side a X ok P) (hq : ∀ x, MemC a x → Q x → P x) : Side a X ok Q := ⟨h.le, fun x hx hp => h.mem x hx (hq x hx hp)⟩
theorem tells_both {a b X Y : Sc} {p q : Bool} {P : W → W → Prop} (hx : ∀ y, MemC b y → Side a X p (fun x => P x y)) (hy : ∀ x, MemC a x → Side b Y q (fun y => P x y)) (hxl : p = true → inC X a = true) (hyl : q = true → inC Y b = true) : Tells a b (both3 X p Y q) P := by
  unfold both3
  have bad : p = false ∨ q = false → Tells a b R3.none P := by
    intro h
    refine ⟨fun _ => rfl, fun h => (by cases h), fun x y mx my hh => ?_⟩
    rcases h with h | h
    · have := ((hx y my).mem x mx hh).1; rw [h] at this; cases this
    · have := ((hy x mx).mem y my hh).1; rw [h] at this; cases this
  cases hp : p with
  | false => exact bad (.inl hp)
  | true =>
    cases hq : q with
    | false => exact bad (.inr hq)
    | true =>
      show Tells a b ⟨X, Y, true⟩ P
      exact ⟨fun h => (by cases h), fun _ => ⟨hxl hp, hyl hq⟩, fun x y mx my h => ⟨rfl, ((hx y my).mem x mx h).2, ((hy x mx).mem y my h).2⟩⟩
theorem Tells.swap {a b : Sc} {r : R3} {P : W → W → Prop} (h : Tells b a r (fun y x => P x y)) : Tells a b r.swap P :=
  ⟨fun ho => by have := h.none ho; rw [this]; rfl, fun ho => ⟨(h.le ho).2, (h.le ho).1⟩, fun x y mx my hp => by obtain ⟨h1, h2, h3⟩ := h.mem y x my mx hp; exact ⟨h1, h3, h2⟩⟩
theorem mux_f (p q : R3) : R3.mux false p q = q := by cases q; rfl
theorem mux_t (p q : R3) : R3.mux true p q = p := by cases p; rfl
theorem tells_guard {a b : Sc} {c : Bool} {r : R3} {P : W → W → Prop} (h : c = false → Tells a b r P) (hc : ∀ x y, MemC a x → MemC b y → P x y → c = false) : Tells a b (R3.mux c R3.none r) P := by
  cases hcc : c with
  | false => rw [mux_f]; exact h hcc
  | true =>
    rw [mux_t]
    exact ⟨fun _ => rfl, fun ho => (by cases ho), fun x y mx my hp => by have := hc x y mx my hp; rw [hcc] at this; cases this⟩
theorem tells_keep {a b : Sc} (ha : mayC a = true) (hb : mayC b = true) (P : W → W → Prop) : Tells a b (R3.keep a b) P :=
  ⟨fun h => (by cases h), fun _ => ⟨inC_self ha, inC_self hb⟩, fun x y mx my _ => ⟨rfl, mx, my⟩⟩
theorem abL_nat (a : Sc) (m : W) : (abL a m).lo.toNat = max a.s.lo.toNat m.toNat := by
  unfold abL
  show (bif ltB .u64 a.s.lo m then m else a.s.lo).toNat = _
  rw [ltU]
  by_cases h : a.s.lo.toNat < m.toNat
  · rw [decide_eq_true h]; show m.toNat = _; omega
  · rw [decide_eq_false h]; show a.s.lo.toNat = _; omega
theorem abH_nat (b : Sc) (n : W) : (abH b n).hi.toNat = min b.s.hi.toNat n.toNat := by
  unfold abH
  show (bif ltB .u64 n b.s.hi then n else b.s.hi).toNat = _
  rw [ltU]
  by_cases h : n.toNat < b.s.hi.toNat
  · rw [decide_eq_true h]; show n.toNat = _; omega
  · rw [decide_eq_false h]; show b.s.hi.toNat = _; omega
theorem side_lo {a : Sc} (ha : mayC a = true) (m : W) {P : W → Prop} (hp : ∀ x, MemC a x → P x → m.toNat ≤ x.toNat) : Side a (setR a.t (abL a m)) (setOk a.t (abL a m)) P :=
  side_span (u := abL a m) ha ⟨by rw [abL_nat]; omega, Nat.le_refl _⟩ (fun x hx h => ⟨by rw [abL_nat]; have := hp x hx h; have := hx.2.1; omega, hx.2.2⟩)
theorem side_hi {b : Sc} (hb : mayC b = true) (n : W) {P : W → Prop} (hp : ∀ x, MemC b x → P x → x.toNat ≤ n.toNat) : Side b (setR b.t (abH b n)) (setOk b.t (abH b n)) P :=
  side_span (u := abH b n) hb ⟨Nat.le_refl _, by rw [abH_nat]; omega⟩ (fun x hx h => ⟨hx.2.1, by rw [abH_nat]; have := hp x hx h; have := hx.2.2; omega⟩)
theorem tells_above {a b : Sc} (ha : mayC a = true) (hb : mayC b = true) (m n : W) {P : W → W → Prop} (h1 : ∀ x y, MemC a x → MemC b y → P x y → m.toNat ≤ x.toNat) (h2 : ∀ x y, MemC a x → MemC b y → P x y → y.toNat ≤ n.toNat) : Tells a b (above a b m n) P :=
  tells_both (fun y my => side_lo ha m fun x mx h => h1 x y mx my h) (fun x mx => side_hi hb n fun y my h => h2 x y mx my h) (side_lo (P := fun _ => False) ha m fun _ _ h => h.elim).le (side_hi (P := fun _ => False) hb n fun _ _ h => h.elim).le
theorem tells_gt {a b : Sc} (ha : mayC a = true) (hb : mayC b = true) : Tells a b (gtG a b) (fun x y => y.toNat < x.toNat) := by
  refine tells_guard (fun hc => ?_) (fun x y mx my h => ?_)
  · simp only [Bool.or_eq_false_iff, beq_eq_false_iff_ne, ne_eq] at hc
    have e1 : (b.s.lo + 1#64).toNat = b.s.lo.toNat + 1 := succ_nat (by
      have : b.s.lo.toNat ≠ 18446744073709551615 := fun e => hc.1 (BitVec.eq_of_toNat_eq e)
      have := b.s.lo.isLt; omega)
    have e2 : (a.s.hi - 1#64).toNat = a.s.hi.toNat - 1 := by
      have : a.s.hi.toNat ≠ 0 := fun e => hc.2 (BitVec.eq_of_toNat_eq e)
      rw [BitVec.toNat_sub]; have := a.s.hi.isLt; simp; omega
    exact tells_above ha hb _ _ (fun x y mx my h => by rw [e1]; have := my.2.1; omega) (fun x y mx my h => by rw [e2]; have := mx.2.2; omega)
  · have h1 := my.2.1
    have h2 := mx.2.2
    have h3 := x.isLt
    simp only [Bool.or_eq_false_iff, beq_eq_false_iff_ne, ne_eq]
    refine ⟨fun e => ?_, fun e => ?_⟩
    · have := congrArg BitVec.toNat e
      simp at this; omega
    · have := congrArg BitVec.toNat e
      simp at this; omega
theorem tells_ge {a b : Sc} (ha : mayC a = true) (hb : mayC b = true) : Tells a b (geG a b) (fun x y => y.toNat ≤ x.toNat) :=
  tells_above ha hb _ _ (fun x y mx my h => by have := my.2.1; omega) (fun x y mx my h => by have := mx.2.2; omega)
theorem bad_ok {k : W} (hk : condPE k true = 0#64) {a b : Sc} (ha : mayC a = true) (hb : mayC b = true) : badR k true a b = false := by
  unfold badR; rw [hk, ha, hb]; rfl
theorem tells_lt {a b : Sc} (ha : mayC a = true) (hb : mayC b = true) : Tells a b (ltG a b) (fun x y => x.toNat < y.toNat) := by
  unfold ltG
  rw [bad_ok (by decide) hb ha, mux_f]
  exact (tells_gt hb ha).swap
theorem tells_le {a b : Sc} (ha : mayC a = true) (hb : mayC b = true) : Tells a b (leG a b) (fun x y => x.toNat ≤ y.toNat) := by
  unfold leG
  rw [bad_ok (by decide) hb ha, mux_f]
  exact (tells_ge hb ha).swap
theorem tells_eq {a b : Sc} (ha : mayC a = true) (hb : mayC b = true) : Tells a b (eqG a b) (fun x y => x = y) := by
  obtain ⟨m1, m2⟩ := meet_facts ha hb
  unfold eqG both3
  cases h : meetCB a b with
  | false =>
    refine ⟨fun _ => by rfl, fun h => (by cases h), fun x y mx my e => ?_⟩
    subst e
    exact absurd ⟨mx, my⟩ (m2 h x)
  | true =>
    obtain ⟨q1, q2, q3, q4⟩ := m1 h
    refine ⟨fun h => (by cases h), fun _ => ⟨q2, q3⟩, fun x y mx my e => ?_⟩
    subst e
    exact ⟨rfl, (q4 x).2 ⟨mx, my⟩, (q4 x).2 ⟨mx, my⟩⟩
end Go.Rf
