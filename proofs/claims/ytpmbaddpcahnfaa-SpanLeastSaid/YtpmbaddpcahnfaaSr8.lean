/- Spans: of few numbers each nothing is told that is no need: plain. -/
import Derived.Test.YtpmbaddpcahnfaaSr7
set_option linter.unusedVariables false
set_option linter.unusedSimpArgs false
namespace Go.Rf
open Go.Proofs

variable {n t : W} {a b : Sp}
/-- Both ends are results. -/
def Att (a b : Sp) (f : W → W → W) (s : Sp) : Prop := (∃ X Y, memS a X ∧ memS b Y ∧ s.lo = f X Y) ∧ ∃ X Y, memS a X ∧ memS b Y ∧ s.hi = f X Y

theorem sum_hit (ma : mayS a = true) (mb : mayS b = true) {S : Nat} (h1 : a.lo.toNat + b.lo.toNat ≤ S) (h2 : S ≤ a.hi.toNat + b.hi.toNat) : ∃ X Y, memS a X ∧ memS b Y ∧ X.toNat + Y.toNat = S := by
  have la := mayS_iff.1 ma
  have lb := mayS_iff.1 mb
  have i1 := a.hi.isLt
  have i2 := b.hi.isLt
  refine ⟨BitVec.ofNat 64 (min a.hi.toNat (S - b.lo.toNat)), BitVec.ofNat 64 (S - min a.hi.toNat (S - b.lo.toNat)), ?_, ?_, ?_⟩
  · unfold memS; rw [ofNat_toNat (by omega)]; omega
  · unfold memS; rw [ofNat_toNat (by omega)]; omega
  · rw [ofNat_toNat (by omega), ofNat_toNat (by omega)]; omega

theorem sum_att (h : Wd n t) (ma : mayS a = true) (mb : mayS b = true) (ha : a.hi.toNat ≤ t.toNat) (hb : b.hi.toNat ≤ t.toNat) : Att a b (fun x y => (x + y) &&& t) (sumS a b t) := by
  have la := mayS_iff.1 ma
  have lb := mayS_iff.1 mb
  have i1 := a.hi.isLt
  have i2 := b.hi.isLt
  unfold sumS
  cases hc : sumBad a b t with
  | false => exact ⟨⟨a.lo, b.lo, memS_lo ma, memS_lo mb, rfl⟩, ⟨a.hi, b.hi, memS_hi ma, memS_hi mb, rfl⟩⟩
  | true =>
    have hn := hc
    unfold sumBad at hn
    rw [Bool.or_eq_true, carry_eq, carry_eq, bit_ne, ltU, ltU, dec_ne, BitVec.toNat_add, BitVec.toNat_add] at hn
    have hM : a.lo.toNat + b.lo.toNat < 2 ^ n.toNat ∧ 2 ^ n.toNat ≤ a.hi.toNat + b.hi.toNat := by
      rcases h.cases with ⟨_, e2, e3⟩ | ⟨_, e2, e3⟩ <;> rw [e3] <;> rw [e2] at ha hb hn <;> omega
    have hp := Nat.two_pow_pos n.toNat
    obtain ⟨X, Y, hX, hY, e⟩ := sum_hit ma mb (S := 2 ^ n.toNat) (by omega) hM.2
    obtain ⟨X', Y', hX', hY', e'⟩ := sum_hit ma mb (S := 2 ^ n.toNat - 1) (by omega) (by omega)
    refine ⟨⟨X, Y, hX, hY, ?_⟩, ⟨X', Y', hX', hY', ?_⟩⟩
    · apply BitVec.eq_of_toNat_eq
      show (0#64 : W).toNat = ((X + Y) &&& t).toNat
      rw [h.and, BitVec.toNat_add, e]
      rcases h.cases with ⟨_, e2, e3⟩ | ⟨_, e2, e3⟩ <;> rw [e3] <;> rfl
    · apply BitVec.eq_of_toNat_eq
      show t.toNat = ((X' + Y') &&& t).toNat
      rw [h.and, BitVec.toNat_add, e']
      rcases h.cases with ⟨_, e2, e3⟩ | ⟨_, e2, e3⟩ <;> rw [e3, e2]

theorem sub_hit (ma : mayS a = true) (mb : mayS b = true) (h1 : a.lo.toNat < b.hi.toNat) (h2 : b.lo.toNat ≤ a.hi.toNat) : (∃ X Y, memS a X ∧ memS b Y ∧ X = Y) ∧ ∃ X Y, memS a X ∧ memS b Y ∧ X.toNat + 1 = Y.toNat := by
  have la := mayS_iff.1 ma
  have lb := mayS_iff.1 mb
  have i1 := a.hi.isLt
  have i2 := b.hi.isLt
  refine ⟨⟨BitVec.ofNat 64 (max a.lo.toNat b.lo.toNat), BitVec.ofNat 64 (max a.lo.toNat b.lo.toNat), ?_, ?_, rfl⟩,
    ⟨BitVec.ofNat 64 (max a.lo.toNat (b.lo.toNat - 1)), BitVec.ofNat 64 (max a.lo.toNat (b.lo.toNat - 1) + 1), ?_, ?_, ?_⟩⟩
  · unfold memS; rw [ofNat_toNat (by omega)]; omega
  · unfold memS; rw [ofNat_toNat (by omega)]; omega
  · unfold memS; rw [ofNat_toNat (by omega)]; omega
  · unfold memS; rw [ofNat_toNat (by omega)]; omega
  · rw [ofNat_toNat (by omega), ofNat_toNat (by omega)]

theorem less_att (h : Wd n t) (ma : mayS a = true) (mb : mayS b = true) (ha : a.hi.toNat ≤ t.toNat) (hb : b.hi.toNat ≤ t.toNat) : Att a b (fun x y => (x - y) &&& t) (lessS a b t) := by
  have la := mayS_iff.1 ma
  have lb := mayS_iff.1 mb
  unfold lessS
  cases hc : lessBad a b with
  | false => exact ⟨⟨a.lo, b.hi, memS_lo ma, memS_hi mb, rfl⟩, ⟨a.hi, b.lo, memS_hi ma, memS_lo mb, rfl⟩⟩
  | true =>
    have hn := hc
    unfold lessBad at hn
    rw [borrow_eq, borrow_eq, bit_ne] at hn
    obtain ⟨⟨X, Y, hX, hY, e⟩, ⟨X', Y', hX', hY', e'⟩⟩ := sub_hit ma mb (by omega) (by omega)
    refine ⟨⟨X, Y, hX, hY, ?_⟩, ⟨X', Y', hX', hY', ?_⟩⟩
    · subst e
      show (0#64 : W) = (X - X) &&& t
      rw [BitVec.sub_self, BitVec.zero_and]
    · apply BitVec.eq_of_toNat_eq
      show t.toNat = ((X' - Y') &&& t).toNat
      have i3 := Y'.isLt
      rw [h.and, BitVec.toNat_sub]
      rcases h.cases with ⟨_, e2, e3⟩ | ⟨_, e2, e3⟩ <;> rw [e3, e2] <;> omega

theorem parts_att (ma : mayS a = true) (mb : mayS b = true) : Att a b quo0 (partsS a b) := by
  have la := mayS_iff.1 ma
  have lb := mayS_iff.1 mb
  unfold partsS
  rw [eq0, eq0]
  by_cases h1 : b.hi.toNat = 0
  · rw [decide_eq_true h1]
    have z : b.lo.toNat = 0 := by omega
    have e : (0#64 : W) = quo0 a.lo b.lo := BitVec.eq_of_toNat_eq (by rw [quo0_nat, z, Nat.div_zero]; rfl)
    exact ⟨⟨a.lo, b.lo, memS_lo ma, memS_lo mb, e⟩, ⟨a.lo, b.lo, memS_lo ma, memS_lo mb, e⟩⟩
  · rw [decide_eq_false h1]
    by_cases h2 : b.lo.toNat = 0
    · rw [decide_eq_true h2]
      refine ⟨⟨a.lo, b.lo, memS_lo ma, memS_lo mb, BitVec.eq_of_toNat_eq (by rw [quo0_nat, h2, Nat.div_zero]; rfl)⟩, ⟨a.hi, 1#64, memS_hi ma, ?_, ?_⟩⟩
      · have e1 : (1#64 : W).toNat = 1 := rfl
        unfold memS; rw [e1]; omega
      · apply BitVec.eq_of_toNat_eq
        have e1 : (1#64 : W).toNat = 1 := rfl
        show a.hi.toNat = _
        rw [quo0_nat, e1, Nat.div_one]
    · rw [decide_eq_false h2]
      refine ⟨⟨a.lo, b.hi, memS_lo ma, memS_hi mb, ?_⟩, ⟨a.hi, b.lo, memS_hi ma, memS_lo mb, ?_⟩⟩
      · apply BitVec.eq_of_toNat_eq
        show (quoW a.lo b.hi).toNat = _
        rw [quoW_nat, quo0_nat]
      · apply BitVec.eq_of_toNat_eq
        show (quoW a.hi b.lo).toNat = _
        rw [quoW_nat, quo0_nat]

/-- The operations of which nothing is told without need. -/
def tight (op : W) : Prop := op = 0#64 ∨ op = 1#64 ∨ op = 3#64 ∨ op = 4#64 ∨ op = 5#64 ∨ op = 8#64 ∨ op = 10#64 ∨ op = 11#64
theorem tight_op {op : W} (h : tight op) : isOp op := by
  unfold isOp
  rcases h with rfl | rfl | rfl | rfl | rfl | rfl | rfl | rfl <;> simp
theorem core_att (h : Wd n t) {op : W} (hop : tight op) (ma : mayS a = true) (mb : mayS b = true) (ha : a.hi.toNat ≤ t.toNat) (hb : b.hi.toNat ≤ t.toNat) :
    Att a b (fun x y => one' op x y n t) (core op a b n t) := by
  have two : ∀ {f : W → W → W} {l m : W}, Least a b f l → Most a b f m → Att a b f ⟨l, m⟩ := fun hl hm => ⟨hl.2, hm.2⟩
  rcases hop with rfl | rfl | rfl | rfl | rfl | rfl | rfl | rfl
  · exact sum_att h ma mb ha hb
  · exact less_att h ma mb ha hb
  · exact parts_att ma mb
  · exact two (leastOr_least ma mb) (mostOr_most ma mb)
  · exact two (leastAnd_least ma mb) (mostAnd_most ma mb)
  · obtain ⟨⟨x, y, hx, hy, e⟩, ⟨x', y', hx', hy', e'⟩⟩ := less_att (a := ofS 0#64) (b := a) h (mayS_iff.2 (Nat.le_refl _)) ma (Nat.zero_le _) ha
    have z : ∀ {v : W}, memS (ofS 0#64) v → v = 0#64 := fun {v} hv => BitVec.eq_of_toNat_eq (by have := hv.1; have := hv.2; simp only [ofS] at *; omega)
    have ex := z hx
    have ex' := z hx'
    subst ex
    subst ex'
    exact ⟨⟨y, b.lo, hy, memS_lo mb, e⟩, ⟨y', b.lo, hy', memS_lo mb, e'⟩⟩
  · exact two (leastXor_least ma mb) (mostXor_most ma mb)
  · exact ⟨⟨a.lo, b.lo, memS_lo ma, memS_lo mb, rfl⟩, ⟨a.lo, b.hi, memS_lo ma, memS_hi mb, rfl⟩⟩

/-! The law's loops. -/
structure LsS where
  g : Gv
  a : Sp
  b : Sp
  w : Sp
  i : W
  k : W
def LsS.res (s : LsS) : W := oneR s.g.op s.g.w (s.a.lo + s.i) (s.b.lo + s.k)
def LsS.go (s : LsS) : Bool := leB .u64 s.k (s.b.hi - s.b.lo)
def LsS.nxt (s : LsS) : LsS := ⟨s.g, s.a, s.b, ⟨minU s.w.lo s.res, maxU s.w.hi s.res⟩, s.i, s.k + 1#64⟩
def LsS.inv (s : LsS) : Prop := (s.b.hi - s.b.lo).toNat ≤ 23 ∧ s.k.toNat ≤ (s.b.hi - s.b.lo).toNat + 1
def LsS.mu (s : LsS) : Nat := (s.b.hi - s.b.lo).toNat + 1 - s.k.toNat
theorem LsS.dec (s : LsS) (h : s.inv) (hg : s.go = true) : s.nxt.inv ∧ s.nxt.mu < s.mu := by
  rw [LsS.go, leU, decide_eq_true_eq] at hg
  have e : s.nxt.k.toNat = s.k.toNat + 1 := succ_nat (by have := h.1; omega)
  have e2 : s.nxt.b = s.b := rfl
  have h1 := h.1
  simp only [LsS.inv, LsS.mu, e, e2]
  omega
def LsS.run (s : LsS) : LsS := runN LsS.go LsS.nxt 24 s

structure LoS where
  g : Gv
  a : Sp
  b : Sp
  w : Sp
  i : W
def LoS.inn (s : LoS) : LsS := LsS.run ⟨s.g, s.a, s.b, s.w, s.i, 0#64⟩
def LoS.go (s : LoS) : Bool := leB .u64 s.i (s.a.hi - s.a.lo)
def LoS.nxt (s : LoS) : LoS := ⟨s.inn.g, s.inn.a, s.inn.b, s.inn.w, s.inn.i + 1#64⟩
def LoS.inv (s : LoS) : Prop := (s.a.hi - s.a.lo).toNat ≤ 23 ∧ (s.b.hi - s.b.lo).toNat ≤ 23 ∧ s.i.toNat ≤ (s.a.hi - s.a.lo).toNat + 1
def LoS.mu (s : LoS) : Nat := (s.a.hi - s.a.lo).toNat + 1 - s.i.toNat
theorem LsS.keep (k : Nat) (s : LsS) : (runN LsS.go LsS.nxt k s).g = s.g ∧ (runN LsS.go LsS.nxt k s).a = s.a ∧ (runN LsS.go LsS.nxt k s).b = s.b ∧ (runN LsS.go LsS.nxt k s).i = s.i :=
  runN_inv (go := LsS.go) (next := LsS.nxt) (fun u => u.g = s.g ∧ u.a = s.a ∧ u.b = s.b ∧ u.i = s.i) (fun u h _ => h) k s ⟨rfl, rfl, rfl, rfl⟩
theorem LoS.keep1 (s : LoS) : s.nxt.g = s.g ∧ s.nxt.a = s.a ∧ s.nxt.b = s.b ∧ s.nxt.i = s.i + 1#64 := by
  have h := LsS.keep 24 ⟨s.g, s.a, s.b, s.w, s.i, 0#64⟩
  exact ⟨h.1, h.2.1, h.2.2.1, by show s.inn.i + 1#64 = _; rw [show s.inn.i = s.i from h.2.2.2]⟩
theorem LoS.dec (s : LoS) (h : s.inv) (hg : s.go = true) : s.nxt.inv ∧ s.nxt.mu < s.mu := by
  rw [LoS.go, leU, decide_eq_true_eq] at hg
  obtain ⟨_, k2, k3, k4⟩ := LoS.keep1 s
  have e : (s.i + 1#64).toNat = s.i.toNat + 1 := succ_nat (by have := h.1; omega)
  obtain ⟨h1, h2, h3⟩ := h
  simp only [LoS.inv, LoS.mu, k2, k3, k4, e]
  omega
def LoS.run (s : LoS) : LoS := runN LoS.go LoS.nxt 24 s

/-- What has been told of the results so far. -/
def Seen (r : Nat → Nat → W) (p : Nat → Nat → Prop) (w : Sp) : Prop :=
  (∀ i k, p i k → w.lo.toNat ≤ (r i k).toNat ∧ (r i k).toNat ≤ w.hi.toNat) ∧
  (((∀ i k, ¬ p i k) ∧ w = ⟨t64, 0#64⟩) ∨ ((∃ i k, p i k ∧ w.lo = r i k) ∧ ∃ i k, p i k ∧ w.hi = r i k))

theorem seen_one {r : Nat → Nat → W} {p p' : Nat → Nat → Prop} {w : Sp} {i k : Nat} (h : Seen r p w) (hp : ∀ x y, p' x y ↔ p x y ∨ (x = i ∧ y = k)) : Seen r p' ⟨minU w.lo (r i k), maxU w.hi (r i k)⟩ := by
  have el := minU_nat w.lo (r i k)
  have eh := maxU_nat w.hi (r i k)
  obtain ⟨h1, h2⟩ := h
  refine ⟨fun x y hxy => ?_, .inr ?_⟩
  · show (minU w.lo (r i k)).toNat ≤ _ ∧ _ ≤ (maxU w.hi (r i k)).toNat
    rcases (hp x y).1 hxy with hq | ⟨rfl, rfl⟩
    · have := h1 x y hq; omega
    · omega
  · have self : p' i k := (hp i k).2 (.inr ⟨rfl, rfl⟩)
    rcases h2 with ⟨_, e⟩ | ⟨⟨x, y, q1, q2⟩, ⟨x', y', q3, q4⟩⟩
    · subst e
      have hl : (r i k).toNat ≤ t64.toNat := le64' _
      refine ⟨⟨i, k, self, BitVec.eq_of_toNat_eq ?_⟩, ⟨i, k, self, BitVec.eq_of_toNat_eq ?_⟩⟩
      · show (minU t64 (r i k)).toNat = _
        rw [minU_nat]; omega
      · show (maxU 0#64 (r i k)).toNat = _
        rw [maxU_nat]
        have z : (0#64 : W).toNat = 0 := rfl
        omega
    · refine ⟨?_, ?_⟩
      · by_cases hlt : (r i k).toNat < w.lo.toNat
        · exact ⟨i, k, self, BitVec.eq_of_toNat_eq (by show (minU w.lo (r i k)).toNat = _; omega)⟩
        · exact ⟨x, y, (hp x y).2 (.inl q1), BitVec.eq_of_toNat_eq (by show (minU w.lo (r i k)).toNat = _; rw [← q2]; omega)⟩
      · by_cases hlt : w.hi.toNat < (r i k).toNat
        · exact ⟨i, k, self, BitVec.eq_of_toNat_eq (by show (maxU w.hi (r i k)).toNat = _; omega)⟩
        · exact ⟨x', y', (hp x' y').2 (.inl q3), BitVec.eq_of_toNat_eq (by show (maxU w.hi (r i k)).toNat = _; rw [← q4]; omega)⟩

theorem seen_same {r : Nat → Nat → W} {p p' : Nat → Nat → Prop} {w : Sp} (h : Seen r p w) (hp : ∀ x y, p' x y ↔ p x y) : Seen r p' w := by
  obtain ⟨h1, h2⟩ := h
  refine ⟨fun x y hxy => h1 x y ((hp x y).1 hxy), ?_⟩
  rcases h2 with ⟨a, e⟩ | ⟨⟨x, y, q1, q2⟩, ⟨x', y', q3, q4⟩⟩
  · exact .inl ⟨fun x y hxy => a x y ((hp x y).1 hxy), e⟩
  · exact .inr ⟨⟨x, y, (hp x y).2 q1, q2⟩, ⟨x', y', (hp x' y').2 q3, q4⟩⟩

section
variable (g : Gv) (a b : Sp)
def resI (i k : Nat) : W := oneR g.op g.w (a.lo + BitVec.ofNat 64 i) (b.lo + BitVec.ofNat 64 k)
def pIn (d i k x y : Nat) : Prop := y ≤ d ∧ (x < i ∨ (x = i ∧ y < k))

theorem inner_seen {d : Nat} (hd : (b.hi - b.lo).toNat = d) (hd23 : d ≤ 23) (w : Sp) (i : Nat) (h : Seen (resI g a b) (pIn d i 0) w) :
    Seen (resI g a b) (pIn d (i + 1) 0) (LsS.run ⟨g, a, b, w, BitVec.ofNat 64 i, 0#64⟩).w := by
  have h0 : LsS.inv ⟨g, a, b, w, BitVec.ofNat 64 i, 0#64⟩ := ⟨by show (b.hi - b.lo).toNat ≤ 23; omega, Nat.zero_le _⟩
  have hi := runN_inv (go := LsS.go) (next := LsS.nxt) (fun u => u.inv ∧ u.g = g ∧ u.a = a ∧ u.b = b ∧ u.i = BitVec.ofNat 64 i ∧ Seen (resI g a b) (pIn d i u.k.toNat) u.w) (fun u hu hg => by
    obtain ⟨u1, u2, u3, u4, u5, u6⟩ := hu
    obtain ⟨d1, _⟩ := LsS.dec u u1 hg
    refine ⟨d1, u2, u3, u4, u5, ?_⟩
    have hk : u.k.toNat ≤ d := by
      rw [LsS.go, leU, decide_eq_true_eq, u4] at hg
      omega
    have e : u.nxt.k.toNat = u.k.toNat + 1 := succ_nat (by omega)
    have en : u.res = resI g a b i u.k.toNat := by
      unfold LsS.res resI
      rw [u2, u3, u4, u5, ofNat_self]
    show Seen (resI g a b) (pIn d i u.nxt.k.toNat) ⟨minU u.w.lo u.res, maxU u.w.hi u.res⟩
    rw [e, en]
    exact seen_one u6 (fun x y => by unfold pIn; omega)) 24 ⟨g, a, b, w, BitVec.ofNat 64 i, 0#64⟩ ⟨h0, rfl, rfl, rfl, rfl, h⟩
  have hdn := runN_done (go := LsS.go) (next := LsS.nxt) (inv := LsS.inv) (μ := LsS.mu) LsS.dec 24 _ h0 (by unfold LsS.mu; show (b.hi - b.lo).toNat + 1 - (0#64 : W).toNat ≤ 24; omega)
  obtain ⟨u1, u2, u3, u4, u5, u6⟩ := hi
  have hu1 := u1.2
  rw [LsS.go, leU, decide_eq_false_iff_not] at hdn
  rw [u4] at hdn hu1
  refine seen_same u6 (fun x y => ?_)
  unfold pIn
  omega

theorem outer_seen (hd : (b.hi - b.lo).toNat ≤ 23) (hda : (a.hi - a.lo).toNat ≤ 23) :
    Seen (resI g a b) (fun x y => x ≤ (a.hi - a.lo).toNat ∧ y ≤ (b.hi - b.lo).toNat) (LoS.run ⟨g, a, b, ⟨t64, 0#64⟩, 0#64⟩).w := by
  have h0 : LoS.inv ⟨g, a, b, ⟨t64, 0#64⟩, 0#64⟩ := ⟨hda, hd, Nat.zero_le _⟩
  have hi := runN_inv (go := LoS.go) (next := LoS.nxt) (fun u => u.inv ∧ u.g = g ∧ u.a = a ∧ u.b = b ∧ Seen (resI g a b) (pIn (b.hi - b.lo).toNat u.i.toNat 0) u.w) (fun u hu hg => by
    obtain ⟨u1, u2, u3, u4, u6⟩ := hu
    obtain ⟨d1, _⟩ := LoS.dec u u1 hg
    obtain ⟨k1, k2, k3, k4⟩ := LoS.keep1 u
    refine ⟨d1, by rw [k1, u2], by rw [k2, u3], by rw [k3, u4], ?_⟩
    rw [LoS.go, leU, decide_eq_true_eq, u3] at hg
    have e : (u.i + 1#64).toNat = u.i.toNat + 1 := succ_nat (by omega)
    rw [k4, e]
    have := inner_seen g a b rfl hd u.w u.i.toNat u6
    show Seen (resI g a b) (pIn (b.hi - b.lo).toNat (u.i.toNat + 1) 0) (LsS.run ⟨u.g, u.a, u.b, u.w, u.i, 0#64⟩).w
    rw [u2, u3, u4, ← ofNat_self u.i]
    rw [ofNat_self]
    rw [ofNat_self] at this
    exact this) 24 ⟨g, a, b, ⟨t64, 0#64⟩, 0#64⟩ ⟨h0, rfl, rfl, rfl, ⟨fun i k h => absurd h (by unfold pIn; show ¬ (k ≤ _ ∧ (i < (0#64 : W).toNat ∨ (i = (0#64 : W).toNat ∧ k < 0))); have z : (0#64 : W).toNat = 0 := rfl; omega), .inl ⟨fun i k h => absurd h (by unfold pIn; show ¬ (k ≤ _ ∧ (i < (0#64 : W).toNat ∨ (i = (0#64 : W).toNat ∧ k < 0))); have z : (0#64 : W).toNat = 0 := rfl; omega), rfl⟩⟩⟩
  have hdn := runN_done (go := LoS.go) (next := LoS.nxt) (inv := LoS.inv) (μ := LoS.mu) LoS.dec 24 _ h0 (by unfold LoS.mu; show (a.hi - a.lo).toNat + 1 - (0#64 : W).toNat ≤ 24; omega)
  obtain ⟨u1, u2, u3, u4, u6⟩ := hi
  have hu1 := u1.2.2
  rw [LoS.go, leU, decide_eq_false_iff_not] at hdn
  rw [u3] at hdn hu1
  refine seen_same u6 (fun x y => ?_)
  unfold pIn
  omega
end

/-- What is told is from the least to the greatest result. -/
theorem tight_want (h : Wd n t) (g : Gv) {op : W} (hop : tight op) (ma : mayS a = true) (mb : mayS b = true) (ha : a.hi.toNat ≤ t.toNat) (hb : b.hi.toNat ≤ t.toNat)
    (hr : ∀ X Y, memS a X → memS b Y → oneR g.op g.w X Y = one' op X Y n t) {w : Sp}
    (hw : Seen (resI g a b) (fun x y => x ≤ (a.hi - a.lo).toNat ∧ y ≤ (b.hi - b.lo).toNat) w) : core op a b n t = w := by
  have la := mayS_iff.1 ma
  have lb := mayS_iff.1 mb
  have sa := sub_nat ma
  have sb := sub_nat mb
  have i1 := a.hi.isLt
  have i2 := b.hi.isLt
  have ix : ∀ (x y : Nat), x ≤ (a.hi - a.lo).toNat ∧ y ≤ (b.hi - b.lo).toNat → memS a (a.lo + BitVec.ofNat 64 x) ∧ memS b (b.lo + BitVec.ofNat 64 y) := fun x y hxy => by
    have e1 : (a.lo + BitVec.ofNat 64 x).toNat = a.lo.toNat + x := by rw [BitVec.toNat_add, ofNat_toNat (by omega)]; omega
    have e2 : (b.lo + BitVec.ofNat 64 y).toNat = b.lo.toNat + y := by rw [BitVec.toNat_add, ofNat_toNat (by omega)]; omega
    unfold memS
    rw [e1, e2]; omega
  have back : ∀ X Y, memS a X → memS b Y → ∃ x y, (x ≤ (a.hi - a.lo).toNat ∧ y ≤ (b.hi - b.lo).toNat) ∧ resI g a b x y = one' op X Y n t := fun X Y hX hY => by
    refine ⟨X.toNat - a.lo.toNat, Y.toNat - b.lo.toNat, by have := hX.1; have := hX.2; have := hY.1; have := hY.2; omega, ?_⟩
    have e1 : a.lo + BitVec.ofNat 64 (X.toNat - a.lo.toNat) = X := BitVec.eq_of_toNat_eq (by
      have := hX.1
      have := X.isLt
      rw [BitVec.toNat_add, ofNat_toNat (by omega)]; omega)
    have e2 : b.lo + BitVec.ofNat 64 (Y.toNat - b.lo.toNat) = Y := BitVec.eq_of_toNat_eq (by
      have := hY.1
      have := Y.isLt
      rw [BitVec.toNat_add, ofNat_toNat (by omega)]; omega)
    unfold resI
    rw [e1, e2]
    exact hr X Y hX hY
  obtain ⟨w1, w2⟩ := hw
  obtain ⟨⟨X, Y, hX, hY, e⟩, ⟨X', Y', hX', hY', e'⟩⟩ := core_att h hop ma mb ha hb
  obtain ⟨x, y, hxy, q⟩ := back X Y hX hY
  obtain ⟨x', y', hxy', q'⟩ := back X' Y' hX' hY'
  have f1 := (w1 x y hxy).1
  have f2 := (w1 x' y' hxy').2
  have ok : ∀ x y, x ≤ (a.hi - a.lo).toNat ∧ y ≤ (b.hi - b.lo).toNat → (core op a b n t).lo.toNat ≤ (resI g a b x y).toNat ∧ (resI g a b x y).toNat ≤ (core op a b n t).hi.toNat := fun x y hxy => by
    obtain ⟨m1, m2⟩ := ix x y hxy
    have := (core_ok h (tight_op hop) ma mb ha hb m1 m2).1
    unfold resI
    rw [hr _ _ m1 m2]
    exact this
  rcases w2 with ⟨z, _⟩ | ⟨⟨u, v, p1, p2⟩, ⟨u', v', p3, p4⟩⟩
  · exact absurd hxy (z x y)
  · have g1 := (ok u v p1).1
    have g2 := (ok u' v' p3).2
    rw [← p2] at g1
    rw [← p4] at g2
    have e1 : (core op a b n t).lo = w.lo := by
      rw [q] at f1
      have e3 : (core op a b n t).lo = one' op X Y n t := e
      rw [← e3] at f1
      exact BitVec.eq_of_toNat_eq (by omega)
    have e2 : (core op a b n t).hi = w.hi := by
      rw [q'] at f2
      have e3 : (core op a b n t).hi = one' op X' Y' n t := e'
      rw [← e3] at f2
      exact BitVec.eq_of_toNat_eq (by omega)
    show (⟨(core op a b n t).lo, (core op a b n t).hi⟩ : Sp) = ⟨w.lo, w.hi⟩
    rw [e1, e2]
end Go.Rf
