/- Scalars: settling, plain. -/
import Derived.Test.YtigiedlngfkfbaaGreatPP
import Derived.Test.YtigiedlngfkfbaaGreatTT
set_option linter.unusedVariables false
set_option linter.unusedSimpArgs false
namespace Go.Rf

/-- Loops that only return. -/
theorem good_end {σ : Type} {go : σ → Bool} {next : σ → σ} {inv : σ → Prop} {μ : σ → Nat} {step : σ → Rd σ} {rt : σ → σ} (hn : ∀ s, inv s → go s = true → inv (next s) ∧ μ (next s) < μ s)
    (h1 : ∀ s, inv s → go s = true → (step s).sel = .norm (next s)) (h2 : ∀ s, inv s → go s = false → (step s).sel = .ret (rt s)) :
    ∀ s, inv s → Good inv μ (fun s => .ret (rt (runN go next (μ s) s))) s (step s).sel := by
  intro s hi
  cases hg : go s with
  | true =>
    rw [h1 s hi hg]
    obtain ⟨a, b⟩ := hn s hi hg
    refine ⟨a, b, ?_⟩
    have e1 : runN go next (μ (next s)) (next s) = runN go next (μ s) s := by
      rw [← runN_ge hn (μ s) (next s) a (by omega), runN_same hn hi (Nat.le_refl _) hg]
    simp only [e1]
  | false =>
    rw [h2 s hi hg]
    show (Rd.sel _) = _
    simp only [Rd.sel, runN_stop hg]

abbrev Tn := T.Tn
structure Sc where
  t : Tn
  s : Sp

def fSc : FCod Sc := FCod.agg2 T.fTn fSp Sc.mk Sc.t Sc.s (fun _ _ => rfl) (fun _ _ => rfl)
def cSc : Cod Sc := fSc.one
def eSc (c : Sc) : AV := cSc.enc c
def eTn (t : Tn) : AV := T.eTn t
def Sc.mux (c : Bool) (x y : Sc) : Sc := ⟨T.Tn.mux c x.t y.t, Sp.mux c x.s y.s⟩
def nilC : Sc := ⟨T.nil, nilS⟩
def eqC (a b : Sc) : Bool := (T.eqT a.t b.t) && eqS a.s b.s

structure StS where
  t : Tn
  s : Sp
  r : Sc
  ok : Bool

def hull (t : Tn) : Sp := ⟨t.v, t.v ||| t.m⟩
def StS.n1 (s : StS) : Bool := noMeetS s.s (hull s.t)
def StS.ends (s : StS) : Sp := Sp.mux s.n1 nilS (meetS s.s (hull s.t))
noncomputable def StS.rng (s : StS) : Tn := T.Tn.mux (T.badRg s.ends.lo s.ends.hi) T.nil (T.rgT s.ends.lo s.ends.hi)
noncomputable def StS.n2 (s : StS) : Bool := T.noMeet s.t s.rng
noncomputable def StS.bits (s : StS) : Tn := T.Tn.mux s.n2 T.nil (T.tMeet s.t s.rng)
noncomputable def StS.same (s : StS) : Bool := eqS s.ends s.s && T.eqT s.bits s.t
def StS.none (s : StS) : StS := ⟨s.t, s.s, nilC, false⟩
def StS.all (s : StS) : StS := ⟨s.t, s.s, ⟨s.t, s.s⟩, true⟩
noncomputable def StS.nxt (s : StS) : StS := ⟨s.bits, s.ends, s.r, s.ok⟩
noncomputable def StS.step (s : StS) : Rd StS := .br (!ynS s.n1) (.ret s.none) (.br (!ynS s.n2) (.ret s.none) (.br s.same (.ret s.all) (.norm s.nxt)))
noncomputable def StS.go (s : StS) : Bool := !s.n1 && !s.n2 && !s.same
noncomputable def StS.no (s : StS) : Bool := s.n1 || s.n2
noncomputable def StS.rt (s : StS) : StS := ⟨s.t, s.s, Sc.mux s.no nilC ⟨s.t, s.s⟩, !s.no⟩
def StS.inv (s : StS) : Prop := T.may s.t = true ∧ mayS s.s = true
noncomputable def StS.mu (s : StS) : Nat := 2 * T.ones s.t.m + (if eqS s.ends s.s = true then 0 else 1)

theorem eqS_iff {a b : Sp} : eqS a b = true ↔ a = b := by
  unfold eqS
  rw [Bool.and_eq_true, beq_iff_eq, beq_iff_eq]
  constructor
  · rintro ⟨h1, h2⟩
    show (⟨a.lo, a.hi⟩ : Sp) = ⟨b.lo, b.hi⟩
    rw [h1, h2]
  · intro h; rw [h]; exact ⟨rfl, rfl⟩
theorem eqT_iff {a b : Tn} : T.eqT a b = true ↔ a = b := by
  unfold T.eqT
  rw [Bool.and_eq_true, beq_iff_eq, beq_iff_eq]
  constructor
  · rintro ⟨h1, h2⟩; exact T.Tn.ext' h1 h2
  · intro h; rw [h]; exact ⟨rfl, rfl⟩
theorem eqC_iff {a b : Sc} : eqC a b = true ↔ a = b := by
  unfold eqC
  rw [Bool.and_eq_true, eqS_iff, eqT_iff]
  constructor
  · rintro ⟨h1, h2⟩
    show (⟨a.t, a.s⟩ : Sc) = ⟨b.t, b.s⟩
    rw [h1, h2]
  · intro h; rw [h]; exact ⟨rfl, rfl⟩

theorem sb_le {x y : W} (h : T.Sb x y) : x.toNat ≤ y.toNat := by
  have := T.Sb.mod h 64
  rwa [Nat.mod_eq_of_lt x.isLt, Nat.mod_eq_of_lt y.isLt] at this

theorem hull_may {t : Tn} (h : T.may t = true) : mayS (hull t) = true := by
  rw [mayS_iff]
  show t.v.toNat ≤ (t.v ||| t.m).toNat
  rw [BitVec.toNat_or]
  exact Nat.left_le_or
theorem hull_mem {t : Tn} {x : W} (h : T.Mem t x) : memS (hull t) x := ⟨sb_le h.lo, sb_le h.hi⟩

theorem meetS_mem {a b : Sp} {x : W} : memS (meetS a b) x ↔ memS a x ∧ memS b x := by
  unfold memS
  have l : (meetS a b).lo.toNat = max a.lo.toNat b.lo.toNat := maxU_nat _ _
  have h : (meetS a b).hi.toNat = min a.hi.toNat b.hi.toNat := minU_nat _ _
  rw [l, h]; omega
theorem noMeetS_false {a b : Sp} (ha : mayS a = true) (hb : mayS b = true) : noMeetS a b = false ↔ mayS (meetS a b) = true := by
  unfold noMeetS
  rw [ha, hb]
  simp

/-! How many bits: fewer. -/
theorem sumN_le {f g : Nat → Nat} : ∀ n, (∀ i, i < n → f i ≤ g i) → T.sumN n f ≤ T.sumN n g
  | 0, _ => Nat.le_refl _
  | n + 1, h => by
    have := sumN_le n (fun i hi => h i (by omega))
    have := h n (by omega)
    simp only [T.sumN]; omega
theorem sumN_lt {f g : Nat → Nat} : ∀ n, (∀ i, i < n → f i ≤ g i) → ∀ k, k < n → f k < g k → T.sumN n f < T.sumN n g
  | 0, _, k, hk, _ => by omega
  | n + 1, h, k, hk, hlt => by
    simp only [T.sumN]
    by_cases e : k = n
    · subst e
      have := sumN_le k (fun i hi => h i (by omega))
      omega
    · have := sumN_lt n (fun i hi => h i (by omega)) k (by omega) hlt
      have := h n (by omega)
      omega
theorem ones_lt {x y : W} (h : ∀ i, i < 64 → x.getLsbD i = true → y.getLsbD i = true) (hne : x ≠ y) : T.ones x < T.ones y := by
  have hex : ∃ k, k < 64 ∧ x.getLsbD k ≠ y.getLsbD k := by
    by_cases e : ∃ k, k < 64 ∧ x.getLsbD k ≠ y.getLsbD k
    · exact e
    · exfalso
      apply hne
      apply BitVec.eq_of_getLsbD_eq
      intro i hi
      by_cases h2 : x.getLsbD i = y.getLsbD i
      · exact h2
      · exact absurd ⟨i, hi, h2⟩ e
  obtain ⟨k, hk, hd⟩ := hex
  refine sumN_lt 64 (fun i hi => ?_) k hk ?_
  · cases hx : x.getLsbD i with
    | false => simp
    | true => rw [h i hi hx]; exact Nat.le_refl _
  · cases hx : x.getLsbD k with
    | true => exact absurd (by rw [hx, h k hk hx]) hd
    | false =>
      cases hy : y.getLsbD k with
      | true => decide
      | false => rw [hx, hy] at hd; exact absurd rfl hd

variable {s : StS}
theorem StS.ends_eq (h1 : s.n1 = false) : s.ends = meetS s.s (hull s.t) := by unfold StS.ends; rw [h1]; rfl
theorem StS.ends_may (h : s.inv) (h1 : s.n1 = false) : mayS s.ends = true := by
  rw [StS.ends_eq h1]
  exact (noMeetS_false h.2 (hull_may h.1)).1 h1
theorem StS.rng_eq (h : s.inv) (h1 : s.n1 = false) : s.rng = T.rgT s.ends.lo s.ends.hi := by
  have hm := mayS_iff.1 (StS.ends_may h h1)
  have : T.badRg s.ends.lo s.ends.hi = false := by
    show ltB .u64 s.ends.hi s.ends.lo = false
    rw [ltU, decide_eq_false_iff_not]; omega
  unfold StS.rng
  rw [this]; rfl
theorem rg_may (lo hi : W) (h : lo.toNat ≤ hi.toNat) : T.may (T.rgT lo hi) = true := (T.rg_mem (x := lo) (Nat.le_refl _) h).may
theorem StS.bits_eq (h2 : s.n2 = false) : s.bits = T.tMeet s.t s.rng := by unfold StS.bits; rw [h2]; rfl
theorem StS.rng_may (h : s.inv) (h1 : s.n1 = false) : T.may s.rng = true := by
  rw [StS.rng_eq h h1]
  exact rg_may _ _ (mayS_iff.1 (StS.ends_may h h1))

/-- What both hold stays. -/
theorem StS.keep (h : s.inv) (h1 : s.n1 = false) (h2 : s.n2 = false) (x : W) : T.Mem s.bits x ∧ memS s.ends x ↔ T.Mem s.t x ∧ memS s.s x := by
  have hr := StS.rng_eq h h1
  rw [StS.bits_eq h2, T.meet_mem h.1 (StS.rng_may h h1) h2, hr, StS.ends_eq h1]
  constructor
  · rintro ⟨⟨a, b⟩, c⟩
    exact ⟨a, (meetS_mem.1 c).1⟩
  · rintro ⟨a, c⟩
    have e : memS (meetS s.s (hull s.t)) x := meetS_mem.2 ⟨c, hull_mem a⟩
    exact ⟨⟨a, T.rg_mem e.1 e.2⟩, e⟩
/-- Where nothing is told, nothing is held by both. -/
theorem StS.lost (h : s.inv) (hn : s.no = true) (x : W) : ¬(T.Mem s.t x ∧ memS s.s x) := by
  rintro ⟨a, c⟩
  have e : memS (meetS s.s (hull s.t)) x := meetS_mem.2 ⟨c, hull_mem a⟩
  have h1 : s.n1 = false := (noMeetS_false h.2 (hull_may h.1)).2 (mayS_iff.2 (Nat.le_trans e.1 e.2))
  have hr := StS.rng_eq h h1
  have e' : memS s.ends x := by rw [StS.ends_eq h1]; exact e
  have : s.n2 = false := T.no_meet_mem h.1 (StS.rng_may h h1) a (by rw [hr]; exact T.rg_mem e'.1 e'.2)
  unfold StS.no at hn
  rw [h1, this] at hn
  cases hn

theorem meet_m {a b : Tn} : (T.tMeet a b).m = a.m &&& b.m := rfl
/-- The bits that may be any are the same: so is the tnum. -/
theorem meet_same_m {a b : Tn} (ha : T.may a = true) (hb : T.may b = true) (hn : T.noMeet a b = false) (hm : a.m &&& b.m = a.m) : T.tMeet a b = a := by
  refine T.tn_ext fun j hj => ?_
  rw [(T.meet_v a b j hj).1, (T.meet_v a b j hj).2]
  have h1 := congrArg (fun z : W => z.getLsbD j) hm
  simp only [BitVec.getLsbD_and] at h1
  have h2 := (T.noMeet_iff ha hb).1 hn j hj
  have h3 := T.may_bit ha j
  have h4 := T.may_bit hb j
  revert h1 h2 h3 h4
  cases a.m.getLsbD j <;> cases a.v.getLsbD j <;> cases b.m.getLsbD j <;> cases b.v.getLsbD j <;> decide

theorem StS.dec (s : StS) (h : s.inv) (hg : s.go = true) : s.nxt.inv ∧ s.nxt.mu < s.mu := by
  simp only [StS.go, Bool.and_eq_true, Bool.not_eq_true'] at hg
  obtain ⟨⟨h1, h2⟩, h3⟩ := hg
  have hm := StS.ends_may h h1
  have hb : T.may s.bits = true := by rw [StS.bits_eq h2]; exact T.may_fit _ _
  refine ⟨⟨hb, hm⟩, ?_⟩
  have hsub : ∀ i, i < 64 → s.bits.m.getLsbD i = true → s.t.m.getLsbD i = true := by
    intro i _
    rw [StS.bits_eq h2, meet_m, BitVec.getLsbD_and, Bool.and_eq_true]
    exact fun h => h.1
  by_cases e : s.bits.m = s.t.m
  · have eb : s.bits = s.t := by
      rw [StS.bits_eq h2]
      rw [StS.bits_eq h2, meet_m] at e
      exact meet_same_m h.1 (StS.rng_may h h1) h2 e
    have hne : eqS s.ends s.s ≠ true := by
      intro e2
      unfold StS.same at h3
      rw [e2, eqT_iff.2 eb] at h3
      cases h3
    have hnx : s.nxt.ends = s.ends := by
      have n1 : s.nxt.n1 = false := by
        show noMeetS s.ends (hull s.bits) = false
        rw [noMeetS_false hm (hull_may hb), eb, mayS_iff]
        have hle := mayS_iff.1 hm
        have hl : (meetS s.ends (hull s.t)).lo.toNat = max s.ends.lo.toNat (hull s.t).lo.toNat := maxU_nat _ _
        have hh : (meetS s.ends (hull s.t)).hi.toNat = min s.ends.hi.toNat (hull s.t).hi.toNat := minU_nat _ _
        have hl2 : s.ends.lo.toNat = max s.s.lo.toNat (hull s.t).lo.toNat := by rw [StS.ends_eq h1]; exact maxU_nat _ _
        have hh2 : s.ends.hi.toNat = min s.s.hi.toNat (hull s.t).hi.toNat := by rw [StS.ends_eq h1]; exact minU_nat _ _
        omega
      rw [StS.ends_eq n1]
      show meetS s.ends (hull s.bits) = s.ends
      rw [eb]
      have hl : (meetS s.ends (hull s.t)).lo.toNat = max s.ends.lo.toNat (hull s.t).lo.toNat := maxU_nat _ _
      have hh : (meetS s.ends (hull s.t)).hi.toNat = min s.ends.hi.toNat (hull s.t).hi.toNat := minU_nat _ _
      have hl2 : s.ends.lo.toNat = max s.s.lo.toNat (hull s.t).lo.toNat := by rw [StS.ends_eq h1]; exact maxU_nat _ _
      have hh2 : s.ends.hi.toNat = min s.s.hi.toNat (hull s.t).hi.toNat := by rw [StS.ends_eq h1]; exact minU_nat _ _
      have a1 : (meetS s.ends (hull s.t)).lo = s.ends.lo := BitVec.eq_of_toNat_eq (by omega)
      have a2 : (meetS s.ends (hull s.t)).hi = s.ends.hi := BitVec.eq_of_toNat_eq (by omega)
      show (⟨(meetS s.ends (hull s.t)).lo, (meetS s.ends (hull s.t)).hi⟩ : Sp) = ⟨s.ends.lo, s.ends.hi⟩
      rw [a1, a2]
    have m1 : s.nxt.mu = 2 * T.ones s.t.m := by
      unfold StS.mu
      rw [hnx]
      show 2 * T.ones s.bits.m + (if eqS s.ends s.ends = true then 0 else 1) = _
      rw [eqS_self, e]; rfl
    have m2 : s.mu = 2 * T.ones s.t.m + 1 := by
      unfold StS.mu
      rw [if_neg hne]
    omega
  · have := ones_lt hsub e
    have m1 : s.nxt.mu ≤ 2 * T.ones s.bits.m + 1 := by
      unfold StS.mu
      show 2 * T.ones s.bits.m + _ ≤ _
      split <;> omega
    have m2 : 2 * T.ones s.t.m ≤ s.mu := by unfold StS.mu; omega
    omega

noncomputable def StS.run (s : StS) : StS := runN StS.go StS.nxt s.mu s
noncomputable def StS.T (s : StS) : Rd StS := .ret s.run.rt
theorem StS.good : ∀ s, StS.inv s → Good StS.inv StS.mu StS.T s s.step.sel := by
  refine good_end (go := StS.go) (next := StS.nxt) (rt := StS.rt) StS.dec ?_ ?_
  · intro s hi hg
    simp only [StS.go, Bool.and_eq_true, Bool.not_eq_true'] at hg
    simp only [StS.step, Rd.sel, ynS, hg.1.1, hg.1.2, hg.2]
    rfl
  · intro s hi hg
    unfold StS.step StS.rt StS.no
    cases h1 : s.n1 with
    | true => simp only [Rd.sel, ynS, cond_true, Bool.not_false, if_true]; rfl
    | false =>
      cases h2 : s.n2 with
      | true => simp only [Rd.sel, ynS, cond_true, cond_false, Bool.not_false, Bool.not_true, Bool.false_eq_true, if_true, if_false]; rfl
      | false =>
        have h3 : s.same = true := by
          unfold StS.go at hg
          rw [h1, h2] at hg
          simpa using hg
        simp only [Rd.sel, ynS, cond_false, Bool.not_true, Bool.false_eq_true, if_false, h3, if_true]; rfl

/-! What is settled. -/
noncomputable def setEnd (t : Tn) (s : Sp) : StS := StS.run ⟨t, s, nilC, false⟩
def setBad (t : Tn) (s : Sp) : Bool := !T.may t || !mayS s
noncomputable def setR (t : Tn) (s : Sp) : Sc := Sc.mux (setBad t s) nilC (setEnd t s).rt.r
noncomputable def setOk (t : Tn) (s : Sp) : Bool := bif setBad t s then false else (setEnd t s).rt.ok

theorem setEnd_spec {t : Tn} {s : Sp} (ht : T.may t = true) (hs : mayS s = true) :
    (setEnd t s).inv ∧ (setEnd t s).go = false ∧ ∀ x, T.Mem (setEnd t s).t x ∧ memS (setEnd t s).s x ↔ T.Mem t x ∧ memS s x := by
  have h0 : (⟨t, s, nilC, false⟩ : StS).inv := ⟨ht, hs⟩
  have hd := runN_done (go := StS.go) (next := StS.nxt) (inv := StS.inv) (μ := StS.mu) StS.dec _ _ h0 (Nat.le_refl _)
  have hi := runN_inv (go := StS.go) (next := StS.nxt) (fun u => u.inv ∧ ∀ x, T.Mem u.t x ∧ memS u.s x ↔ T.Mem t x ∧ memS s x) (fun u hu hg => by
    refine ⟨(StS.dec u hu.1 hg).1, fun x => ?_⟩
    simp only [StS.go, Bool.and_eq_true, Bool.not_eq_true'] at hg
    rw [← hu.2 x]
    exact StS.keep hu.1 hg.1.1 hg.1.2 x) (StS.mu ⟨t, s, nilC, false⟩) ⟨t, s, nilC, false⟩ ⟨h0, fun x => Iff.rfl⟩
  exact ⟨hi.1, hd, hi.2⟩

/-- A state that stops with something stops at once. -/
theorem stop_same {t : Tn} {s : Sp} (ht : T.may t = true) (hs : mayS s = true) (h : (⟨t, s, nilC, false⟩ : StS).go = false) : setEnd t s = ⟨t, s, nilC, false⟩ := by
  unfold setEnd StS.run
  rw [runN_stop h]

theorem go_any (t : Tn) (s : Sp) (r r' : Sc) (b b' : Bool) : (⟨t, s, r, b⟩ : StS).go = (⟨t, s, r', b'⟩ : StS).go ∧ (⟨t, s, r, b⟩ : StS).no = (⟨t, s, r', b'⟩ : StS).no := ⟨rfl, rfl⟩

theorem settle_ok {t : Tn} {s : Sp} (h : setOk t s = true) :
    T.may t = true ∧ mayS s = true ∧ T.may (setR t s).t = true ∧ mayS (setR t s).s = true ∧ (∀ x, T.Mem (setR t s).t x ∧ memS (setR t s).s x ↔ T.Mem t x ∧ memS s x) ∧
    setOk (setR t s).t (setR t s).s = true ∧ setR (setR t s).t (setR t s).s = setR t s := by
  unfold setOk at h
  cases hb : setBad t s with
  | true => rw [hb] at h; cases h
  | false =>
    rw [hb] at h
    have hb' := hb
    unfold setBad at hb'
    simp only [Bool.or_eq_false_iff, Bool.not_eq_false'] at hb'
    obtain ⟨ht, hs⟩ := hb'
    obtain ⟨k1, k2, k3⟩ := setEnd_spec ht hs
    have hno : (setEnd t s).no = false := by
      have h' : (!(setEnd t s).no) = true := h
      simpa using h'
    have er : setR t s = ⟨(setEnd t s).t, (setEnd t s).s⟩ := by
      unfold setR
      rw [hb]
      show Sc.mux (setEnd t s).no nilC ⟨(setEnd t s).t, (setEnd t s).s⟩ = _
      rw [hno]; rfl
    have e2 : setEnd (setEnd t s).t (setEnd t s).s = ⟨(setEnd t s).t, (setEnd t s).s, nilC, false⟩ := stop_same k1.1 k1.2 (by rw [(go_any _ _ nilC (setEnd t s).r false (setEnd t s).ok).1]; exact k2)
    have hb2 : setBad (setEnd t s).t (setEnd t s).s = false := by unfold setBad; rw [k1.1, k1.2]; rfl
    have hno2 : (⟨(setEnd t s).t, (setEnd t s).s, nilC, false⟩ : StS).no = false := by rw [(go_any _ _ nilC (setEnd t s).r false (setEnd t s).ok).2]; exact hno
    rw [er]
    refine ⟨ht, hs, k1.1, k1.2, k3, ?_, ?_⟩
    · unfold setOk
      rw [hb2, e2]
      show (!(⟨(setEnd t s).t, (setEnd t s).s, nilC, false⟩ : StS).no) = true
      rw [hno2]; rfl
    · unfold setR
      rw [hb2, e2]
      show Sc.mux (⟨(setEnd t s).t, (setEnd t s).s, nilC, false⟩ : StS).no nilC ⟨(setEnd t s).t, (setEnd t s).s⟩ = _
      rw [hno2]; rfl

theorem settle_no {t : Tn} {s : Sp} (h : setOk t s = false) : setR t s = nilC ∧ ∀ x, ¬(T.Mem t x ∧ memS s x) := by
  unfold setOk at h
  cases hb : setBad t s with
  | true =>
    refine ⟨by unfold setR; rw [hb]; rfl, ?_⟩
    rintro x ⟨h1, h2⟩
    unfold setBad at hb
    rw [h1.may, mayS_iff.2 (Nat.le_trans h2.1 h2.2)] at hb
    cases hb
  | false =>
    rw [hb] at h
    have hb' := hb
    unfold setBad at hb'
    simp only [Bool.or_eq_false_iff, Bool.not_eq_false'] at hb'
    obtain ⟨ht, hs⟩ := hb'
    obtain ⟨k1, k2, k3⟩ := setEnd_spec ht hs
    have hno : (setEnd t s).no = true := by
      have h' : (!(setEnd t s).no) = false := h
      simpa using h'
    refine ⟨?_, fun x hx => StS.lost k1 hno x ((k3 x).2 hx)⟩
    unfold setR
    rw [hb]
    show Sc.mux (setEnd t s).no nilC ⟨(setEnd t s).t, (setEnd t s).s⟩ = _
    rw [hno]; rfl
end Go.Rf
