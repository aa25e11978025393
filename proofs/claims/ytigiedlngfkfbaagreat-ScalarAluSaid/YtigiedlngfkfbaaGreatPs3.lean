/- Scalars: being in is an order. -/
import Derived.Test.YtigiedlngfkfbaaGreatPs2
set_option linter.unusedVariables false
set_option linter.unusedSimpArgs false
namespace Go.Rf

/-- One pair within another. -/
def leP (t : Tn) (s : Sp) (t' : Tn) (s' : Sp) : Prop := T.isIn t t' = true ∧ inS s s' = true

theorem isIn_may {a b : Tn} (h : T.isIn a b = true) : T.may a = true ∧ T.may b = true := by
  unfold T.isIn T.has at h
  simp only [Bool.and_eq_true] at h
  exact ⟨h.1.1, h.1.2.1⟩
theorem isIn_trans {a b c : Tn} (h1 : T.isIn a b = true) (h2 : T.isIn b c = true) : T.isIn a c = true := T.in_trans (isIn_may h1).1 (isIn_may h1).2 h1 h2
theorem inS_trans {a b c : Sp} (h1 : inS a b = true) (h2 : inS b c = true) : inS a c = true := by
  rw [inS_iff] at *
  have x1 := h1.2.1
  have x2 := h1.2.2
  have x3 := h2.2.1
  have x4 := h2.2.2
  exact ⟨h1.1, by omega, by omega⟩
theorem leP_trans {t : Tn} {s : Sp} {t' : Tn} {s' : Sp} {t'' : Tn} {s'' : Sp} (h1 : leP t s t' s') (h2 : leP t' s' t'' s'') : leP t s t'' s'' := ⟨isIn_trans h1.1 h2.1, inS_trans h1.2 h2.2⟩
theorem isIn_mem {a b : Tn} (h : T.isIn a b = true) {x : W} (hx : T.Mem a x) : T.Mem b x := by
  have hb := (T.isIn_iff (isIn_may h).1).1 h
  rw [T.mem_iff_bits] at hx ⊢
  intro i hi
  have h1 := hb i hi
  have h2 := hx i hi
  revert h1 h2
  unfold T.inB
  cases a.m.getLsbD i <;> cases a.v.getLsbD i <;> cases b.m.getLsbD i <;> cases b.v.getLsbD i <;> cases x.getLsbD i <;> decide
theorem inS_mem {a b : Sp} (h : inS a b = true) {x : W} (hx : memS a x) : memS b x := (inS_iff.1 h).2.mem hx
theorem inS_self {a : Sp} (h : mayS a = true) : inS a a = true := inS_iff.2 ⟨h, Nat.le_refl _, Nat.le_refl _⟩

theorem hull_in {t u : Tn} (h : T.isIn t u = true) : inS (hull t) (hull u) = true := by
  obtain ⟨h1, h2⟩ := isIn_may h
  have a := hull_mem (isIn_mem h (T.may_mem h1))
  have b := hull_mem (isIn_mem h (T.has_iff.1 (T.hi_mem h1)))
  exact inS_iff.2 ⟨hull_may h1, a.1, b.2⟩
theorem rg_in {lo hi lo' hi' : W} (h1 : lo'.toNat ≤ lo.toNat) (h2 : lo.toNat ≤ hi.toNat) (h3 : hi.toNat ≤ hi'.toNat) : T.isIn (T.rgT lo hi) (T.rgT lo' hi') = true := by
  rw [T.isIn_iff (rg_may _ _ h2)]
  intro i hi6
  rw [(T.rgT_bits lo hi i hi6).1, (T.rgT_bits lo hi i hi6).2, (T.rgT_bits lo' hi' i hi6).1, (T.rgT_bits lo' hi' i hi6).2]
  have q1 : lo'.toNat / 2 ^ i ≤ lo.toNat / 2 ^ i := Nat.div_le_div_right h1
  have q2 : lo.toNat / 2 ^ i ≤ hi.toNat / 2 ^ i := Nat.div_le_div_right h2
  have q3 : hi.toNat / 2 ^ i ≤ hi'.toNat / 2 ^ i := Nat.div_le_div_right h3
  cases e : T.unl lo' hi' i with
  | true => cases T.unl lo hi i <;> cases lo.getLsbD i <;> rfl
  | false =>
    have e1 := T.unl_false.1 e
    have e2 : T.unl lo hi i = false := T.unl_false.2 (by omega)
    have e3 : lo.getLsbD i = lo'.getLsbD i := by
      rw [T.bit_eq_div, T.bit_eq_div, show lo.toNat / 2 ^ i = lo'.toNat / 2 ^ i by omega]
    rw [e2, e3]
    cases lo'.getLsbD i <;> rfl

/-- A state that nothing can sharpen. -/
def Still (t : Tn) (s : Sp) : Prop := T.may t = true ∧ mayS s = true ∧ (⟨t, s, nilC, false⟩ : StS).n1 = false ∧ (⟨t, s, nilC, false⟩ : StS).n2 = false ∧ (⟨t, s, nilC, false⟩ : StS).ends = s ∧ (⟨t, s, nilC, false⟩ : StS).bits = t

theorem still_of_end {u : StS} (hi : u.inv) (hg : u.go = false) (hn : u.no = false) : Still u.t u.s := by
  unfold StS.no at hn
  rw [Bool.or_eq_false_iff] at hn
  have hs : u.same = true := by
    unfold StS.go at hg
    rw [hn.1, hn.2] at hg
    simpa using hg
  unfold StS.same at hs
  rw [Bool.and_eq_true, eqS_iff, eqT_iff] at hs
  exact ⟨hi.1, hi.2, hn.1, hn.2, hs.1, hs.2⟩

theorem still_mayC {c : Sc} (h : mayC c = true) : Still c.t c.s := by
  obtain ⟨h1, h2⟩ := mayC_iff.1 h
  obtain ⟨a, b, _⟩ := settle_ok h1
  obtain ⟨k1, k2, _⟩ := setEnd_spec a b
  have hb : setBad c.t c.s = false := by unfold setBad; rw [a, b]; rfl
  have hno : (setEnd c.t c.s).no = false := by
    unfold setOk at h1
    rw [hb] at h1
    have h' : (!(setEnd c.t c.s).no) = true := h1
    simpa using h'
  have er : setR c.t c.s = ⟨(setEnd c.t c.s).t, (setEnd c.t c.s).s⟩ := by
    unfold setR
    rw [hb]
    show Sc.mux (setEnd c.t c.s).no nilC ⟨(setEnd c.t c.s).t, (setEnd c.t c.s).s⟩ = _
    rw [hno]; rfl
  have hs := still_of_end k1 k2 hno
  rw [er] at h2
  have e1 : (setEnd c.t c.s).t = c.t := congrArg Sc.t h2
  have e2 : (setEnd c.t c.s).s = c.s := congrArg Sc.s h2
  rwa [e1, e2] at hs

/-- What is still stays within what is sharpened. -/
theorem still_step {t : Tn} {s : Sp} (h : Still t s) {u : StS} (hu : u.inv) (hle : leP t s u.t u.s) : u.n1 = false ∧ u.n2 = false ∧ leP t s u.bits u.ends := by
  obtain ⟨ht, hs, n1, n2, he, hb⟩ := h
  have hs1 : inS s (hull t) = true := by
    have e : meetS s (hull t) = s := by
      have := StS.ends_eq (s := (⟨t, s, nilC, false⟩ : StS)) n1
      rw [he] at this; exact this.symm
    have l : (meetS s (hull t)).lo.toNat = max s.lo.toNat (hull t).lo.toNat := maxU_nat _ _
    have hh : (meetS s (hull t)).hi.toNat = min s.hi.toNat (hull t).hi.toNat := minU_nat _ _
    rw [e] at l hh
    exact inS_iff.2 ⟨hs, by omega, by omega⟩
  have hs2 := inS_trans hs1 (hull_in hle.1)
  have i1 := inS_iff.1 hle.2
  have i2 := inS_iff.1 hs2
  have hm := mayS_iff.1 hs
  have l : (meetS u.s (hull u.t)).lo.toNat = max u.s.lo.toNat (hull u.t).lo.toNat := maxU_nat _ _
  have hh : (meetS u.s (hull u.t)).hi.toNat = min u.s.hi.toNat (hull u.t).hi.toNat := minU_nat _ _
  have x1 := i1.2.1
  have x2 := i1.2.2
  have x3 := i2.2.1
  have x4 := i2.2.2
  have m1 : u.n1 = false := (noMeetS_false hu.2 (hull_may hu.1)).2 (mayS_iff.2 (by omega))
  have hse : inS s u.ends = true := by
    rw [StS.ends_eq m1]
    exact inS_iff.2 ⟨hs, by omega, by omega⟩
  have y := inS_iff.1 hse
  have hrt : T.isIn t (T.rgT s.lo s.hi) = true := by
    have hinv : (⟨t, s, nilC, false⟩ : StS).inv := ⟨ht, hs⟩
    have r := StS.rng_eq hinv n1
    rw [he] at r
    have bq := StS.bits_eq (s := (⟨t, s, nilC, false⟩ : StS)) n2
    rw [hb, r] at bq
    have nm : T.noMeet t (T.rgT s.lo s.hi) = false := by
      have := n2
      unfold StS.n2 at this
      rw [r] at this; exact this
    have := (T.meet_l ht (rg_may _ _ hm) nm).2
    rw [← bq] at this; exact this
  have hrr : T.isIn t u.rng = true := by
    rw [StS.rng_eq hu m1]
    exact isIn_trans hrt (rg_in y.2.1 hm y.2.2)
  obtain ⟨g1, g2⟩ := T.meet_great hu.1 (StS.rng_may hu m1) ht hle.1 hrr
  refine ⟨m1, g1, ?_, hse⟩
  rw [StS.bits_eq g1]; exact g2

theorem still_settle {t : Tn} {s : Sp} (h : Still t s) {t' : Tn} {s' : Sp} (hle : leP t s t' s') : setOk t' s' = true ∧ leP t s (setR t' s').t (setR t' s').s := by
  have ht' := (isIn_may hle.1).2
  have hs' : mayS s' = true := by
    have := inS_iff.1 hle.2
    have m := mayS_iff.1 this.1
    have x1 := this.2.1
    have x2 := this.2.2
    exact mayS_iff.2 (by omega)
  obtain ⟨k1, k2, _⟩ := setEnd_spec ht' hs'
  have hi := runN_inv (go := StS.go) (next := StS.nxt) (fun u => u.inv ∧ leP t s u.t u.s) (fun u hu hg => ⟨(StS.dec u hu.1 hg).1, (still_step h hu.1 hu.2).2.2⟩) (StS.mu ⟨t', s', nilC, false⟩) ⟨t', s', nilC, false⟩ ⟨⟨ht', hs'⟩, hle⟩
  have he : leP t s (setEnd t' s').t (setEnd t' s').s := hi.2
  obtain ⟨n1, n2, _⟩ := still_step h k1 he
  have hno : (setEnd t' s').no = false := by unfold StS.no; rw [n1, n2]; rfl
  have hb : setBad t' s' = false := by unfold setBad; rw [ht', hs']; rfl
  have er : setR t' s' = ⟨(setEnd t' s').t, (setEnd t' s').s⟩ := by
    unfold setR
    rw [hb]
    show Sc.mux (setEnd t' s').no nilC ⟨(setEnd t' s').t, (setEnd t' s').s⟩ = _
    rw [hno]; rfl
  refine ⟨?_, ?_⟩
  · unfold setOk
    rw [hb]
    show (!(setEnd t' s').no) = true
    rw [hno]; rfl
  · rw [er]; exact he

/-- Settled, it is within what was. -/
theorem settle_in {t : Tn} {s : Sp} (h : setOk t s = true) : leP (setR t s).t (setR t s).s t s := by
  obtain ⟨ht, hs, h3, h4, _⟩ := settle_ok h
  have hi := runN_inv (go := StS.go) (next := StS.nxt) (fun u => u.inv ∧ leP u.t u.s t s) (fun u hu hg => by
    have hg' := hg
    simp only [StS.go, Bool.and_eq_true, Bool.not_eq_true'] at hg'
    refine ⟨(StS.dec u hu.1 hg).1, leP_trans ⟨?_, ?_⟩ hu.2⟩
    · show T.isIn u.bits u.t = true
      rw [StS.bits_eq hg'.1.2]
      exact (T.meet_l hu.1.1 (StS.rng_may hu.1 hg'.1.1) hg'.1.2).1
    · show inS u.ends u.s = true
      have hm := StS.ends_may hu.1 hg'.1.1
      rw [StS.ends_eq hg'.1.1] at hm ⊢
      have l : (meetS u.s (hull u.t)).lo.toNat = max u.s.lo.toNat (hull u.t).lo.toNat := maxU_nat _ _
      have hh : (meetS u.s (hull u.t)).hi.toNat = min u.s.hi.toNat (hull u.t).hi.toNat := minU_nat _ _
      exact inS_iff.2 ⟨hm, by omega, by omega⟩) (StS.mu ⟨t, s, nilC, false⟩) ⟨t, s, nilC, false⟩ ⟨⟨ht, hs⟩, T.in_refl ht, inS_self hs⟩
  have hb : setBad t s = false := by unfold setBad; rw [ht, hs]; rfl
  have hno : (setEnd t s).no = false := by
    unfold setOk at h
    rw [hb] at h
    have h' : (!(setEnd t s).no) = true := h
    simpa using h'
  have er : setR t s = ⟨(setEnd t s).t, (setEnd t s).s⟩ := by
    unfold setR
    rw [hb]
    show Sc.mux (setEnd t s).no nilC ⟨(setEnd t s).t, (setEnd t s).s⟩ = _
    rw [hno]; rfl
  rw [er]
  exact hi.2

theorem inC_iff {a b : Sc} : inC a b = true ↔ mayC a = true ∧ mayC b = true ∧ leP a.t a.s b.t b.s := by
  unfold inC leP
  simp only [Bool.and_eq_true]
  exact ⟨fun h => ⟨h.1.1.1, h.1.1.2, h.1.2, h.2⟩, fun h => ⟨⟨⟨h.1, h.2.1⟩, h.2.2.1⟩, h.2.2.2⟩⟩
theorem mayC_parts {a : Sc} (h : mayC a = true) : T.may a.t = true ∧ mayS a.s = true := ⟨(still_mayC h).1, (still_mayC h).2.1⟩
theorem all_may : mayC allC = true := by kernel_rfl
theorem leP_self {a : Sc} (h : mayC a = true) : leP a.t a.s a.t a.s := ⟨T.in_refl (mayC_parts h).1, inS_self (mayC_parts h).2⟩

theorem joinS_least {a b c : Sp} (ma : mayS a = true) (mb : mayS b = true) (h1 : inS a c = true) (h2 : inS b c = true) : inS (joinS a b) c = true := by
  obtain ⟨u1, u2⟩ := join_both ma mb
  have x := inS_iff.1 h1
  have y := inS_iff.1 h2
  have x1 := x.2.1
  have x2 := x.2.2
  have y1 := y.2.1
  have y2 := y.2.2
  have m := mayS_iff.1 ma
  exact inS_iff.2 ⟨mayS_iff.2 (by omega), by omega, by omega⟩
theorem joinS_in {a b : Sp} (ma : mayS a = true) (mb : mayS b = true) : inS a (joinS a b) = true ∧ inS b (joinS a b) = true := by
  obtain ⟨u1, u2⟩ := join_both ma mb
  exact ⟨inS_iff.2 ⟨ma, by omega, by omega⟩, inS_iff.2 ⟨mb, by omega, by omega⟩⟩

/-! ### ScalarOrder -/
noncomputable def orderA (a b c : Sc) (n : W) : Bool :=
  !inC a a || !inC a allC || (inC a b && inC b a && !eqC a b) || (inC a b && inC b c && !inC a c) || (inC a b && hasC a n && !hasC b n)
noncomputable def orderJ (a b c : Sc) : Bool := joinCE a b != 0#64 || !inC a (joinCR a b) || !inC b (joinCR a b) || (inC a c && inC b c && !inC (joinCR a b) c)
noncomputable def orderM (a b : Sc) (n : W) : Bool := (meetCB a b && hasC (meetC a b) n) == (hasC a n && hasC b n) && (!meetCB a b || (inC (meetC a b) a && inC (meetC a b) b))
noncomputable def orderC (a b c : Sc) (n : W) : Bool :=
  bif !mayC a || !mayC b || !mayC c then mayC a || (!inC a a && !hasC a n)
  else bif orderA a b c n then false else bif orderJ a b c then false else orderM a b n

theorem orderA_no {a b c : Sc} (ha : mayC a = true) (hb : mayC b = true) (hc : mayC c = true) (n : W) : orderA a b c n = false := by
  have r1 : inC a a = true := inC_iff.2 ⟨ha, ha, leP_self ha⟩
  have r2 : inC a allC = true := inC_iff.2 ⟨ha, all_may, T.in_all (mayC_parts ha).1, inS_iff.2 ⟨(mayC_parts ha).2, Nat.zero_le _, le64' _⟩⟩
  have r3 : (inC a b && inC b a && !eqC a b) = false := by
    cases h1 : inC a b with
    | false => rfl
    | true =>
      cases h2 : inC b a with
      | false => rfl
      | true =>
        obtain ⟨_, _, p1, p2⟩ := inC_iff.1 h1
        obtain ⟨_, _, q1, q2⟩ := inC_iff.1 h2
        have et := eqT_iff.1 (T.in_anti (mayC_parts ha).1 (mayC_parts hb).1 p1 q1)
        have x := (inS_iff.1 p2).2
        have y := (inS_iff.1 q2).2
        have x1 := x.1
        have x2 := x.2
        have y1 := y.1
        have y2 := y.2
        have es : a.s = b.s := by
          have e1 : a.s.lo = b.s.lo := BitVec.eq_of_toNat_eq (by omega)
          have e2 : a.s.hi = b.s.hi := BitVec.eq_of_toNat_eq (by omega)
          show (⟨a.s.lo, a.s.hi⟩ : Sp) = ⟨b.s.lo, b.s.hi⟩
          rw [e1, e2]
        have : a = b := by
          show (⟨a.t, a.s⟩ : Sc) = ⟨b.t, b.s⟩
          rw [et, es]
        rw [eqC_iff.2 this]; rfl
  have r4 : (inC a b && inC b c && !inC a c) = false := by
    cases h1 : inC a b with
    | false => rfl
    | true =>
      cases h2 : inC b c with
      | false => rfl
      | true =>
        have : inC a c = true := inC_iff.2 ⟨ha, hc, leP_trans (inC_iff.1 h1).2.2 (inC_iff.1 h2).2.2⟩
        rw [this]; rfl
  have r5 : (inC a b && hasC a n && !hasC b n) = false := by
    cases h1 : inC a b with
    | false => rfl
    | true =>
      cases h2 : hasC a n with
      | false => rfl
      | true =>
        have l := (inC_iff.1 h1).2.2
        have m := (hasC_iff.1 h2).2
        have : hasC b n = true := hasC_iff.2 ⟨hb, isIn_mem l.1 m.1, inS_mem l.2 m.2⟩
        rw [this]; rfl
  unfold orderA
  rw [r1, r2, r3, r4, r5]; rfl

theorem bad_false {a b : Sc} (ha : mayC a = true) (hb : mayC b = true) : badC a b = false := by unfold badC; rw [ha, hb]; rfl
theorem joinR_eq {a b : Tn} (ha : T.may a = true) (hb : T.may b = true) : T.joinR a b = T.tJoin a b := by
  unfold T.joinR
  rw [T.bad2_false ha hb]; rfl

theorem join_facts {a b : Sc} (ha : mayC a = true) (hb : mayC b = true) : inC a (joinCR a b) = true ∧ inC b (joinCR a b) = true ∧ (∀ c, inC a c = true → inC b c = true → inC (joinCR a b) c = true) := by
  obtain ⟨ta, sa⟩ := mayC_parts ha
  obtain ⟨tb, sb⟩ := mayC_parts hb
  have e : joinCR a b = setR (T.tJoin a.t b.t) (joinS a.s b.s) := by
    unfold joinCR joinC
    rw [bad_false ha hb, joinR_eq ta tb]; rfl
  have la : leP a.t a.s (T.tJoin a.t b.t) (joinS a.s b.s) := ⟨T.in_join_l ta tb, (joinS_in sa sb).1⟩
  have lb : leP b.t b.s (T.tJoin a.t b.t) (joinS a.s b.s) := ⟨T.in_join_r ta tb, (joinS_in sa sb).2⟩
  obtain ⟨o1, o2⟩ := still_settle (still_mayC ha) la
  obtain ⟨_, o3⟩ := still_settle (still_mayC hb) lb
  have mj := (settled o1).1
  rw [e]
  refine ⟨inC_iff.2 ⟨ha, mj, o2⟩, inC_iff.2 ⟨hb, mj, o3⟩, fun c h1 h2 => ?_⟩
  obtain ⟨_, hc, p1, p2⟩ := inC_iff.1 h1
  obtain ⟨_, _, q1, q2⟩ := inC_iff.1 h2
  exact inC_iff.2 ⟨mj, hc, leP_trans (settle_in o1) ⟨T.join_least ta tb p1 q1, joinS_least sa sb p2 q2⟩⟩

theorem orderJ_no {a b c : Sc} (ha : mayC a = true) (hb : mayC b = true) : orderJ a b c = false := by
  obtain ⟨j1, j2, j3⟩ := join_facts ha hb
  have e : joinCE a b = 0#64 := by unfold joinCE; rw [bad_false ha hb]; rfl
  have r : (inC a c && inC b c && !inC (joinCR a b) c) = false := by
    cases h1 : inC a c with
    | false => rfl
    | true =>
      cases h2 : inC b c with
      | false => rfl
      | true => rw [j3 c h1 h2]; rfl
  unfold orderJ
  rw [e, j1, j2, r]; rfl

theorem meet_facts {a b : Sc} (ha : mayC a = true) (hb : mayC b = true) :
    (meetCB a b = true → mayC (meetC a b) = true ∧ inC (meetC a b) a = true ∧ inC (meetC a b) b = true ∧ ∀ n, MemC (meetC a b) n ↔ MemC a n ∧ MemC b n) ∧
    (meetCB a b = false → ∀ n, ¬(MemC a n ∧ MemC b n)) := by
  obtain ⟨ta, sa⟩ := mayC_parts ha
  obtain ⟨tb, sb⟩ := mayC_parts hb
  have hbd := bad_false ha hb
  have em : meetC a b = Sc.mux (noC a b) nilC (setR (T.meetR a.t b.t) (meetM a.s b.s)) := by unfold meetC; rw [hbd]; rfl
  have eb : meetCB a b = bif noC a b then false else setOk (T.meetR a.t b.t) (meetM a.s b.s) := by unfold meetCB; rw [hbd]; rfl
  rw [em, eb]
  cases hn : noC a b with
  | true =>
    refine ⟨fun h => (by cases h), fun _ n => ?_⟩
    rintro ⟨⟨m1, m2⟩, m3, m4⟩
    have x1 : T.noMeet a.t b.t = false := T.no_meet_mem ta tb m1 m3
    have m5 := meetS_mem.2 ⟨m2, m4⟩
    have x2 : noMeetS a.s b.s = false := (noMeetS_false sa sb).2 (mayS_iff.2 (Nat.le_trans m5.1 m5.2))
    unfold noC at hn
    rw [x1, x2] at hn
    cases hn
  | false =>
    have hn' := hn
    unfold noC ynS at hn'
    have x1 : T.noMeet a.t b.t = false := by
      cases e : T.noMeet a.t b.t with
      | false => rfl
      | true => rw [e] at hn'; cases hn'
    have x2 : noMeetS a.s b.s = false := by
      cases e : noMeetS a.s b.s with
      | false => rfl
      | true => rw [e, x1] at hn'; cases hn'
    have e1 : T.meetR a.t b.t = T.tMeet a.t b.t := by unfold T.meetR; rw [x1]; rfl
    have e2 : meetM a.s b.s = meetS a.s b.s := by unfold meetM; rw [x2]; rfl
    rw [e1, e2]
    have mem : ∀ n, T.Mem (T.tMeet a.t b.t) n ∧ memS (meetS a.s b.s) n ↔ MemC a n ∧ MemC b n := fun n => by
      rw [T.meet_mem ta tb x1, meetS_mem]
      exact ⟨fun h => ⟨⟨h.1.1, h.2.1⟩, h.1.2, h.2.2⟩, fun h => ⟨⟨h.1.1, h.2.1⟩, h.1.2, h.2.2⟩⟩
    refine ⟨fun hok => ?_, fun hok n hx => (settle_no hok).2 n ((mem n).2 hx)⟩
    have hok' : setOk (T.tMeet a.t b.t) (meetS a.s b.s) = true := hok
    obtain ⟨k1, k2⟩ := settled hok'
    have li := settle_in hok'
    obtain ⟨i1, i2⟩ := T.meet_l ta tb x1
    have mm := (noMeetS_false sa sb).1 x2
    have l : (meetS a.s b.s).lo.toNat = max a.s.lo.toNat b.s.lo.toNat := maxU_nat _ _
    have hh : (meetS a.s b.s).hi.toNat = min a.s.hi.toNat b.s.hi.toNat := minU_nat _ _
    have s1 : inS (meetS a.s b.s) a.s = true := inS_iff.2 ⟨mm, by omega, by omega⟩
    have s2 : inS (meetS a.s b.s) b.s = true := inS_iff.2 ⟨mm, by omega, by omega⟩
    show mayC (setR (T.tMeet a.t b.t) (meetS a.s b.s)) = true ∧ _
    refine ⟨k1, inC_iff.2 ⟨k1, ha, leP_trans li ⟨i1, s1⟩⟩, inC_iff.2 ⟨k1, hb, leP_trans li ⟨i2, s2⟩⟩, fun n => ?_⟩
    show MemC (setR (T.tMeet a.t b.t) (meetS a.s b.s)) n ↔ _
    rw [k2 n]; exact mem n

theorem orderM_yes {a b : Sc} (ha : mayC a = true) (hb : mayC b = true) (n : W) : orderM a b n = true := by
  obtain ⟨f1, f2⟩ := meet_facts ha hb
  unfold orderM
  cases hm : meetCB a b with
  | true =>
    obtain ⟨k1, k2, k3, k4⟩ := f1 hm
    have : hasC (meetC a b) n = (hasC a n && hasC b n) := by
      rw [Bool.eq_iff_iff, Bool.and_eq_true, hasC_iff, hasC_iff, hasC_iff, k4 n]
      exact ⟨fun h => ⟨⟨ha, h.2.1⟩, hb, h.2.2⟩, fun h => ⟨k1, h.1.2, h.2.2⟩⟩
    rw [this, k2, k3]; simp
  | false =>
    have : (hasC a n && hasC b n) = false := by
      cases h1 : hasC a n with
      | false => rfl
      | true =>
        cases h2 : hasC b n with
        | false => rfl
        | true => exact absurd ⟨(hasC_iff.1 h1).2, (hasC_iff.1 h2).2⟩ (f2 hm n)
    rw [this]; rfl

theorem orderC_true (a b c : Sc) (n : W) : orderC a b c n = true := by
  unfold orderC
  cases ha : mayC a with
  | false =>
    have h1 : inC a a = false := by
      cases h : inC a a with
      | false => rfl
      | true => rw [(inC_iff.1 h).1] at ha; cases ha
    have h2 : hasC a n = false := by
      cases h : hasC a n with
      | false => rfl
      | true => rw [(hasC_iff.1 h).1] at ha; cases ha
    rw [h1, h2]; rfl
  | true =>
    cases hb : mayC b with
    | false => rfl
    | true =>
      cases hc : mayC c with
      | false => rfl
      | true =>
        show (bif orderA a b c n then false else bif orderJ a b c then false else orderM a b n) = true
        rw [orderA_no ha hb hc n, orderJ_no ha hb, orderM_yes ha hb n]; rfl
end Go.Rf
