/- Scalars: what a condition tells is the document's. -/
import Derived.Test.YtigiedlngfkfbaaSe5
set_option linter.unusedVariables false
set_option linter.unusedSimpArgs false
set_option maxRecDepth 100000
namespace Go.Rf
open Go.Proofs

theorem setR_bad {t : Tn} {s : Sp} (h : mayS s = false) : setR t s = nilC ∧ setOk t s = false := by
  have hb : setBad t s = true := by unfold setBad; rw [h]; simp
  unfold setR setOk
  rw [hb]
  exact ⟨rfl, rfl⟩
theorem wd_yes {a : Sc} {m n : W} {u : Sp} (ha : mayS a.s = true) (hmn : mayS ⟨m, n⟩ = true) (hu : meetS a.s ⟨m, n⟩ = u) : wd a m n = setR a.t u ∧ wdB a m n = setOk a.t u := by
  unfold wd wdB
  cases h : mayS u with
  | true =>
    have hn : noMeetS a.s ⟨m, n⟩ = false := by rw [noMeetS_false ha hmn, hu]; exact h
    rw [hn, hu]
    exact ⟨rfl, rfl⟩
  | false =>
    have hn : noMeetS a.s ⟨m, n⟩ = true := by unfold noMeetS; rw [hu, h]; simp
    rw [hn]
    obtain ⟨h1, h2⟩ := setR_bad (t := a.t) h
    rw [h1, h2]
    exact ⟨rfl, rfl⟩
theorem wd_lo {a : Sc} (ha : mayS a.s = true) (m : W) : wd a m mx64 = setR a.t (abL a m) ∧ wdB a m mx64 = setOk a.t (abL a m) := by
  refine wd_yes ha ?_ ?_
  · show leB .u64 m mx64 = true
    rw [leU]; have := m.isLt; simp [mx64]; omega
  · unfold meetS abL
    congr 1
    unfold minU
    have : ltB .u64 mx64 a.s.hi = false := by rw [ltU]; have := a.s.hi.isLt; simp [mx64]; omega
    rw [this]; rfl
theorem wd_hi {b : Sc} (hb : mayS b.s = true) (n : W) : wd b 0#64 n = setR b.t (abH b n) ∧ wdB b 0#64 n = setOk b.t (abH b n) := by
  refine wd_yes hb ?_ ?_
  · show leB .u64 0#64 n = true
    rw [leU]; simp
  · unfold meetS abH
    congr 1
theorem bne_of {x y : W} (h : x ≠ y) : (x == y) = false := by simpa using h
theorem succ_ne (x : W) : (x + 1#64 == x) = false := by
  apply bne_of
  intro h
  have := congrArg BitVec.toNat h
  rw [BitVec.toNat_add] at this
  have hx := x.isLt
  simp at this
  omega
theorem pred_ne (x : W) : (x - 1#64 == x) = false := by
  apply bne_of
  intro h
  have := congrArg BitVec.toNat h
  rw [BitVec.toNat_sub] at this
  have hx := x.isLt
  simp at this
  omega
theorem wo_same {a : Sc} (ha : mayS a.s = true) (n : W) : woD a n = woP a n ∧ woDB a n = woPB a n := by
  have hle : a.s.lo.toNat ≤ a.s.hi.toNat := by
    have : leB .u64 a.s.lo a.s.hi = true := ha
    rw [leU, decide_eq_true_eq] at this
    exact this
  unfold woD woP woDB woPB
  by_cases h1 : a.s.lo = n
  · have e1 : (a.s.lo == n) = true := by simpa using h1
    by_cases h2 : a.s.hi = n
    · have e2 : (a.s.hi == n) = true := by simpa using h2
      have e3 : (a.s.lo == a.s.hi) = true := by rw [h1, h2]; simp
      rw [e1, e2]
      unfold wi wiB
      rw [succ_ne, e3]
      exact ⟨rfl, rfl⟩
    · have e2 : (a.s.hi == n) = false := bne_of h2
      have e3 : (a.s.lo == a.s.hi) = false := bne_of (by rw [h1]; exact fun h => h2 h.symm)
      rw [e1, e2]
      unfold wi wiB
      rw [succ_ne, e3]
      have hlt : n.toNat < a.s.hi.toNat := by
        rw [h1] at hle
        rcases Nat.lt_or_ge n.toNat a.s.hi.toNat with h | h
        · exact h
        · exact absurd (BitVec.eq_of_toNat_eq (by omega)).symm h2
      have hs : (n + 1#64).toNat = n.toNat + 1 := succ_nat (by have := a.s.hi.isLt; omega)
      have key := wd_yes (a := a) (m := n + 1#64) (n := a.s.hi) (u := ⟨a.s.lo + 1#64, a.s.hi⟩) ha (by show leB .u64 (n + 1#64) a.s.hi = true; rw [leU, hs]; simp; omega) (by
        unfold meetS maxU minU
        rw [h1]
        have q1 : ltB .u64 n (n + 1#64) = true := by rw [ltU, hs]; simp
        have q2 : ltB .u64 a.s.hi a.s.hi = false := by rw [ltU]; simp
        rw [q1, q2]; rfl)
      exact key
  · have e1 : (a.s.lo == n) = false := bne_of h1
    by_cases h2 : a.s.hi = n
    · have e2 : (a.s.hi == n) = true := by simpa using h2
      have e3 : (a.s.lo == a.s.hi) = false := bne_of (by rw [h2]; exact h1)
      have e4 : (a.s.lo == a.s.lo) = true := by simp
      rw [e1, e2]
      unfold wi wiB
      rw [pred_ne, e3, e4]
      have hlt : a.s.lo.toNat < n.toNat := by
        rw [h2] at hle
        rcases Nat.lt_or_ge a.s.lo.toNat n.toNat with h | h
        · exact h
        · exact absurd (BitVec.eq_of_toNat_eq (by omega)) h1
      have hs : (n - 1#64).toNat = n.toNat - 1 := by
        rw [BitVec.toNat_sub]; have := n.isLt; simp; omega
      have key := wd_yes (a := a) (m := a.s.lo) (n := n - 1#64) (u := ⟨a.s.lo, a.s.hi - 1#64⟩) ha (by show leB .u64 a.s.lo (n - 1#64) = true; rw [leU, hs]; simp; omega) (by
        unfold meetS maxU minU
        rw [h2]
        have q1 : ltB .u64 (n - 1#64) n = true := by rw [ltU, hs]; simp; omega
        have q2 : ltB .u64 a.s.lo a.s.lo = false := by rw [ltU]; simp
        rw [q1, q2]; rfl)
      exact key
    · have e2 : (a.s.hi == n) = false := bne_of h2
      rw [e1, e2]
      unfold wi wiB
      have e4 : (a.s.lo == a.s.lo) = true := by simp
      have e5 : (a.s.hi == a.s.hi) = true := by simp
      rw [e4, e5]
      exact ⟨rfl, rfl⟩
theorem eq_same (a b : Sc) : eqD a b = eqG a b := by
  show one3 (meetC a b) (meetCB a b) (meetC a b) = both3 (meetC a b) (meetCB a b) (meetC a b) (meetCB a b)
  unfold one3 both3
  rw [Bool.or_self]
theorem ne_same {a b : Sc} (ha : mayS a.s = true) (hb : mayS b.s = true) : neD a b = neG a b := by
  unfold neD neG
  rw [(wo_same ha _).1, (wo_same ha _).2, (wo_same hb _).1, (wo_same hb _).2]
  have e1 : ∀ (x : Sc) (ok : Bool) (y : Sc), one3 x ok y = both3 x ok y true := by
    intro x ok y; unfold one3 both3; simp
  have e2 : ∀ (x : Sc) (ok : Bool) (y : Sc), one3 x ok y = both3 x true y ok := by
    intro x ok y; unfold one3 both3; simp
  rw [e1, e2]
  rfl
theorem gt_same {a b : Sc} (ha : mayS a.s = true) (hb : mayS b.s = true) : gtD a b = gtG a b := by
  unfold gtD gtG above
  rw [(wd_lo ha _).1, (wd_lo ha _).2, (wd_hi hb _).1, (wd_hi hb _).2]
  rfl
theorem ge_same {a b : Sc} (ha : mayS a.s = true) (hb : mayS b.s = true) : geD a b = geG a b := by
  unfold geD geG above
  rw [(wd_lo ha _).1, (wd_lo ha _).2, (wd_hi hb _).1, (wd_hi hb _).2]
theorem bad_k {k : W} (hk : condPE k true = 0#64) {a b : Sc} (ha : mayC a = true) (hb : mayC b = true) : badR k true a b = false := by
  unfold badR; rw [hk, ha, hb]; rfl
theorem both_swap (x y : Sc) (p q : Bool) : (both3 x p y q).swap = both3 y q x p := by
  unfold both3 R3.swap R3.mux
  rw [Bool.or_comm]
  cases (!q || !p) <;> rfl
theorem mux_false (p q : R3) : R3.mux false p q = q := by cases q; rfl
theorem mux_true (p q : R3) : R3.mux true p q = p := by cases p; rfl
theorem mux_swap (c : Bool) (p q : R3) : (R3.mux c p q).swap = R3.mux c p.swap q.swap := by cases c <;> rfl
theorem none_swap : R3.none.swap = R3.none := rfl
theorem lt_same {a b : Sc} (ha : mayC a = true) (hb : mayC b = true) (sa : mayS a.s = true) (sb : mayS b.s = true) : ltD a b = ltG a b := by
  unfold ltD ltG
  rw [bad_k (by decide) hb ha, (wd_lo sb _).1, (wd_lo sb _).2, (wd_hi sa _).1, (wd_hi sa _).2, mux_false]
  unfold gtG above
  rw [mux_swap, none_swap, both_swap]
  unfold mx64
  rfl
theorem le_same {a b : Sc} (ha : mayC a = true) (hb : mayC b = true) (sa : mayS a.s = true) (sb : mayS b.s = true) : leD a b = leG a b := by
  unfold leD leG
  rw [bad_k (by decide) hb ha, (wd_lo sb _).1, (wd_lo sb _).2, (wd_hi sa _).1, (wd_hi sa _).2, mux_false]
  unfold geG above
  rw [both_swap]
theorem set_same (a b : Sc) : setD a b = setG a b := by
  unfold setD setG one3
  have : (!ltB .u64 0#64 ((a.t.v ||| a.t.m) &&& (b.t.v ||| b.t.m))) = (((a.t.v ||| a.t.m) &&& (b.t.v ||| b.t.m)) == 0#64) := by
    generalize ((a.t.v ||| a.t.m) &&& (b.t.v ||| b.t.m)) = x
    rw [ltU]
    by_cases h : x = 0#64
    · subst h; decide
    · rw [bne_of h]
      have : x.toNat ≠ 0 := fun e => h (BitVec.eq_of_toNat_eq e)
      simp; omega
  rw [this]; rfl
theorem sub_and (x y : W) : x - (x &&& y) = x &&& ~~~y := by
  have h : (x &&& ~~~y) + (x &&& y) = x := by
    rw [BitVec.add_eq_or_of_and_eq_zero]
    · ext i hi
      simp
      cases x[i] <;> cases y[i] <;> rfl
    · ext i hi
      simp
      intro _ h _
      exact h
  have h2 : x - (x &&& y) = ((x &&& ~~~y) + (x &&& y)) - (x &&& y) := by rw [h]
  rw [h2, BitVec.add_sub_cancel]
theorem ns_same (a b : Sc) : nsD a b = nsG a b := by
  unfold nsD nsG
  have e : nsTD a b = nsT a b := by unfold nsTD nsT; rw [sub_and]
  rw [e]
  have e1 : ∀ (x : Sc) (ok : Bool) (y : Sc), one3 x ok y = both3 x ok y true := by
    intro x ok y; unfold one3 both3; simp
  rw [e1, e1]
  have q : ((a.t.v &&& b.t.v) != 0#64) = !nsQ a b := rfl
  rw [q]
  cases nsQ a b <;> cases single b <;> rfl

theorem signR_eq (w : Bool) (a b : Sc) : signR w a b = sgD w (mostV a b) := by
  unfold signR sgD
  cases w with
  | true => simp
  | false =>
    have : leB .u64 9223372036854775808#64 (mostV a b) = true → leB .u64 2147483648#64 (mostV a b) = true := by
      rw [leU, leU, decide_eq_true_eq, decide_eq_true_eq]
      intro h
      have e1 : (9223372036854775808#64 : W).toNat = 9223372036854775808 := by decide
      have e2 : (2147483648#64 : W).toNat = 2147483648 := by decide
      omega
    cases h : leB .u64 9223372036854775808#64 (mostV a b) with
    | true => simp [this h]
    | false => simp
/-- The condition, or its opposite. -/
noncomputable def refDg (m : W) (op : W) (w : Bool) (a b : Sc) : R3 := chain op [(1#64, eqG a b), (5#64, neG a b), (2#64, gtG a b), (3#64, geG a b), (10#64, ltG a b), (11#64, leG a b),
  (6#64, R3.mux (sgD w m) (R3.keep a b) (gtG a b)), (7#64, R3.mux (sgD w m) (R3.keep a b) (geG a b)), (12#64, R3.mux (sgD w m) (R3.keep a b) (ltG a b)), (13#64, R3.mux (sgD w m) (R3.keep a b) (leG a b)), (4#64, setG a b)] (nsG a b)
theorem refDm_eq {a b : Sc} (ha : mayC a = true) (hb : mayC b = true) (m op : W) (w : Bool) : refDm m op w a b = R3.mux (!w && leB .u64 4294967296#64 m) (R3.keep a b) (refDg m op w a b) := by
  obtain ⟨_, sa⟩ := mayC_parts ha
  obtain ⟨_, sb⟩ := mayC_parts hb
  unfold refDm refDg
  rw [eq_same, ne_same sa sb, gt_same sa sb, ge_same sa sb, lt_same ha hb sa sb, le_same ha hb sa sb, set_same, ns_same]
theorem refDg_eq (w : Bool) (a b : Sc) (op : W) : refDg (mostV a b) op w a b = refG op w a b := by
  unfold refDg refG
  rw [signR_eq]
theorem go_same {k o1 o2 : W} (w : Bool) (a b : Sc) (hE : ∀ w, condPE k w = 0#64) (ho : refG o1 w a b = refG o2 w a b) (P D : R3)
    (hP : P = R3.mux (badR k w a b) R3.none (R3.mux (wideR w a b) (R3.keep a b) (refG o1 w a b)))
    (hD : D = R3.mux (!mayC a || !mayC b) R3.none (R3.mux (ltB .u64 a.s.hi b.s.hi) (refDm b.s.hi o2 w a b) (refDm a.s.hi o2 w a b))) : D = P := by
  subst hP hD
  have hbad : badR k w a b = (!mayC a || !mayC b) := by unfold badR; rw [hE]; rfl
  rw [hbad]
  cases ha : mayC a with
  | false => rw [show (!false || !mayC b) = true from rfl, mux_true, mux_true]
  | true =>
    cases hb : mayC b with
    | false => rw [show (!true || !false) = true from rfl, mux_true, mux_true]
    | true =>
      rw [show (!true || !true) = false from rfl, mux_false, mux_false, refDm_eq ha hb, refDm_eq ha hb]
      unfold wideR
      cases h : ltB .u64 a.s.hi b.s.hi with
      | true =>
        have hm : mostV a b = b.s.hi := by unfold mostV; rw [h]; rfl
        rw [mux_true, ← hm, refDg_eq, ho]
      | false =>
        have hm : mostV a b = a.s.hi := by unfold mostV; rw [h]; rfl
        rw [mux_false, ← hm, refDg_eq, ho]
theorem ref_same {k : W} (w : Bool) (a b : Sc) (h : Bool) (hE : ∀ w, condPE k w = 0#64) (ho : ∀ h, refG (bif h then k else notP k) w a b = refG (bif h then k else oppD k) w a b) : refD k w a b h = refP k w a b h :=
  go_same w a b hE (ho h) _ _ rfl rfl
end Go.Rf
