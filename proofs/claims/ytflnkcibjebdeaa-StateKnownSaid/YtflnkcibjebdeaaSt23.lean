/- States: plain laws of registers and slots. -/
import Derived.Test.YtflnkcibjebdeaaSt7
import Derived.Test.YtflnkcibjebdeaaPs3
set_option linter.unusedVariables false
set_option linter.unusedSimpArgs false
namespace Go.Rf

theorem leI_self (x : W) : leB .i64 x x = true := by rw [leI]; simp
theorem leI_trans {x y z : W} (h1 : leB .i64 x y = true) (h2 : leB .i64 y z = true) : leB .i64 x z = true := by
  rw [leI, decide_eq_true_eq] at *; omega
theorem minI_le (x y : W) : leB .i64 (minI x y) x = true ∧ leB .i64 (minI x y) y = true := by
  unfold minI
  rw [ltI]
  by_cases h : y.toInt < x.toInt
  · rw [decide_eq_true h]; simp only [cond_true, leI, decide_eq_true_eq]; omega
  · rw [decide_eq_false h]; simp only [cond_false, leI, decide_eq_true_eq]; omega
theorem maxI_le (x y : W) : leB .i64 x (maxI x y) = true ∧ leB .i64 y (maxI x y) = true := by
  unfold maxI
  rw [ltI]
  by_cases h : x.toInt < y.toInt
  · rw [decide_eq_true h]; simp only [cond_true, leI, decide_eq_true_eq]; omega
  · rw [decide_eq_false h]; simp only [cond_false, leI, decide_eq_true_eq]; omega
theorem minI_pick (x y : W) : minI x y = x ∨ minI x y = y := by unfold minI; cases ltB .i64 y x <;> simp
theorem maxI_pick (x y : W) : maxI x y = x ∨ maxI x y = y := by unfold maxI; cases ltB .i64 x y <;> simp
theorem le_minI {x y z : W} (h1 : leB .i64 z x = true) (h2 : leB .i64 z y = true) : leB .i64 z (minI x y) = true := by
  rcases minI_pick x y with e | e <;> rw [e] <;> assumption
theorem maxI_le' {x y z : W} (h1 : leB .i64 x z = true) (h2 : leB .i64 y z = true) : leB .i64 (maxI x y) z = true := by
  rcases maxI_pick x y with e | e <;> rw [e] <;> assumption
theorem spread_join {k : B8} {ln : Bool} {m : W} {s : Sc} {lo hi lo' hi' : W} (h1 : spreadR ⟨k, ln, m, s, lo, hi⟩ = true) (h2 : spreadR ⟨k, ln, m, s, lo', hi'⟩ = true) : spreadR ⟨k, ln, m, s, minI lo lo', maxI hi hi'⟩ = true := by
  unfold spreadR at *
  simp only [Bool.and_eq_true] at *
  exact ⟨⟨le_minI h1.1.1 h2.1.1, leI_trans (minI_le lo lo').1 (leI_trans h1.1.2 (maxI_le hi hi').1)⟩, maxI_le' h1.2 h2.2⟩

theorem inC_self {s : Sc} (h : mayC s = true) : inC s s = true := inC_iff.2 ⟨h, h, leP_self h⟩
theorem inC_trans {a b c : Sc} (h1 : inC a b = true) (h2 : inC b c = true) : inC a c = true := by
  rw [inC_iff] at *
  exact ⟨h1.1, h2.2.1, leP_trans h1.2.2 h2.2.2⟩
theorem hasC_mono {a b : Sc} (h1 : inC a b = true) {n : W} (h2 : hasC a n = true) : hasC b n = true := by
  rw [inC_iff] at h1
  rw [hasC_iff] at *
  exact ⟨h1.2.1, isIn_mem h1.2.2.1 h2.2.1, inS_mem h1.2.2.2 h2.2.2⟩
theorem in_hi {a b : Sc} (h : inC a b = true) : a.s.hi.toNat ≤ b.s.hi.toNat := by
  have := inS_iff.1 (inC_iff.1 h).2.2.2
  exact this.2.2
theorem join_hi {a b : Sc} (ha : mayC a = true) (hb : mayC b = true) : (joinCR a b).s.hi.toNat ≤ max a.s.hi.toNat b.s.hi.toNat := by
  obtain ⟨ta, sa⟩ := mayC_parts ha
  obtain ⟨tb, sb⟩ := mayC_parts hb
  have e : joinCR a b = setR (T.tJoin a.t b.t) (joinS a.s b.s) := by
    unfold joinCR joinC
    rw [bad_false ha hb, joinR_eq ta tb]; rfl
  have la : leP a.t a.s (T.tJoin a.t b.t) (joinS a.s b.s) := ⟨T.in_join_l ta tb, (joinS_in sa sb).1⟩
  obtain ⟨o1, o2⟩ := still_settle (still_mayC ha) la
  rw [e]
  have h := (inS_iff.1 (settle_in o1).2).2.2
  obtain ⟨u1, u2⟩ := join_both sa sb
  omega
theorem all_in {s : Sc} (h : mayC s = true) : inC s allC = true := by
  refine inC_iff.2 ⟨h, all_may, ?_, ?_⟩
  · have := T.in_all (mayC_parts h).1
    exact this
  · refine inS_iff.2 ⟨(mayC_parts h).2, ?_, ?_⟩
    · show (0#64 : W).toNat ≤ _
      exact Nat.zero_le _
    · have := s.s.hi.isLt
      show _ ≤ (18446744073709551615#64 : W).toNat
      have e : (18446744073709551615#64 : W).toNat = 18446744073709551615 := rfl
      omega
theorem hi_zero {s : Sc} {n : W} (h0 : s.s.hi = 0#64) (h : hasC s n = true) : n = 0#64 := by
  have h2 := (hasC_iff.1 h).2.2.2
  rw [h0] at h2
  have z : (0#64 : W).toNat = 0 := rfl
  exact BitVec.eq_of_toNat_eq (by omega)

theorem inR_self {x : Reg} (h : RegOk x) : inR x x = true := by
  cases h with
  | num ln s hs hl => show (inC s s && (ln || !ln)) = true; rw [inC_self hs]; cases ln <;> rfl
  | _ => simp [inR, bne, leI_self]

theorem holds_in {x y : Reg} {v : Val} {pk : W} (hx : RegOk x) (hy : RegOk y) (hv : ValOk v) (h1 : holdsR x v pk = true) (h2 : inR x y = true) : holdsR y v pk = true := by
  cases hy with
  | none => rfl
  | num ln' s' hs' hl' =>
    cases hx <;> simp [inR, noughtR, firstR, bne] at h2
    rename_i ln s hs hl
    simp [holdsR, bne] at h1 ⊢
    refine ⟨h1.1, hasC_mono h2.1 h1.2.1, ?_⟩
    rcases h1.2.2 with h | h
    · rcases h2.2 with h' | h'
      · rw [h] at h'; cases h'
      · exact .inl h'
    · exact .inr h
  | maybe m' hm' =>
    cases hx <;> simp [inR, noughtR, firstR, bne] at h2
    · rename_i ln s hs hl
      simp [holdsR, bne] at h1 ⊢
      cases hv <;> simp at h1
      rename_i n
      have := hi_zero h2 h1.1
      subst this
      simp [eqVal]
    · rename_i m lo hi hm h
      obtain ⟨⟨rfl, rfl⟩, rfl⟩ := h2
      simp [holdsR, bne] at h1 ⊢
      have e : v.o = 0#64 := by
        have := eq0_le v.o
        rw [h1.2.1.2, h1.2.2] at this
        simpa using this.symm
      simp [h1.1, h1.2.1.1, e]
    · rename_i m hm
      obtain ⟨rfl, _⟩ := h2
      exact h1
  | _ =>
    cases hx <;> simp [inR, noughtR, firstR, bne] at h2
    all_goals simp [holdsR, bne] at h1 ⊢
    all_goals simp_all
    all_goals first
      | exact ⟨leI_trans h2.1 h1.2.1.2, leI_trans h1.2.2 h2.2⟩
      | exact ⟨leI_trans h2.2.1 h1.2.1.2, leI_trans h1.2.2 h2.2.2⟩

theorem le_hi {s s' : Sc} (h : s.s.hi.toNat ≤ s'.s.hi.toNat) (h0 : s'.s.hi = 0#64) : s.s.hi = 0#64 := by
  rw [h0] at h
  have z : (0#64 : W).toNat = 0 := rfl
  exact BitVec.eq_of_toNat_eq (by omega)

theorem inR_trans {x y z : Reg} (hx : RegOk x) (hy : RegOk y) (hz : RegOk z) (h1 : inR x y = true) (h2 : inR y z = true) : inR x z = true := by
  cases hz with
  | none => rfl
  | num ln'' s'' hs'' hl'' =>
    cases hy <;> simp [inR, noughtR, firstR, bne] at h2
    cases hx <;> simp [inR, noughtR, firstR, bne] at h1
    simp [inR, bne]
    refine ⟨inC_trans h1.1 h2.1, ?_⟩
    rcases h2.2 with h | h
    · rcases h1.2 with h' | h'
      · exact .inl h'
      · rw [h] at h'; cases h'
    · exact .inr h
  | maybe m'' hm'' =>
    cases hy <;> simp [inR, noughtR, firstR, bne] at h2
    · cases hx <;> simp [inR, noughtR, firstR, bne] at h1
      simp [inR, noughtR, firstR, bne]
      exact le_hi (in_hi h1.1) h2
    · obtain ⟨⟨rfl, rfl⟩, rfl⟩ := h2
      cases hx <;> simp [inR, noughtR, firstR, bne] at h1
      rename_i h m lo hi hm h'
      simp [inR, noughtR, firstR, bne]
      obtain ⟨rfl, h3, h4⟩ := h1
      unfold spreadR at h'
      simp only [Bool.and_eq_true] at h'
      have e1 : lo = 0#64 := by
        have := eq0_le lo
        rw [h3, leI_trans h'.1.2 h4] at this
        simpa using this.symm
      have e2 : hi = 0#64 := by
        have := eq0_le hi
        rw [h4, leI_trans h3 h'.1.2] at this
        simpa using this.symm
      exact ⟨⟨e1, e2⟩, rfl⟩
    · obtain ⟨rfl, _⟩ := h2
      exact h1
  | _ =>
    cases hy <;> simp [inR, noughtR, firstR, bne] at h2
    all_goals (cases hx <;> simp [inR, noughtR, firstR, bne] at h1)
    all_goals simp_all [inR, bne, le00]
    all_goals first
      | exact ⟨leI_trans h2.1 h1.1, leI_trans h1.2 h2.2⟩
      | exact ⟨leI_trans h2.2.1 h1.2.1, leI_trans h1.2.2 h2.2.2⟩

theorem joinR_ok {x y : Reg} (hx : RegOk x) (hy : RegOk y) : RegOk (joinR x y) := by
  have none' : RegOk ⟨0#8, false, 0#64, ⟨⟨0#64, 0#64⟩, ⟨0#64, 0#64⟩⟩, 0#64, 0#64⟩ := .none
  have may' : ∀ m, leB .i64 0#64 m = true → RegOk ⟨7#8, false, m, ⟨⟨0#64, 0#64⟩, ⟨0#64, 0#64⟩⟩, 0#64, 0#64⟩ := fun m h => .maybe m h
  by_cases hk : x.k = y.k
  · have hkb : (x.k != y.k) = false := by rw [hk]; simp
    unfold joinR
    simp only [hkb, cond_false]
    cases hx <;> cases hy <;> first | (exfalso; simp at hk; done) | skip
    · exact none'
    · rename_i ln s hs hl ln' s' hs' hl'
      have h := join_facts hs hs'
      refine .num _ _ (inC_iff.1 h.1).2.1 ?_
      have jh := join_hi hs hs'
      have e : (65535#64 : W).toNat = 65535 := rfl
      rw [leU, e] at hl hl' ⊢
      cases ln <;> cases ln' <;> simp at hl hl' ⊢
      show (joinCR s s').s.hi.toNat ≤ 65535
      omega
    · exact .ctx
    · rename_i lo hi h lo' hi' h'
      exact .pkt _ _ (spread_join h h')
    · rename_i lo hi h lo' hi' h'
      exact .frame _ _ (spread_join h h')
    · rename_i m hm m' hm'
      cases e : (m != m')
      · exact .ref m hm
      · exact none'
    · rename_i m lo hi hm h m' lo' hi' hm' h'
      cases e : (m != m')
      · exact .cell m _ _ hm (spread_join h h')
      · exact none'
    · rename_i m hm m' hm'
      cases e : (m != m')
      · exact .maybe m hm
      · exact none'
  · have hkb : (x.k != y.k) = true := by simpa [bne] using hk
    unfold joinR
    simp only [hkb, cond_true]
    cases e : maybeOk x y with
    | false => exact none'
    | true =>
      refine may' _ ?_
      unfold maybeM maybeOk at *
      cases b : maybeBad x y with
      | true => rw [b] at e; cases e
      | false =>
        cases hx <;> cases hy <;> first | exact le00 | assumption

theorem joinR_in {x y : Reg} (hx : RegOk x) (hy : RegOk y) : inR x (joinR x y) = true ∧ inR y (joinR x y) = true := by
  by_cases hk : x.k = y.k
  · have hkb : (x.k != y.k) = false := by rw [hk]; simp
    unfold joinR
    simp only [hkb, cond_false]
    cases hx <;> cases hy <;> first | (exfalso; simp at hk; done) | skip
    · exact ⟨rfl, rfl⟩
    · rename_i ln s hs hl ln' s' hs' hl'
      have h := join_facts hs hs'
      constructor
      · show (inC s (joinCR s s') && (ln || !(ln && ln'))) = true
        rw [h.1]; cases ln <;> cases ln' <;> rfl
      · show (inC s' (joinCR s s') && (ln' || !(ln && ln'))) = true
        rw [h.2.1]; cases ln <;> cases ln' <;> rfl
    · exact ⟨rfl, rfl⟩
    · rename_i lo hi h lo' hi' h'
      have a := minI_le lo lo'
      have b := maxI_le hi hi'
      constructor <;> simp [inR, bne, a, b]
    · rename_i lo hi h lo' hi' h'
      have a := minI_le lo lo'
      have b := maxI_le hi hi'
      constructor <;> simp [inR, bne, a, b]
    · rename_i m hm m' hm'
      by_cases e : m = m'
      · subst e; constructor <;> simp [inR, bne, minI, maxI, le00]
      · have e' : (m == m') = false := beq_eq_false_iff_ne.2 e
        constructor <;> simp [inR, bne, e']
    · rename_i m lo hi hm h m' lo' hi' hm' h'
      have a := minI_le lo lo'
      have b := maxI_le hi hi'
      by_cases e : m = m'
      · subst e; constructor <;> simp [inR, bne, a, b]
      · have e' : (m == m') = false := beq_eq_false_iff_ne.2 e
        constructor <;> simp [inR, bne, e']
    · rename_i m hm m' hm'
      by_cases e : m = m'
      · subst e; constructor <;> simp [inR, bne, minI, maxI, le00]
      · have e' : (m == m') = false := beq_eq_false_iff_ne.2 e
        constructor <;> simp [inR, bne, e']
  · have hkb : (x.k != y.k) = true := by simpa [bne] using hk
    unfold joinR
    simp only [hkb, cond_true]
    cases e : maybeOk x y with
    | false => exact ⟨rfl, rfl⟩
    | true =>
      unfold maybeOk at e
      have b : maybeBad x y = false := by cases b : maybeBad x y with
        | true => rw [b] at e; cases e
        | false => rfl
      unfold maybeM
      rw [b]
      unfold maybeBad at b
      cases hx <;> cases hy <;> simp [oneP, noughtR, firstR, bne] at b hk <;> simp [inR, noughtR, firstR, bne, le00, b]

theorem joinR_least {x y z : Reg} (hx : RegOk x) (hy : RegOk y) (hz : RegOk z) (h1 : inR x z = true) (h2 : inR y z = true) : inR (joinR x y) z = true := by
  cases hz with
  | none => rfl
  | num ln'' s'' hs'' hl'' =>
    cases hx <;> simp [inR, noughtR, firstR, bne] at h1
    cases hy <;> simp [inR, noughtR, firstR, bne] at h2
    rename_i ln s hs hl ln' s' hs' hl'
    have h := (join_facts hs hs').2.2 _ h1.1 h2.1
    show (inC (joinCR s s') s'' && (ln && ln' || !ln'')) = true
    rw [h]
    have a := h1.2
    have b := h2.2
    revert a b
    cases ln <;> cases ln' <;> cases ln'' <;> simp
  | maybe m'' hm'' =>
    cases hx <;> simp [inR, noughtR, firstR, bne] at h1 <;> cases hy <;> simp [inR, noughtR, firstR, bne] at h2
    · rename_i ln s hs hl ln' s' hs' hl'
      have jh := join_hi hs hs'
      have : (joinCR s s').s.hi = 0#64 := by
        rw [h1, h2] at jh
        have z : (0#64 : W).toNat = 0 := rfl
        exact BitVec.eq_of_toNat_eq (by omega)
      simp [joinR, inR, noughtR, firstR, bne, this]
    all_goals simp_all [joinR, inR, noughtR, firstR, bne, maybeOk, maybeBad, maybeM, oneP, minI, maxI, le00]
  | _ =>
    cases hx <;> simp [inR, noughtR, firstR, bne] at h1
    all_goals (cases hy <;> simp [inR, noughtR, firstR, bne] at h2)
    all_goals simp_all [joinR, inR, bne, le00]
    all_goals first
      | exact ⟨le_minI h1.1 h2.1, maxI_le' h1.2 h2.2⟩
      | exact ⟨le_minI h1.2.1 h2.1, maxI_le' h1.2.2 h2.2⟩
      | exact ⟨le_minI h1.2.1 h2.2.1, maxI_le' h1.2.2 h2.2.2⟩
      | (rw [show minI (0#64) 0#64 = 0#64 from rfl, show maxI (0#64) 0#64 = 0#64 from rfl]; exact ⟨le00, le00⟩)
end Go.Rf
