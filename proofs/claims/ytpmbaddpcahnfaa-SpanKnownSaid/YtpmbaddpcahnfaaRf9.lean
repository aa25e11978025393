/- A region's operations, done in any order that keeps what hangs together. -/
import Derived.Test.YtpmbaddpcahnfaaRf8
set_option linter.unusedVariables false
set_option linter.unusedSimpArgs false
namespace Go.Rf

theorem inRecs_take (l : List Rec) (t : Nat) : ∀ (i : Nat), i ≤ l.length → (inRecs (l.take i).reverse t = true ↔ ∃ j, j < i ∧ dstIs l t j = true)
  | 0, _ => by simp [inRecs]
  | i + 1, h => by
    have hr : l[i]? = some l[i] := List.getElem?_eq_getElem (by omega)
    have e : (l.take (i + 1)).reverse = l[i] :: (l.take i).reverse := by
      rw [List.take_succ_eq_append_getElem (by omega)]; simp
    rw [e]
    simp only [inRecs, Bool.or_eq_true, inRecs_take l t i (by omega)]
    constructor
    · rintro (h1 | ⟨j, hj, h1⟩)
      · exact ⟨i, by omega, by simp only [dstIs, hr]; exact h1⟩
      · exact ⟨j, by omega, h1⟩
    · rintro ⟨j, hj, h1⟩
      by_cases he : j = i
      · subst he; left; simp only [dstIs, hr] at h1; exact h1
      · exact .inr ⟨j, by omega, h1⟩

section
variable {cx : Cx} {ops : Array Oper} {base : Nat → AV} {hb : Hp} {nt next : Nat} {l : List Rec} {nx : Nat → Nat} {obs : Nat → Ob}

theorem Run.get (R : Run cx ops base hb nt next l nx obs) {i : Nat} (hi : i < ops.size) : ∃ o r, ops[i]? = some o ∧ l[i]? = some r := by
  exact ⟨ops[i], l[i]'(by rw [R.len]; exact hi), by simp [hi], by simp [R.len, hi]⟩

theorem Run.recOk (R : Run cx ops base hb nt next l nx obs) {i : Nat} {o : Oper} {r : Rec} (ho : ops[i]? = some o) (hr : l[i]? = some r) :
    RecOk ops base nt (l.take i).reverse (nx i) o r (nx (i + 1)) := evalOp_rec (R.at_ i o r ho hr)

theorem Run.lt (R : Run cx ops base hb nt next l nx obs) {i : Nat} {r : Rec} (hr : l[i]? = some r) : i < ops.size := by
  rw [← R.len]; exact (List.getElem?_eq_some_iff.1 hr).1

theorem Run.oper (R : Run cx ops base hb nt next l nx obs) {i : Nat} {r : Rec} (hr : l[i]? = some r) : ∃ o, ops[i]? = some o :=
  ⟨ops[i]'(R.lt hr), by simp [R.lt hr]⟩

theorem Run.uniq (R : Run cx ops base hb nt next l nx obs) {t i j : Nat} (hi : dstIs l t i = true) (hj : dstIs l t j = true) : i = j := by
  have key : ∀ i j, i < j → dstIs l t i = true → dstIs l t j = true → False := by
    intro i j hij hi hj
    simp only [dstIs] at hj
    split at hj <;> try (simp at hj; done)
    rename_i r hr
    obtain ⟨o, ho⟩ := R.oper hr
    have h1 := (R.recOk ho hr).lt t (by simpa using hj)
    have h2 := (inRecs_take l t j (by rw [R.len]; exact Nat.le_of_lt (R.lt hr))).2 ⟨i, hij, hi⟩
    rw [h1.2] at h2
    simp at h2
  rcases Nat.lt_trichotomy i j with h | h | h
  · exact (key i j h hi hj).elim
  · exact h
  · exact (key j i h hj hi).elim

theorem Run.last_dst (R : Run cx ops base hb nt next l nx obs) {t i j : Nat} (hj : dstIs l t j = true) (hji : j < i) : last (dstIs l t) i = some j :=
  last_is hji hj (fun k h1 h2 => by
    cases hk : dstIs l t k with
    | false => rfl
    | true => have := R.uniq hk hj; omega)

/-- What was told once stands. -/
theorem Run.look_stable (R : Run cx ops base hb nt next l nx obs) {t i i' : Nat} (hi : i ≤ i') (hi' : i' ≤ ops.size) (h : inRecs (l.take i).reverse t = true) (b : Nat → AV) :
    lookT b (l.take i').reverse t = lookT b (l.take i).reverse t := by
  have hl : i' ≤ l.length := by rw [R.len]; exact hi'
  obtain ⟨j, hj, hd⟩ := (inRecs_take l t i (by omega)).1 h
  rw [lookT_last b l t i' hl, lookT_last b l t i (by omega), R.last_dst hd hj, R.last_dst hd (by omega)]

theorem Run.in_mono (R : Run cx ops base hb nt next l nx obs) {t i i' : Nat} (hi : i ≤ i') (hi' : i' ≤ ops.size) (h : inRecs (l.take i).reverse t = true) : inRecs (l.take i').reverse t = true := by
  have hl : i' ≤ l.length := by rw [R.len]; exact hi'
  obtain ⟨j, hj, hd⟩ := (inRecs_take l t i (by omega)).1 h
  exact (inRecs_take l t i' hl).2 ⟨j, by omega, hd⟩

theorem Run.atoms_mono (R : Run cx ops base hb nt next l nx obs) {i i' : Nat} (hi : i ≤ i') (hi' : i' ≤ ops.size) {q : List (Nat × Bool)} (h : AtomsIn (l.take i).reverse q) : AtomsIn (l.take i').reverse q :=
  fun a ha => ⟨R.in_mono hi hi' (h a ha).1, by rw [R.look_stable hi hi' (h a ha).1]; exact (h a ha).2⟩

theorem Run.wf (R : Run cx ops base hb nt next l nx obs) : ∀ (i : Nat), i ≤ ops.size → WfR (l.take i).reverse
  | 0, _ => fun t q u h => by simp [inRecs] at h
  | i + 1, hi => by
    intro t q u hin hl
    have hle : i ≤ l.length := by rw [R.len]; omega
    have hr : l[i]? = some (l[i]'(by rw [R.len]; omega)) := List.getElem?_eq_getElem (by rw [R.len]; omega)
    obtain ⟨o, ho⟩ := R.oper hr
    have e : (l.take (i + 1)).reverse = (l[i]'(by rw [R.len]; omega)) :: (l.take i).reverse := by
      rw [List.take_succ_eq_append_getElem (by rw [R.len]; omega)]; simp
    by_cases hold : inRecs (l.take i).reverse t = true
    · rw [R.look_stable (i := i) (by omega) hi hold] at hl
      exact R.atoms_mono (by omega) hi (R.wf i (by omega) t q u hold hl)
    · have hd : (l[i]'(by rw [R.len]; omega)).dst = some t := by
        rw [e] at hin
        simp only [inRecs, Bool.or_eq_true, beq_iff_eq] at hin
        exact hin.resolve_right hold
      rw [e] at hl
      simp only [lookT, hd, beq_self_eq_true, if_true] at hl
      rcases (R.recOk ho hr).gd q u hl with h | h
      · exact R.atoms_mono (by omega) hi h
      · exact absurd (R.wf i (by omega)) h

theorem Run.nx_mono (R : Run cx ops base hb nt next l nx obs) {i : Nat} : ∀ {j : Nat}, i ≤ j → j ≤ ops.size → nx i ≤ nx j
  | 0, h, _ => by have : i = 0 := by omega
                  subst this; exact Nat.le_refl _
  | j + 1, h, hj => by
    by_cases he : i = j + 1
    · subst he; exact Nat.le_refl _
    · have ih := R.nx_mono (i := i) (j := j) (by omega) (by omega)
      obtain ⟨o, r, ho, hr⟩ := R.get (i := j) (by omega)
      rcases (R.recOk ho hr).nw with ⟨_, h1⟩ | ⟨_, h1⟩ <;> omega

def nwIs (l : List Rec) (n j : Nat) : Bool := match l[j]? with
  | some r => r.nw == some n
  | none => false

theorem Run.nw_at (R : Run cx ops base hb nt next l nx obs) {i n : Nat} (h : nwIs l n i = true) : n = nx i ∧ nx (i + 1) = n + 1 ∧ i < ops.size := by
  simp only [nwIs] at h
  split at h <;> try (simp at h; done)
  rename_i r hr
  simp at h
  obtain ⟨o, ho⟩ := R.oper hr
  rcases (R.recOk ho hr).nw with ⟨h1, _⟩ | ⟨h1, h2⟩
  · rw [h1] at h; simp at h
  · rw [h1] at h; simp at h; exact ⟨h.symm, by rw [h2, h], R.lt hr⟩

theorem Run.nw_uniq (R : Run cx ops base hb nt next l nx obs) {i j n : Nat} (hi : nwIs l n i = true) (hj : nwIs l n j = true) : i = j := by
  obtain ⟨a1, a2, a3⟩ := R.nw_at hi
  obtain ⟨b1, b2, b3⟩ := R.nw_at hj
  rcases Nat.lt_trichotomy i j with h | h | h
  · have := R.nx_mono (i := i + 1) (j := j) (by omega) (by omega); omega
  · exact h
  · have := R.nx_mono (i := j + 1) (j := i) (by omega) (by omega); omega

def btAll (l : List Rec) : Nat → Bool := btR l.reverse

theorem Run.bt_ok (R : Run cx ops base hb nt next l nx obs) {i t : Nat} (hi : i ≤ ops.size) (h : inRecs (l.take i).reverse t = true) (c : Bool) (hc : testOf (lookT (fun _ => .un) (l.take i).reverse t) = some c) : btAll l t = c := by
  have e : l.reverse = (l.take ops.size).reverse := by rw [← R.len, List.take_length]
  simp only [btAll, btR, e, R.look_stable hi (Nat.le_refl _) h, hc]
  rfl

/-- What holds when the operations of D are done, in whatever order. -/
structure InvD (l : List Rec) (base : Nat → AV) (hb : Hp) (nt next : Nat) (Es : Env) (ws : World) (D : Nat → Bool) (E : Env) (a : Act) (w : World) : Prop where
  tm : ∀ t, GRel (btAll l) E (verT D l base t) (a.tmps.getD t undef)
  hp : HRel E (verH D l hb) w
  inj : Inj E
  bd : Bd E w
  nm : ∀ n, next ≤ n → E n ≠ none → ∃ j, D j = true ∧ nwIs l n j = true
  sz : a.tmps.size = nt
  df : a.defers = []
  tr : Tr Es ws E w

theorem put_getD (a : Act) (d : Option Nat) (v : Value) (t : Nat) (h : ∀ k, d = some k → k < a.tmps.size) : (a.put d v).tmps.getD t undef = if d = some t then v else a.tmps.getD t undef := by
  cases d with
  | none => simp [Act.put]
  | some k =>
    have hk := h k rfl
    by_cases hkt : k = t
    · subst hkt
      simp [Act.put, Array.getElem?_setIfInBounds, hk]
    · simp [Act.put, Array.getElem?_setIfInBounds_ne hkt, hkt]

theorem put_size (a : Act) (d : Option Nat) (v : Value) : (a.put d v).tmps.size = a.tmps.size := by cases d <;> simp [Act.put]
theorem put_df (a : Act) (d : Option Nat) (v : Value) : (a.put d v).defers = a.defers := by cases d <;> simp [Act.put]

def addD (D : Nat → Bool) (i : Nat) : Nat → Bool := fun j => D j || j == i

theorem verT_add {D : Nat → Bool} {l : List Rec} {base : Nat → AV} {i t : Nat} {r : Rec} (hr : l[i]? = some r) (hd : r.dst = some t) (hlat : ∀ j, D j = true → i < j → dstIs l t j = false) : verT (addD D i) l base t = r.res := by
  have hi : i < l.length := (List.getElem?_eq_some_iff.1 hr).1
  unfold verT
  rw [last_is hi (by simp [addD, dstIs, hr, hd]) (fun k h1 h2 => by
    simp only [addD]
    have : (k == i) = false := by simp; omega
    rw [this]
    cases hD : D k with
    | false => simp
    | true => simp [hlat k hD h1])]
  simp [resAt, hr]

theorem verT_add_other {D : Nat → Bool} {l : List Rec} {base : Nat → AV} {i t : Nat} (hd : dstIs l t i = false) : verT (addD D i) l base t = verT D l base t := by
  unfold verT
  have h : ∀ j, j < l.length → (fun j => addD D i j && dstIs l t j) j = (fun j => D j && dstIs l t j) j := by
    intro j hj
    show (addD D i j && dstIs l t j) = (D j && dstIs l t j)
    by_cases he : j = i
    · rw [he, hd]; simp
    · have : (j == i) = false := by simpa using he
      simp [addD, this]
  rw [last_congr h]

theorem verH_add {D : Nat → Bool} {l : List Rec} {hb : Hp} {i n : Nat} {r : Rec} {b : Option Blk} (hr : l[i]? = some r) (hd : hwL r.hw n = some b) (hlat : ∀ j, D j = true → i < j → hwIs l n j = false) : verH (addD D i) l hb n = b := by
  have hi : i < l.length := (List.getElem?_eq_some_iff.1 hr).1
  unfold verH
  rw [last_is hi (by simp [addD, hwIs, hr, hd]) (fun k h1 h2 => by
    simp only [addD]
    have : (k == i) = false := by simp; omega
    rw [this]
    cases hD : D k with
    | false => simp
    | true => simp [hlat k hD h1])]
  simp [hwAt, hr, hd]

theorem verH_add_other {D : Nat → Bool} {l : List Rec} {hb : Hp} {i n : Nat} (hd : hwIs l n i = false) : verH (addD D i) l hb n = verH D l hb n := by
  unfold verH
  have h : ∀ j, j < l.length → (fun j => addD D i j && hwIs l n j) j = (fun j => D j && hwIs l n j) j := by
    intro j hj
    show (addD D i j && hwIs l n j) = (D j && hwIs l n j)
    by_cases he : j = i
    · rw [he, hd]; simp
    · have : (j == i) = false := by simpa using he
      simp [addD, this]
  rw [last_congr h]

/-- One operation more. -/
theorem Run.step (R : Run cx ops base hb nt next l nx obs) (hΓ : TabOk cx.P cx.Γ) (hI : InlOk cx.P cx.inl) (hobs : ∀ i, i < ops.size → (obs i).holds)
    {Es : Env} {ws : World} {D : Nat → Bool} {E : Env} {a : Act} {w : World} (I : InvD l base hb nt next Es ws D E a w) {i : Nat} {o : Oper} {r : Rec} (ho : ops[i]? = some o) (hr : l[i]? = some r)
    (hDi : D i = false)
    (c1 : ∀ t ∈ o.looksAt ops, verT D l base t = lookT base (l.take i).reverse t)
    (c2 : ∀ n, touched r n → r.nw ≠ some n → verH D l hb n = lookH hb (l.take i).reverse n)
    (c2' : r.inl = true → (∀ n, verH D l hb n = lookH hb (l.take i).reverse n) ∧ (∀ j, D j = true → j < i))
    (c3 : ∀ j, D j = true → i < j → (∀ t, r.dst = some t → dstIs l t j = false) ∧ (∀ n b, hwL r.hw n = some b → hwIs l n j = false))
    {Q : Exit → Act → World → Prop} {K : Act → World → Prop} (hK : ∀ E' a' w', InvD l base hb nt next Es ws (addD D i) E' a' w' → K a' w') :
    wpOp cx.P ops Q i K a w := by
  have hi : i < ops.size := R.lt hr
  have hle : i ≤ l.length := by rw [R.len]; omega
  have rk := R.recOk ho hr
  refine op_step hΓ hI ho (R.at_ i o r ho hr) (hobs i hi) (R.wf i (by omega)) (bt := btAll l) (fun t ht c hc => R.bt_ok (by omega) ht c hc)
    (fun t ht => by rw [← c1 t ht]; exact I.tm t) ?_ ?_ I.inj I.bd ?_ ?_ ?_
  · intro n hn hnw B hB
    rw [← c2 n hn hnw] at hB
    exact I.hp n B hB
  · intro hinl n B hB
    rw [← (c2' hinl).1 n] at hB
    exact I.hp n B hB
  · intro n hn
    refine Classical.byContradiction fun hne => ?_
    have hnn : nwIs l n i = true := by simp [nwIs, hr, hn]
    have h1 := R.nw_at hnn
    have h2 := R.nx_mono (i := 0) (j := i) (by omega) (by omega)
    rw [R.first] at h2
    obtain ⟨j, hj, hnj⟩ := I.nm n (by omega) hne
    have := R.nw_uniq hnn hnj
    subst this
    rw [hDi] at hj
    simp at hj
  · intro hinl n hn
    refine Classical.byContradiction fun hne => ?_
    have h2 := R.nx_mono (i := 0) (j := i) (by omega) (by omega)
    rw [R.first] at h2
    obtain ⟨j, hj, hnj⟩ := I.nm n (by omega) hne
    have hji := (c2' hinl).2 j hj
    obtain ⟨e1, e2, _⟩ := R.nw_at hnj
    have := R.nx_mono (i := j + 1) (j := i) (by omega) (by omega)
    omega
  · intro E' x w' p
    have hdlt : ∀ k, o.dst = some k → k < a.tmps.size := fun k hk => by rw [I.sz]; exact (rk.lt k (by rw [rk.dst, hk])).1
    refine hK E' (a.put o.dst x) w' ⟨?_, ?_, p.inj, p.bd, ?_, by rw [put_size]; exact I.sz, by rw [put_df]; exact I.df, I.tr.trans p.tr⟩
    · intro t
      rw [put_getD a o.dst x t hdlt]
      by_cases hd : o.dst = some t
      · rw [if_pos hd, verT_add hr (by rw [rk.dst, hd]) (fun j hj hij => (c3 j hj hij).1 t (by rw [rk.dst, hd]))]
        exact p.rel
      · rw [if_neg hd, verT_add_other (by simp only [dstIs, hr, rk.dst]; simpa using hd)]
        exact GRel_mono p.tr.sub (I.tm t)
    · intro n B hB
      cases hw : hwL r.hw n with
      | some b =>
        rw [verH_add hr hw (fun j hj hij => (c3 j hj hij).2 n b hw)] at hB
        exact p.wrote n b hw B hB
      | none =>
        rw [verH_add_other (by simp [hwIs, hr, hw])] at hB
        cases hinl : r.inl with
        | false =>
          obtain ⟨k, h1, h2, h3⟩ := I.hp n B hB
          exact ⟨k, p.tr.sub n k h1, ok_mono p.tr.sub h2, by rw [p.other hinl n k h1 hw, h3, cells_mono p.tr.sub h2]⟩
        | true =>
          rw [(c2' hinl).1 n] at hB
          exact p.inl hinl n B (by simp only [updH, hw]; exact hB)
    · intro n hn hne
      by_cases hE : E n = none
      · have := p.names n hE hne
        exact ⟨i, by simp [addD], by simp [nwIs, hr, this]⟩
      · obtain ⟨j, hj, hnj⟩ := I.nm n hn hE
        exact ⟨j, by simp [addD, hj], hnj⟩

/-- In the text's order. -/
theorem Run.seq (R : Run cx ops base hb nt next l nx obs) (hΓ : TabOk cx.P cx.Γ) (hI : InlOk cx.P cx.inl) (hobs : ∀ i, i < ops.size → (obs i).holds)
    {Es : Env} {ws : World} {Q : Exit → Act → World → Prop} (hQ : ∀ E a w, InvD l base hb nt next Es ws (fun j => decide (j < ops.size)) E a w → Q .normal a w) :
    ∀ (k i : Nat), i + k = ops.size → ∀ (E : Env) (a : Act) (w : World), InvD l base hb nt next Es ws (fun j => decide (j < i)) E a w → wpOps cx.P ops Q (List.range' i k) a w
  | 0, i, h, E, a, w, I => by
    simp only [Nat.add_zero] at h
    subst h
    exact hQ E a w I
  | k + 1, i, h, E, a, w, I => by
    rw [List.range'_succ, wpOps_cons]
    obtain ⟨o, r, ho, hr⟩ := R.get (i := i) (by omega)
    have hle : i ≤ l.length := by rw [R.len]; omega
    refine R.step hΓ hI hobs I ho hr (by simp) (fun t _ => verT_below base l i hle t) (fun n _ _ => verH_below hb l i hle n)
      (fun _ => ⟨fun n => verH_below hb l i hle n, fun j hj => by simpa using hj⟩) (fun j hj hij => by simp at hj; omega) ?_
    intro E' a' w' I'
    refine R.seq hΓ hI hobs hQ k (i + 1) (by omega) E' a' w' ?_
    have : addD (fun j => decide (j < i)) i = fun j => decide (j < i + 1) := by
      funext j
      simp only [addD]
      by_cases h1 : j < i
      · simp [h1]; omega
      · by_cases h2 : j = i
        · simp [h2]
        · have : ¬ j < i + 1 := by omega
          simp [h1, h2, this]
    rwa [this] at I'

end

end Go.Rf
