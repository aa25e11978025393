/- Several texts as one: Rf8 Rf9 Rf10. -/
import Derived.Test.YtigiedlngfkfbaaGreatRfC
set_option linter.unusedVariables false
set_option linter.unusedSimpArgs false

/- Regions: whatever order is drawn. -/
namespace Go.Rf

def evalOps (cx : Cx) (ops : Array Oper) (base : Nat → AV) (hb : Hp) (nt : Nat) : List Oper → List Rec → Nat → Option (List Rec × Nat × Ob)
  | [], recs, next => some (recs, next, .tt)
  | o :: os, recs, next => match evalOp cx ops base hb nt recs next o with
    | some (r, next', ob) => match evalOps cx ops base hb nt os (r :: recs) next' with
      | some (fin, n, ob') => some (fin, n, ob.and ob')
      | none => none
    | none => none

/-- What one operation's evaluation tells of its record. -/
structure RecOk (ops : Array Oper) (base : Nat → AV) (nt : Nat) (recs : List Rec) (next : Nat) (o : Oper) (r : Rec) (next' : Nat) : Prop where
  dst : r.dst = o.dst
  lt : ∀ d, r.dst = some d → d < nt ∧ inRecs recs d = false
  nw : (r.nw = none ∧ next' = next) ∨ (r.nw = some next ∧ next' = next + 1)
  gd : ∀ q u, r.res = .gd q u → AtomsIn recs q ∨ ¬ WfR recs

theorem mark_gd {p q : List (Nat × Bool)} {v u : AV} (h : mark p v = .gd q u) (hv : isGd v = false) : p = q := by
  cases p with
  | nil => simp only [mark] at h; subst h; simp [isGd] at hv
  | cons a l => simp only [mark, AV.gd.injEq] at h; exact h.1

theorem evalOp_rec {cx : Cx} {ops : Array Oper} {base : Nat → AV} {hb : Hp} {nt : Nat} {recs : List Rec} {next next' : Nat} {o : Oper} {r : Rec} {ob : Ob}
    (hev : evalOp cx ops base hb nt recs next o = some (r, next', ob)) : RecOk ops base nt recs next o r next' := by
  unfold evalOp at hev
  split at hev <;> try (simp at hev; done)
  rename_i hd
  have hlt : ∀ d, o.dst = some d → d < nt ∧ inRecs recs d = false := by
    intro d e
    rw [e] at hd
    simpa [dstOk] using hd
  split at hev <;> try (simp at hev; done)
  · simp only [Option.some.injEq, Prod.mk.injEq] at hev
    obtain ⟨rfl, rfl, rfl⟩ := hev
    exact ⟨rfl, hlt, .inl ⟨rfl, rfl⟩, fun q u h => by simp [plainRec] at h⟩
  · rename_i p hg
    have hat : AtomsIn recs p ∨ ¬ WfR recs := by
      by_cases hw : WfR recs
      · exact .inl (guardOf_atoms hw hg)
      · exact .inr hw
    have mk : ∀ {v : AV}, isGd v = false → ∀ q u, mark p v = .gd q u → AtomsIn recs q ∨ ¬ WfR recs := by
      intro v hv q u h
      rw [← mark_gd h hv]; exact hat
    split at hev
    · split at hev <;> try (simp at hev; done)
      split at hev <;> simp at hev
      rename_i hng
      obtain ⟨rfl, rfl, rfl⟩ := hev
      exact ⟨rfl, hlt, .inl ⟨rfl, rfl⟩, mk (by simpa using hng)⟩
    · split at hev <;> try (simp at hev; done)
      · split at hev <;> simp at hev
        rename_i hng
        obtain ⟨rfl, rfl, rfl⟩ := hev
        exact ⟨rfl, hlt, .inl ⟨rfl, rfl⟩, mk (by simpa using hng)⟩
      · split at hev <;> try (simp at hev; done)
        split at hev <;> try (simp at hev; done)
        split at hev <;> simp at hev
        rename_i hf
        obtain ⟨rfl, rfl, rfl⟩ := hev
        refine ⟨rfl, hlt, .inl ⟨rfl, rfl⟩, mk ?_⟩
        rename_i u _
        cases u <;> first | rfl | (simp [fits, big, sca] at hf)
      · split at hev <;> try (simp at hev; done)
        split at hev <;> try (simp at hev; done)
        split at hev <;> try (simp at hev; done)
        split at hev <;> simp at hev
        obtain ⟨rfl, rfl, rfl⟩ := hev
        exact ⟨rfl, hlt, .inl ⟨rfl, rfl⟩, fun q u h => by simp at h⟩
      · split at hev <;> simp at hev
        obtain ⟨rfl, rfl, rfl⟩ := hev
        refine ⟨rfl, hlt, .inr ⟨rfl, rfl⟩, fun q u h => ?_⟩
        rename_i T v s _ _
        cases s <;> simp [newAV] at h
      · split at hev
        · split at hev <;> simp at hev
          rename_i hng
          obtain ⟨rfl, rfl, rfl⟩ := hev
          exact ⟨rfl, hlt, .inl ⟨rfl, rfl⟩, mk (by simpa using hng)⟩
        · split at hev
          · rename_i res n0 ob' hrd
            simp only [Option.some.injEq, Prod.mk.injEq] at hev
            obtain ⟨rfl, rfl, rfl⟩ := hev
            refine ⟨rfl, hlt, .inl ⟨rfl, rfl⟩, mk ?_⟩
            unfold evalRd at hrd
            split at hrd <;> try (simp at hrd; done)
            split at hrd <;> try (simp at hrd; done)
            split at hrd <;> try (simp at hrd; done)
            split at hrd <;> try (simp at hrd; done)
            rename_i hng
            simp only [Bool.or_eq_true, Bool.not_eq_true', not_or, Bool.not_eq_true] at hng
            simp only [Option.some.injEq, Prod.mk.injEq] at hrd
            obtain ⟨rfl, rfl, rfl⟩ := hrd
            simpa using hng.1
          · split at hev
            · rename_i res ob' hpl
              simp only [Option.some.injEq, Prod.mk.injEq] at hev
              obtain ⟨rfl, rfl, rfl⟩ := hev
              refine ⟨rfl, hlt, .inl ⟨rfl, rfl⟩, mk ?_⟩
              unfold evalPl at hpl
              split at hpl <;> try (simp at hpl; done)
              split at hpl <;> try (simp at hpl; done)
              split at hpl <;> simp at hpl
              rename_i hng
              obtain ⟨rfl, rfl⟩ := hpl
              simpa using hng
            split at hev <;> try (simp at hev; done)
            split at hev <;> try (simp at hev; done)
            split at hev <;> simp at hev
            rename_i hng
            obtain ⟨rfl, rfl, rfl⟩ := hev
            exact ⟨rfl, hlt, .inl ⟨rfl, rfl⟩, fun q u h => by simp only at h; subst h; simp [isGd] at hng⟩
      · split at hev <;> try (simp at hev; done)
        split at hev <;> try (simp at hev; done)
        simp only [Option.some.injEq, Prod.mk.injEq] at hev
        obtain ⟨rfl, rfl, rfl⟩ := hev
        exact ⟨rfl, hlt, .inl ⟨rfl, rfl⟩, mk rfl⟩

/-- The records of a region, in the text's order: each is what its operation comes to behind those ahead of it. -/
structure Run (cx : Cx) (ops : Array Oper) (base : Nat → AV) (hb : Hp) (nt : Nat) (next : Nat) (l : List Rec) (nx : Nat → Nat) (obs : Nat → Ob) : Prop where
  len : l.length = ops.size
  at_ : ∀ (i : Nat) (o : Oper) (r : Rec), ops[i]? = some o → l[i]? = some r → evalOp cx ops base hb nt (l.take i).reverse (nx i) o = some (r, nx (i + 1), obs i)
  first : nx 0 = next

theorem evalOps_run {cx : Cx} {ops : Array Oper} {base : Nat → AV} {hb : Hp} {nt : Nat} : ∀ (os : List Oper) (recs : List Rec) (next : Nat) (fin : List Rec) (n : Nat) (ob : Ob),
    evalOps cx ops base hb nt os recs next = some (fin, n, ob) → ∃ (l : List Rec) (nx : Nat → Nat) (obs : Nat → Ob), fin = l.reverse ++ recs ∧ l.length = os.length ∧ nx 0 = next ∧ nx os.length = n ∧
      (∀ (i : Nat) (o : Oper) (r : Rec), os[i]? = some o → l[i]? = some r → evalOp cx ops base hb nt ((l.take i).reverse ++ recs) (nx i) o = some (r, nx (i + 1), obs i)) ∧ (ob.holds → ∀ i, i < os.length → (obs i).holds)
  | [], recs, next, fin, n, ob, h => by
    simp [evalOps] at h
    obtain ⟨rfl, rfl, rfl⟩ := h
    exact ⟨[], fun _ => next, fun _ => .tt, rfl, rfl, rfl, rfl, by simp, by simp⟩
  | o :: os, recs, next, fin, n, ob, h => by
    simp only [evalOps] at h
    split at h <;> try (simp at h; done)
    rename_i r next' ob1 h1
    split at h <;> simp at h
    rename_i fin' n' ob2 h2
    obtain ⟨rfl, rfl, rfl⟩ := h
    obtain ⟨l, nx, obs, e1, e2, e3, e4, e5, e6⟩ := evalOps_run os (r :: recs) next' fin' n' ob2 h2
    refine ⟨r :: l, fun i => match i with | 0 => next | i + 1 => nx i, fun i => match i with | 0 => ob1 | i + 1 => obs i, by simp [e1], by simp [e2], rfl, by simpa using e4, ?_, ?_⟩
    · intro i o' r' ho hr
      cases i with
      | zero =>
        simp at ho hr
        subst ho; subst hr
        simp [e3, h1]
      | succ i =>
        simp at ho hr
        have := e5 i o' r' ho hr
        simpa using this
    · intro hob i hi
      rw [Ob.and_holds] at hob
      cases i with
      | zero => exact hob.1
      | succ i => exact e6 hob.2 i (by simpa using hi)

/-! ### Versions -/

def last (p : Nat → Bool) : Nat → Option Nat
  | 0 => none
  | n + 1 => if p n then some n else last p n

theorem last_congr {p q : Nat → Bool} : ∀ {n : Nat}, (∀ j, j < n → p j = q j) → last p n = last q n
  | 0, _ => rfl
  | n + 1, h => by
    simp only [last, h n (by omega)]
    rw [last_congr (fun j hj => h j (by omega))]

theorem last_some {p : Nat → Bool} : ∀ {n j : Nat}, last p n = some j → j < n ∧ p j = true
  | n + 1, j, h => by
    simp only [last] at h
    split at h
    · rename_i hp; simp at h; subst h; exact ⟨by omega, hp⟩
    · obtain ⟨h1, h2⟩ := last_some h; exact ⟨by omega, h2⟩

theorem last_is {p : Nat → Bool} : ∀ {n j : Nat}, j < n → p j = true → (∀ k, j < k → k < n → p k = false) → last p n = some j
  | n + 1, j, hj, hp, h => by
    simp only [last]
    by_cases he : j = n
    · subst he; simp [hp]
    · rw [h n (by omega) (by omega)]
      simp
      exact last_is (by omega) hp (fun k h1 h2 => h k h1 (by omega))

theorem last_none {p : Nat → Bool} : ∀ {n : Nat}, (∀ k, k < n → p k = false) → last p n = none
  | 0, _ => rfl
  | n + 1, h => by
    simp only [last, h n (by omega)]
    simpa using last_none (fun k hk => h k (by omega))

theorem last_below {p : Nat → Bool} {i : Nat} : ∀ {n : Nat}, i ≤ n → last (fun j => decide (j < i) && p j) n = last p i
  | 0, h => by
    have : i = 0 := by omega
    subst this; rfl
  | n + 1, h => by
    by_cases he : i = n + 1
    · subst he
      exact last_congr (fun j hj => by simp [hj])
    · simp only [last]
      have : ¬ n < i := by omega
      simp only [this, decide_false, Bool.false_and, Bool.false_eq_true, if_false]
      exact last_below (by omega)

def dstIs (l : List Rec) (t : Nat) (j : Nat) : Bool := match l[j]? with
  | some r => r.dst == some t
  | none => false
def resAt (l : List Rec) (j : Nat) : AV := match l[j]? with
  | some r => r.res
  | none => .un
def hwIs (l : List Rec) (n : Nat) (j : Nat) : Bool := match l[j]? with
  | some r => (hwL r.hw n).isSome
  | none => false
def hwAt (l : List Rec) (n : Nat) (j : Nat) : Option Blk := match l[j]? with
  | some r => (hwL r.hw n).getD none
  | none => none

/-- What temporary t holds when the operations of D are done. -/
def verT (D : Nat → Bool) (l : List Rec) (base : Nat → AV) (t : Nat) : AV :=
  match last (fun j => D j && dstIs l t j) l.length with
  | some j => resAt l j
  | none => base t

def verH (D : Nat → Bool) (l : List Rec) (hb : Hp) (n : Nat) : Option Blk :=
  match last (fun j => D j && hwIs l n j) l.length with
  | some j => hwAt l n j
  | none => hb n

theorem lookT_last (base : Nat → AV) (l : List Rec) (t : Nat) : ∀ (i : Nat), i ≤ l.length → lookT base (l.take i).reverse t = match last (dstIs l t) i with
    | some j => resAt l j
    | none => base t
  | 0, _ => by simp [lookT, last]
  | i + 1, h => by
    have hr : l[i]? = some l[i] := List.getElem?_eq_getElem (by omega)
    have e : (l.take (i + 1)).reverse = l[i] :: (l.take i).reverse := by
      rw [List.take_succ_eq_append_getElem (by omega)]; simp
    rw [e]
    simp only [lookT, last, dstIs, hr]
    cases hd : l[i].dst with
    | none =>
      simp
      rw [lookT_last base l t i (by omega)]
    | some d =>
      by_cases hdt : d = t
      · simp [hdt, resAt, hr]
      · simp [hdt]
        rw [lookT_last base l t i (by omega)]

theorem lookH_last (hb : Hp) (l : List Rec) (n : Nat) : ∀ (i : Nat), i ≤ l.length → lookH hb (l.take i).reverse n = match last (hwIs l n) i with
    | some j => hwAt l n j
    | none => hb n
  | 0, _ => by simp [lookH, last]
  | i + 1, h => by
    have hr : l[i]? = some l[i] := List.getElem?_eq_getElem (by omega)
    have e : (l.take (i + 1)).reverse = l[i] :: (l.take i).reverse := by
      rw [List.take_succ_eq_append_getElem (by omega)]; simp
    rw [e]
    simp only [lookH, last, hwIs, hr]
    cases hd : hwL l[i].hw n with
    | none =>
      simp
      rw [lookH_last hb l n i (by omega)]
    | some d => simp [hwAt, hr, hd]

theorem verT_below (base : Nat → AV) (l : List Rec) (i : Nat) (hi : i ≤ l.length) (t : Nat) : verT (fun j => decide (j < i)) l base t = lookT base (l.take i).reverse t := by
  rw [lookT_last base l t i hi]
  unfold verT
  rw [last_below hi]

theorem verH_below (hb : Hp) (l : List Rec) (i : Nat) (hi : i ≤ l.length) (n : Nat) : verH (fun j => decide (j < i)) l hb n = lookH hb (l.take i).reverse n := by
  rw [lookH_last hb l n i hi]
  unfold verH
  rw [last_below hi]

end Go.Rf

/- A region's operations, done in any order that keeps what hangs together. -/
namespace Go.Rf

theorem inRecs_take (l : List Rec) (t : Nat) : ∀ (i : Nat), i ≤ l.length → (inRecs (l.take i).reverse t = true ↔ ∃ j, j < i ∧ dstIs l t j = true)
  | 0, _ => by simp [inRecs]
  | i + 1, h => by
    have hr : l[i]? = some l[i] := List.getElem?_eq_getElem (by omega)
    have e : (l.take (i + 1)).reverse = l[i] :: (l.take i).reverse := by
      rw [List.take_succ_eq_append_getElem (by omega)]; simp
    rw [e]
    simp only [inRecs, Bool.or_eq_true, inRecs_take l t i (by omega)]
    constructor
    · rintro (h1 | ⟨j, hj, h1⟩)
      · exact ⟨i, by omega, by simp only [dstIs, hr]; exact h1⟩
      · exact ⟨j, by omega, h1⟩
    · rintro ⟨j, hj, h1⟩
      by_cases he : j = i
      · subst he; left; simp only [dstIs, hr] at h1; exact h1
      · exact .inr ⟨j, by omega, h1⟩

section
variable {cx : Cx} {ops : Array Oper} {base : Nat → AV} {hb : Hp} {nt next : Nat} {l : List Rec} {nx : Nat → Nat} {obs : Nat → Ob}

theorem Run.get (R : Run cx ops base hb nt next l nx obs) {i : Nat} (hi : i < ops.size) : ∃ o r, ops[i]? = some o ∧ l[i]? = some r := by
  exact ⟨ops[i], l[i]'(by rw [R.len]; exact hi), by simp [hi], by simp [R.len, hi]⟩

theorem Run.recOk (R : Run cx ops base hb nt next l nx obs) {i : Nat} {o : Oper} {r : Rec} (ho : ops[i]? = some o) (hr : l[i]? = some r) :
    RecOk ops base nt (l.take i).reverse (nx i) o r (nx (i + 1)) := evalOp_rec (R.at_ i o r ho hr)

theorem Run.lt (R : Run cx ops base hb nt next l nx obs) {i : Nat} {r : Rec} (hr : l[i]? = some r) : i < ops.size := by
  rw [← R.len]; exact (List.getElem?_eq_some_iff.1 hr).1

theorem Run.oper (R : Run cx ops base hb nt next l nx obs) {i : Nat} {r : Rec} (hr : l[i]? = some r) : ∃ o, ops[i]? = some o :=
  ⟨ops[i]'(R.lt hr), by simp [R.lt hr]⟩

theorem Run.uniq (R : Run cx ops base hb nt next l nx obs) {t i j : Nat} (hi : dstIs l t i = true) (hj : dstIs l t j = true) : i = j := by
  have key : ∀ i j, i < j → dstIs l t i = true → dstIs l t j = true → False := by
    intro i j hij hi hj
    simp only [dstIs] at hj
    split at hj <;> try (simp at hj; done)
    rename_i r hr
    obtain ⟨o, ho⟩ := R.oper hr
    have h1 := (R.recOk ho hr).lt t (by simpa using hj)
    have h2 := (inRecs_take l t j (by rw [R.len]; exact Nat.le_of_lt (R.lt hr))).2 ⟨i, hij, hi⟩
    rw [h1.2] at h2
    simp at h2
  rcases Nat.lt_trichotomy i j with h | h | h
  · exact (key i j h hi hj).elim
  · exact h
  · exact (key j i h hj hi).elim

theorem Run.last_dst (R : Run cx ops base hb nt next l nx obs) {t i j : Nat} (hj : dstIs l t j = true) (hji : j < i) : last (dstIs l t) i = some j :=
  last_is hji hj (fun k h1 h2 => by
    cases hk : dstIs l t k with
    | false => rfl
    | true => have := R.uniq hk hj; omega)

/-- What was told once stands. -/
theorem Run.look_stable (R : Run cx ops base hb nt next l nx obs) {t i i' : Nat} (hi : i ≤ i') (hi' : i' ≤ ops.size) (h : inRecs (l.take i).reverse t = true) (b : Nat → AV) :
    lookT b (l.take i').reverse t = lookT b (l.take i).reverse t := by
  have hl : i' ≤ l.length := by rw [R.len]; exact hi'
  obtain ⟨j, hj, hd⟩ := (inRecs_take l t i (by omega)).1 h
  rw [lookT_last b l t i' hl, lookT_last b l t i (by omega), R.last_dst hd hj, R.last_dst hd (by omega)]

theorem Run.in_mono (R : Run cx ops base hb nt next l nx obs) {t i i' : Nat} (hi : i ≤ i') (hi' : i' ≤ ops.size) (h : inRecs (l.take i).reverse t = true) : inRecs (l.take i').reverse t = true := by
  have hl : i' ≤ l.length := by rw [R.len]; exact hi'
  obtain ⟨j, hj, hd⟩ := (inRecs_take l t i (by omega)).1 h
  exact (inRecs_take l t i' hl).2 ⟨j, by omega, hd⟩

theorem Run.atoms_mono (R : Run cx ops base hb nt next l nx obs) {i i' : Nat} (hi : i ≤ i') (hi' : i' ≤ ops.size) {q : List (Nat × Bool)} (h : AtomsIn (l.take i).reverse q) : AtomsIn (l.take i').reverse q :=
  fun a ha => ⟨R.in_mono hi hi' (h a ha).1, by rw [R.look_stable hi hi' (h a ha).1]; exact (h a ha).2⟩

theorem Run.wf (R : Run cx ops base hb nt next l nx obs) : ∀ (i : Nat), i ≤ ops.size → WfR (l.take i).reverse
  | 0, _ => fun t q u h => by simp [inRecs] at h
  | i + 1, hi => by
    intro t q u hin hl
    have hle : i ≤ l.length := by rw [R.len]; omega
    have hr : l[i]? = some (l[i]'(by rw [R.len]; omega)) := List.getElem?_eq_getElem (by rw [R.len]; omega)
    obtain ⟨o, ho⟩ := R.oper hr
    have e : (l.take (i + 1)).reverse = (l[i]'(by rw [R.len]; omega)) :: (l.take i).reverse := by
      rw [List.take_succ_eq_append_getElem (by rw [R.len]; omega)]; simp
    by_cases hold : inRecs (l.take i).reverse t = true
    · rw [R.look_stable (i := i) (by omega) hi hold] at hl
      exact R.atoms_mono (by omega) hi (R.wf i (by omega) t q u hold hl)
    · have hd : (l[i]'(by rw [R.len]; omega)).dst = some t := by
        rw [e] at hin
        simp only [inRecs, Bool.or_eq_true, beq_iff_eq] at hin
        exact hin.resolve_right hold
      rw [e] at hl
      simp only [lookT, hd, beq_self_eq_true, if_true] at hl
      rcases (R.recOk ho hr).gd q u hl with h | h
      · exact R.atoms_mono (by omega) hi h
      · exact absurd (R.wf i (by omega)) h

theorem Run.nx_mono (R : Run cx ops base hb nt next l nx obs) {i : Nat} : ∀ {j : Nat}, i ≤ j → j ≤ ops.size → nx i ≤ nx j
  | 0, h, _ => by have : i = 0 := by omega
                  subst this; exact Nat.le_refl _
  | j + 1, h, hj => by
    by_cases he : i = j + 1
    · subst he; exact Nat.le_refl _
    · have ih := R.nx_mono (i := i) (j := j) (by omega) (by omega)
      obtain ⟨o, r, ho, hr⟩ := R.get (i := j) (by omega)
      rcases (R.recOk ho hr).nw with ⟨_, h1⟩ | ⟨_, h1⟩ <;> omega

def nwIs (l : List Rec) (n j : Nat) : Bool := match l[j]? with
  | some r => r.nw == some n
  | none => false

theorem Run.nw_at (R : Run cx ops base hb nt next l nx obs) {i n : Nat} (h : nwIs l n i = true) : n = nx i ∧ nx (i + 1) = n + 1 ∧ i < ops.size := by
  simp only [nwIs] at h
  split at h <;> try (simp at h; done)
  rename_i r hr
  simp at h
  obtain ⟨o, ho⟩ := R.oper hr
  rcases (R.recOk ho hr).nw with ⟨h1, _⟩ | ⟨h1, h2⟩
  · rw [h1] at h; simp at h
  · rw [h1] at h; simp at h; exact ⟨h.symm, by rw [h2, h], R.lt hr⟩

theorem Run.nw_uniq (R : Run cx ops base hb nt next l nx obs) {i j n : Nat} (hi : nwIs l n i = true) (hj : nwIs l n j = true) : i = j := by
  obtain ⟨a1, a2, a3⟩ := R.nw_at hi
  obtain ⟨b1, b2, b3⟩ := R.nw_at hj
  rcases Nat.lt_trichotomy i j with h | h | h
  · have := R.nx_mono (i := i + 1) (j := j) (by omega) (by omega); omega
  · exact h
  · have := R.nx_mono (i := j + 1) (j := i) (by omega) (by omega); omega

def btAll (l : List Rec) : Nat → Bool := btR l.reverse

theorem Run.bt_ok (R : Run cx ops base hb nt next l nx obs) {i t : Nat} (hi : i ≤ ops.size) (h : inRecs (l.take i).reverse t = true) (c : Bool) (hc : testOf (lookT (fun _ => .un) (l.take i).reverse t) = some c) : btAll l t = c := by
  have e : l.reverse = (l.take ops.size).reverse := by rw [← R.len, List.take_length]
  simp only [btAll, btR, e, R.look_stable hi (Nat.le_refl _) h, hc]
  rfl

/-- What holds when the operations of D are done, in whatever order. -/
structure InvD (l : List Rec) (base : Nat → AV) (hb : Hp) (nt next : Nat) (Es : Env) (ws : World) (D : Nat → Bool) (E : Env) (a : Act) (w : World) : Prop where
  tm : ∀ t, GRel (btAll l) E (verT D l base t) (a.tmps.getD t undef)
  hp : HRel E (verH D l hb) w
  inj : Inj E
  bd : Bd E w
  nm : ∀ n, next ≤ n → E n ≠ none → ∃ j, D j = true ∧ nwIs l n j = true
  sz : a.tmps.size = nt
  df : a.defers = []
  tr : Tr Es ws E w

theorem put_getD (a : Act) (d : Option Nat) (v : Value) (t : Nat) (h : ∀ k, d = some k → k < a.tmps.size) : (a.put d v).tmps.getD t undef = if d = some t then v else a.tmps.getD t undef := by
  cases d with
  | none => simp [Act.put]
  | some k =>
    have hk := h k rfl
    by_cases hkt : k = t
    · subst hkt
      simp [Act.put, Array.getElem?_setIfInBounds, hk]
    · simp [Act.put, Array.getElem?_setIfInBounds_ne hkt, hkt]

theorem put_size (a : Act) (d : Option Nat) (v : Value) : (a.put d v).tmps.size = a.tmps.size := by cases d <;> simp [Act.put]
theorem put_df (a : Act) (d : Option Nat) (v : Value) : (a.put d v).defers = a.defers := by cases d <;> simp [Act.put]

def addD (D : Nat → Bool) (i : Nat) : Nat → Bool := fun j => D j || j == i

theorem verT_add {D : Nat → Bool} {l : List Rec} {base : Nat → AV} {i t : Nat} {r : Rec} (hr : l[i]? = some r) (hd : r.dst = some t) (hlat : ∀ j, D j = true → i < j → dstIs l t j = false) : verT (addD D i) l base t = r.res := by
  have hi : i < l.length := (List.getElem?_eq_some_iff.1 hr).1
  unfold verT
  rw [last_is hi (by simp [addD, dstIs, hr, hd]) (fun k h1 h2 => by
    simp only [addD]
    have : (k == i) = false := by simp; omega
    rw [this]
    cases hD : D k with
    | false => simp
    | true => simp [hlat k hD h1])]
  simp [resAt, hr]

theorem verT_add_other {D : Nat → Bool} {l : List Rec} {base : Nat → AV} {i t : Nat} (hd : dstIs l t i = false) : verT (addD D i) l base t = verT D l base t := by
  unfold verT
  have h : ∀ j, j < l.length → (fun j => addD D i j && dstIs l t j) j = (fun j => D j && dstIs l t j) j := by
    intro j hj
    show (addD D i j && dstIs l t j) = (D j && dstIs l t j)
    by_cases he : j = i
    · rw [he, hd]; simp
    · have : (j == i) = false := by simpa using he
      simp [addD, this]
  rw [last_congr h]

theorem verH_add {D : Nat → Bool} {l : List Rec} {hb : Hp} {i n : Nat} {r : Rec} {b : Option Blk} (hr : l[i]? = some r) (hd : hwL r.hw n = some b) (hlat : ∀ j, D j = true → i < j → hwIs l n j = false) : verH (addD D i) l hb n = b := by
  have hi : i < l.length := (List.getElem?_eq_some_iff.1 hr).1
  unfold verH
  rw [last_is hi (by simp [addD, hwIs, hr, hd]) (fun k h1 h2 => by
    simp only [addD]
    have : (k == i) = false := by simp; omega
    rw [this]
    cases hD : D k with
    | false => simp
    | true => simp [hlat k hD h1])]
  simp [hwAt, hr, hd]

theorem verH_add_other {D : Nat → Bool} {l : List Rec} {hb : Hp} {i n : Nat} (hd : hwIs l n i = false) : verH (addD D i) l hb n = verH D l hb n := by
  unfold verH
  have h : ∀ j, j < l.length → (fun j => addD D i j && hwIs l n j) j = (fun j => D j && hwIs l n j) j := by
    intro j hj
    show (addD D i j && hwIs l n j) = (D j && hwIs l n j)
    by_cases he : j = i
    · rw [he, hd]; simp
    · have : (j == i) = false := by simpa using he
      simp [addD, this]
  rw [last_congr h]

/-- One operation more. -/
theorem Run.step (R : Run cx ops base hb nt next l nx obs) (hΓ : TabOk cx.P cx.Γ) (hI : InlOk cx.P cx.inl) (hobs : ∀ i, i < ops.size → (obs i).holds)
    {Es : Env} {ws : World} {D : Nat → Bool} {E : Env} {a : Act} {w : World} (I : InvD l base hb nt next Es ws D E a w) {i : Nat} {o : Oper} {r : Rec} (ho : ops[i]? = some o) (hr : l[i]? = some r)
    (hDi : D i = false)
    (c1 : ∀ t ∈ o.looksAt ops, verT D l base t = lookT base (l.take i).reverse t)
    (c2 : ∀ n, touched r n → r.nw ≠ some n → verH D l hb n = lookH hb (l.take i).reverse n)
    (c2' : r.inl = true → (∀ n, verH D l hb n = lookH hb (l.take i).reverse n) ∧ (∀ j, D j = true → j < i))
    (c3 : ∀ j, D j = true → i < j → (∀ t, r.dst = some t → dstIs l t j = false) ∧ (∀ n b, hwL r.hw n = some b → hwIs l n j = false))
    {Q : Exit → Act → World → Prop} {K : Act → World → Prop} (hK : ∀ E' a' w', InvD l base hb nt next Es ws (addD D i) E' a' w' → K a' w') :
    wpOp cx.P ops Q i K a w := by
  have hi : i < ops.size := R.lt hr
  have hle : i ≤ l.length := by rw [R.len]; omega
  have rk := R.recOk ho hr
  refine op_step hΓ hI ho (R.at_ i o r ho hr) (hobs i hi) (R.wf i (by omega)) (bt := btAll l) (fun t ht c hc => R.bt_ok (by omega) ht c hc)
    (fun t ht => by rw [← c1 t ht]; exact I.tm t) ?_ ?_ I.inj I.bd ?_ ?_ ?_
  · intro n hn hnw B hB
    rw [← c2 n hn hnw] at hB
    exact I.hp n B hB
  · intro hinl n B hB
    rw [← (c2' hinl).1 n] at hB
    exact I.hp n B hB
  · intro n hn
    refine Classical.byContradiction fun hne => ?_
    have hnn : nwIs l n i = true := by simp [nwIs, hr, hn]
    have h1 := R.nw_at hnn
    have h2 := R.nx_mono (i := 0) (j := i) (by omega) (by omega)
    rw [R.first] at h2
    obtain ⟨j, hj, hnj⟩ := I.nm n (by omega) hne
    have := R.nw_uniq hnn hnj
    subst this
    rw [hDi] at hj
    simp at hj
  · intro hinl n hn
    refine Classical.byContradiction fun hne => ?_
    have h2 := R.nx_mono (i := 0) (j := i) (by omega) (by omega)
    rw [R.first] at h2
    obtain ⟨j, hj, hnj⟩ := I.nm n (by omega) hne
    have hji := (c2' hinl).2 j hj
    obtain ⟨e1, e2, _⟩ := R.nw_at hnj
    have := R.nx_mono (i := j + 1) (j := i) (by omega) (by omega)
    omega
  · intro E' x w' p
    have hdlt : ∀ k, o.dst = some k → k < a.tmps.size := fun k hk => by rw [I.sz]; exact (rk.lt k (by rw [rk.dst, hk])).1
    refine hK E' (a.put o.dst x) w' ⟨?_, ?_, p.inj, p.bd, ?_, by rw [put_size]; exact I.sz, by rw [put_df]; exact I.df, I.tr.trans p.tr⟩
    · intro t
      rw [put_getD a o.dst x t hdlt]
      by_cases hd : o.dst = some t
      · rw [if_pos hd, verT_add hr (by rw [rk.dst, hd]) (fun j hj hij => (c3 j hj hij).1 t (by rw [rk.dst, hd]))]
        exact p.rel
      · rw [if_neg hd, verT_add_other (by simp only [dstIs, hr, rk.dst]; simpa using hd)]
        exact GRel_mono p.tr.sub (I.tm t)
    · intro n B hB
      cases hw : hwL r.hw n with
      | some b =>
        rw [verH_add hr hw (fun j hj hij => (c3 j hj hij).2 n b hw)] at hB
        exact p.wrote n b hw B hB
      | none =>
        rw [verH_add_other (by simp [hwIs, hr, hw])] at hB
        cases hinl : r.inl with
        | false =>
          obtain ⟨k, h1, h2, h3⟩ := I.hp n B hB
          exact ⟨k, p.tr.sub n k h1, ok_mono p.tr.sub h2, by rw [p.other hinl n k h1 hw, h3, cells_mono p.tr.sub h2]⟩
        | true =>
          rw [(c2' hinl).1 n] at hB
          exact p.inl hinl n B (by simp only [updH, hw]; exact hB)
    · intro n hn hne
      by_cases hE : E n = none
      · have := p.names n hE hne
        exact ⟨i, by simp [addD], by simp [nwIs, hr, this]⟩
      · obtain ⟨j, hj, hnj⟩ := I.nm n hn hE
        exact ⟨j, by simp [addD, hj], hnj⟩

/-- In the text's order. -/
theorem Run.seq (R : Run cx ops base hb nt next l nx obs) (hΓ : TabOk cx.P cx.Γ) (hI : InlOk cx.P cx.inl) (hobs : ∀ i, i < ops.size → (obs i).holds)
    {Es : Env} {ws : World} {Q : Exit → Act → World → Prop} (hQ : ∀ E a w, InvD l base hb nt next Es ws (fun j => decide (j < ops.size)) E a w → Q .normal a w) :
    ∀ (k i : Nat), i + k = ops.size → ∀ (E : Env) (a : Act) (w : World), InvD l base hb nt next Es ws (fun j => decide (j < i)) E a w → wpOps cx.P ops Q (List.range' i k) a w
  | 0, i, h, E, a, w, I => by
    simp only [Nat.add_zero] at h
    subst h
    exact hQ E a w I
  | k + 1, i, h, E, a, w, I => by
    rw [List.range'_succ, wpOps_cons]
    obtain ⟨o, r, ho, hr⟩ := R.get (i := i) (by omega)
    have hle : i ≤ l.length := by rw [R.len]; omega
    refine R.step hΓ hI hobs I ho hr (by simp) (fun t _ => verT_below base l i hle t) (fun n _ _ => verH_below hb l i hle n)
      (fun _ => ⟨fun n => verH_below hb l i hle n, fun j hj => by simpa using hj⟩) (fun j hj hij => by simp at hj; omega) ?_
    intro E' a' w' I'
    refine R.seq hΓ hI hobs hQ k (i + 1) (by omega) E' a' w' ?_
    have : addD (fun j => decide (j < i)) i = fun j => decide (j < i + 1) := by
      funext j
      simp only [addD]
      by_cases h1 : j < i
      · simp [h1]; omega
      · by_cases h2 : j = i
        · simp [h2]
        · have : ¬ j < i + 1 := by omega
          simp [h1, h2, this]
    rwa [this] at I'

end

end Go.Rf

/- A region that draws its order. -/
namespace Go.Rf

def maskOf (acc : List Nat) (o : Oper) : Nat :=
  o.after.toList.foldl (fun s e => if Region.binds .any e then s ||| (2 ^ e.on) ||| acc.getD e.on 0 else s) 0

def masks : List Oper → List Nat → List Nat
  | [], acc => acc
  | o :: os, acc => masks os (acc ++ [maskOf acc o])

theorem masks_spec : ∀ (os : List Oper) (acc : List Nat), ∃ ms, masks os acc = acc ++ ms ∧ ms.length = os.length ∧
    ∀ (i : Nat) (o : Oper), os[i]? = some o → (masks os acc)[acc.length + i]? = some (maskOf ((masks os acc).take (acc.length + i)) o)
  | [], acc => ⟨[], by simp [masks], rfl, by simp⟩
  | o :: os, acc => by
    obtain ⟨ms, h1, h2, h3⟩ := masks_spec os (acc ++ [maskOf acc o])
    refine ⟨maskOf acc o :: ms, by simp [masks, h1], by simp [h2], ?_⟩
    intro i o' ho
    simp only [masks]
    cases i with
    | zero =>
      simp at ho
      subst ho
      simp [h1]
    | succ i =>
      simp at ho
      have := h3 i o' ho
      simp only [List.length_append, List.length_singleton] at this
      rw [show acc.length + (i + 1) = acc.length + 1 + i by omega]
      exact this

theorem maskOf_bits {D : Nat → Bool} {acc : List Nat} {o : Oper} (he : ∀ e ∈ o.after, Region.binds .any e = true → D e.on = true)
    (hacc : ∀ e ∈ o.after, Region.binds .any e = true → ∀ k, (acc.getD e.on 0).testBit k = true → D k = true) : ∀ k, (maskOf acc o).testBit k = true → D k = true := by
  unfold maskOf
  have key : ∀ (es : List Edge) (s : Nat), (∀ e ∈ es, e ∈ o.after) → (∀ k, s.testBit k = true → D k = true) →
      ∀ k, (es.foldl (fun s e => if Region.binds .any e then s ||| (2 ^ e.on) ||| acc.getD e.on 0 else s) s).testBit k = true → D k = true := by
    intro es
    induction es with
    | nil => intro s _ hs k hk; exact hs k hk
    | cons e es ih =>
      intro s hm hs
      simp only [List.foldl_cons]
      refine ih _ (fun x hx => hm x (by simp [hx])) ?_
      split
      · rename_i hb
        intro k hk
        simp only [Nat.testBit_or, Bool.or_eq_true] at hk
        rcases hk with (hk | hk) | hk
        · exact hs k hk
        · rw [Nat.testBit_two_pow] at hk
          simp at hk
          subst hk
          exact he e (hm e (by simp)) hb
        · exact hacc e (hm e (by simp)) hb k hk
      · exact hs
  exact key o.after.toList 0 (fun e h => by simpa using h) (by simp)

def touchL (r : Rec) : List Nat := r.rd.toList ++ r.hw.map (·.1)

theorem hwL_mem {l : List (Nat × Option Blk)} {n : Nat} {b : Option Blk} (h : hwL l n = some b) : ∃ x ∈ l, x.1 = n := by
  induction l with
  | nil => simp [hwL] at h
  | cons a l ih =>
    obtain ⟨k, v⟩ := a
    simp only [hwL] at h
    split at h
    · rename_i hk; exact ⟨(k, v), by simp, by simpa using hk⟩
    · obtain ⟨x, hx, e⟩ := ih h; exact ⟨x, by simp [hx], e⟩

theorem touched_mem {r : Rec} {n : Nat} (h : touched r n) : n ∈ touchL r := by
  rcases h with h | ⟨b, h⟩
  · simp [touchL, h]
  · obtain ⟨x, hx, e⟩ := hwL_mem h
    simp only [touchL, List.mem_append, List.mem_map]
    exact .inr ⟨x, hx, e⟩

def indep (ops : Array Oper) (oi : Oper) (ri : Rec) (oj : Oper) (rj : Rec) : Bool :=
  (match ri.dst with
    | some d => !((oj.looksAt ops).contains d) && rj.dst != some d
    | none => true) &&
  (match rj.dst with
    | some d => !((oi.looksAt ops).contains d)
    | none => true) &&
  (ri.hw.all fun x => !((touchL rj).contains x.1)) && (rj.hw.all fun x => !((touchL ri).contains x.1))

def pairsOk (ops : Array Oper) (l : List Rec) (ms : List Nat) : Bool :=
  (List.range ops.size).all fun j => (List.range j).all fun i => (ms.getD j 0).testBit i ||
    match ops[i]?, l[i]?, ops[j]?, l[j]? with
    | some oi, some ri, some oj, some rj => indep ops oi ri oj rj
    | _, _, _, _ => false

def backOk (ops : Array Oper) : Bool :=
  (List.range ops.size).all fun i => match ops[i]? with
    | some o => o.after.toList.all fun e => !(Region.binds .any e) || decide (e.on < i)
    | none => true

def drawOk (P : Program) (ops : Array Oper) (l : List Rec) : Bool :=
  P.follows .mixedOrders && backOk ops && (l.all fun r => !r.inl) && pairsOk ops l (masks ops.toList [])

section
variable {cx : Cx} {ops : Array Oper} {base : Nat → AV} {hb : Hp} {nt next : Nat} {l : List Rec} {nx : Nat → Nat} {obs : Nat → Ob}

theorem pair_spec (hp : pairsOk ops l (masks ops.toList []) = true) {i j : Nat} (hij : i < j) (hj : j < ops.size) {oi oj : Oper} {ri rj : Rec} (h1 : ops[i]? = some oi) (h2 : l[i]? = some ri) (h3 : ops[j]? = some oj) (h4 : l[j]? = some rj) :
    ((masks ops.toList []).getD j 0).testBit i = true ∨ indep ops oi ri oj rj = true := by
  unfold pairsOk at hp
  rw [List.all_eq_true] at hp
  have := hp j (by simpa using hj)
  rw [List.all_eq_true] at this
  have := this i (by simpa using hij)
  simpa [h1, h2, h3, h4] using this

def DC (ops : Array Oper) (D : Nat → Bool) : Prop := ∀ j, D j = true → ∀ k, ((masks ops.toList []).getD j 0).testBit k = true → D k = true

theorem mask_at {i : Nat} {o : Oper} (ho : ops[i]? = some o) : (masks ops.toList []).getD i 0 = maskOf ((masks ops.toList []).take i) o := by
  obtain ⟨ms, h1, h2, h3⟩ := masks_spec ops.toList []
  have := h3 i o (by simpa using ho)
  simp only [List.length_nil, Nat.zero_add] at this
  simp [List.getD_eq_getElem?_getD, this]

theorem DC.ready {D : Nat → Bool} (hd : DC ops D) {i : Nat} {o : Oper} (ho : ops[i]? = some o) (he : ∀ e ∈ o.after, Region.binds .any e = true → D e.on = true) :
    ∀ k, ((masks ops.toList []).getD i 0).testBit k = true → D k = true := by
  rw [mask_at ho]
  refine maskOf_bits he (fun e h hb k hk => ?_)
  refine hd e.on (he e h hb) k ?_
  simp only [List.getD_eq_getElem?_getD, List.getElem?_take] at hk ⊢
  split at hk
  · exact hk
  · simp at hk

theorem Run.any (R : Run cx ops base hb nt next l nx obs) (hΓ : TabOk cx.P cx.Γ) (hI : InlOk cx.P cx.inl) (hobs : ∀ i, i < ops.size → (obs i).holds) (hdr : drawOk cx.P ops l = true)
    {Es : Env} {ws : World} {Q : Exit → Act → World → Prop} (hQ : ∀ E a w, InvD l base hb nt next Es ws (fun j => decide (j < ops.size)) E a w → Q .normal a w) :
    ∀ (fuel : Nat) (listed : Array Bool) (E : Env) (a : Act) (w : World), listed.size = ops.size → ((List.range ops.size).filter fun j => !listed.getD j false).length ≤ fuel →
      DC ops (fun j => listed.getD j false) → InvD l base hb nt next Es ws (fun j => listed.getD j false) E a w → wpAny cx.P .any ops Q fuel listed a w := by
  simp only [drawOk, Bool.and_eq_true] at hdr
  obtain ⟨⟨⟨hm, hback⟩, hninl⟩, hpairs⟩ := hdr
  -- nothing ready: all are done
  have stuck : ∀ (listed : Array Bool), listed.size = ops.size → Region.ready .any ops listed = [] → ∀ j, j < ops.size → listed.getD j false = true := by
    intro listed hsz hr
    intro j
    induction j using Nat.strongRecOn with
    | _ j ih =>
      intro hj
      refine Classical.byContradiction fun hne => ?_
      have hmem : j ∈ Region.ready .any ops listed := by
        rw [mem_ready]
        refine ⟨?_, ops[j], by simp [hj], ?_⟩
        · have : j < listed.size := by omega
          simp [this] at hne ⊢
          exact hne
        · intro e he hb
          unfold backOk at hback
          rw [List.all_eq_true] at hback
          have h1 := hback j (by simpa using hj)
          simp only [Array.getElem?_eq_getElem hj, List.all_eq_true] at h1
          have h2 := h1 e (by simpa using he)
          simp only [hb, Bool.not_true, Bool.false_or, decide_eq_true_eq] at h2
          exact ih e.on h2 (by omega)
      rw [hr] at hmem
      simp at hmem
  have fin : ∀ (listed : Array Bool) (E : Env) (a : Act) (w : World), listed.size = ops.size → InvD l base hb nt next Es ws (fun j => listed.getD j false) E a w → Region.ready .any ops listed = [] → Q .normal a w := by
    intro listed E a w hsz I hr
    refine hQ E a w ?_
    have : (fun j => listed.getD j false) = fun j => decide (j < ops.size) := by
      funext j
      by_cases hj : j < ops.size
      · simp only [hj, decide_true]; exact stuck listed hsz hr j hj
      · have : ¬ j < listed.size := by omega
        simp [hj, this]
    rwa [this] at I
  intro fuel
  induction fuel with
  | zero =>
    intro listed E a w hsz hc hd I
    have hr : Region.ready .any ops listed = [] := by
      refine List.eq_nil_iff_forall_not_mem.2 fun j hj => ?_
      have h0 := (mem_ready.1 hj).1
      obtain ⟨_, o, ho, _⟩ := mem_ready.1 hj
      have hlt : j < ops.size := (Array.getElem?_eq_some_iff.1 ho).1
      have hnil : ((List.range ops.size).filter fun j => !listed.getD j false) = [] := List.length_eq_zero_iff.1 (by omega)
      have : j ∈ ((List.range ops.size).filter fun j => !listed.getD j false) := by
        rw [List.mem_filter]
        refine ⟨by simpa using hlt, ?_⟩
        have : j < listed.size := by omega
        simp [this] at h0 ⊢
        exact h0
      rw [hnil] at this
      simp at this
    exact ⟨hr, fin listed E a w hsz I hr⟩
  | succ fuel ih =>
    intro listed E a w hsz hc hd I
    refine ⟨fin listed E a w hsz I, fun i hi => ?_⟩
    obtain ⟨h0, o, ho, hall⟩ := mem_ready.1 hi
    have hlt : i < ops.size := (Array.getElem?_eq_some_iff.1 ho).1
    obtain ⟨o', r, ho', hr⟩ := R.get hlt
    obtain rfl : o = o' := by rw [ho] at ho'; exact Option.some.inj ho'
    have hltl : i < listed.size := by omega
    have hDi : listed.getD i false = false := by simp [hltl] at h0 ⊢; exact h0
    have hready := hd.ready ho hall
    have rdst := (R.recOk ho hr).dst
    -- which of two comes first
    have later : ∀ j, listed.getD j false = true → i < j → ∀ oj rj, ops[j]? = some oj → l[j]? = some rj → indep ops o r oj rj = true := by
      intro j hj hij oj rj hoj hrj
      rcases pair_spec hpairs hij (R.lt hrj) ho hr hoj hrj with h | h
      · have := hd j hj i h
        simp only at this
        rw [hDi] at this
        simp at this
      · exact h
    have earlier : ∀ j, j < i → ∀ oj rj, ops[j]? = some oj → l[j]? = some rj → listed.getD j false = true ∨ indep ops oj rj o r = true := by
      intro j hij oj rj hoj hrj
      rcases pair_spec hpairs hij hlt hoj hrj ho hr with h | h
      · exact .inl (hready j h)
      · exact .inr h
    have hle : i ≤ l.length := by rw [R.len]; omega
    refine R.step hΓ hI hobs I ho hr hDi ?_ ?_ ?_ ?_ ?_
    · -- temporaries
      intro t ht
      rw [← verT_below base l i hle t]
      unfold verT
      have h : ∀ j, j < l.length → (fun j => (fun j => listed.getD j false) j && dstIs l t j) j = (fun j => decide (j < i) && dstIs l t j) j := by
        intro j hj
        show (listed.getD j false && dstIs l t j) = (decide (j < i) && dstIs l t j)
        cases hdj : dstIs l t j with
        | false => simp
        | true =>
          simp only [Bool.and_true]
          simp only [dstIs] at hdj
          split at hdj <;> try (simp at hdj; done)
          rename_i rj hrj
          simp at hdj
          obtain ⟨oj, hoj⟩ := R.oper hrj
          rcases Nat.lt_trichotomy j i with hji | hji | hji
          · rcases earlier j hji oj rj hoj hrj with h | h
            · simp [h, hji]
            · simp only [indep, hdj, Bool.and_eq_true, Bool.not_eq_true'] at h
              have := h.1.1.1.1
              rw [List.contains_eq_mem] at this
              simp [ht] at this
          · subst hji
            rw [hDi]; simp
          · have : ¬ j < i := by omega
            simp only [this, decide_false]
            cases hL : listed.getD j false with
            | false => rfl
            | true =>
              have h := later j hL hji oj rj hoj hrj
              simp only [indep, hdj, Bool.and_eq_true, Bool.not_eq_true'] at h
              have := h.1.1.2
              rw [List.contains_eq_mem] at this
              simp [ht] at this
      rw [last_congr h]
    · -- blocks
      intro n hn _
      rw [← verH_below hb l i hle n]
      unfold verH
      have h : ∀ j, j < l.length → (fun j => (fun j => listed.getD j false) j && hwIs l n j) j = (fun j => decide (j < i) && hwIs l n j) j := by
        intro j hj
        show (listed.getD j false && hwIs l n j) = (decide (j < i) && hwIs l n j)
        cases hdj : hwIs l n j with
        | false => simp
        | true =>
          simp only [Bool.and_true]
          simp only [hwIs] at hdj
          split at hdj <;> try (simp at hdj; done)
          rename_i rj hrj
          obtain ⟨b, hb'⟩ := Option.isSome_iff_exists.1 hdj
          obtain ⟨x, hx, hxn⟩ := hwL_mem hb'
          obtain ⟨oj, hoj⟩ := R.oper hrj
          rcases Nat.lt_trichotomy j i with hji | hji | hji
          · rcases earlier j hji oj rj hoj hrj with h | h
            · simp [h, hji]
            · simp only [indep, Bool.and_eq_true, List.all_eq_true] at h
              have := h.1.2 x hx
              rw [hxn, List.contains_eq_mem] at this
              simp [touched_mem hn] at this
          · subst hji
            rw [hDi]; simp
          · have : ¬ j < i := by omega
            simp only [this, decide_false]
            cases hL : listed.getD j false with
            | false => rfl
            | true =>
              have h := later j hL hji oj rj hoj hrj
              simp only [indep, Bool.and_eq_true, List.all_eq_true] at h
              have := h.2 x hx
              rw [hxn, List.contains_eq_mem] at this
              simp [touched_mem hn] at this
      rw [last_congr h]
    · intro h
      rw [List.all_eq_true] at hninl
      have := hninl r (List.mem_of_getElem? hr)
      simp [h] at this
    · intro j hj hij
      refine ⟨fun t ht => ?_, fun n b hn => ?_⟩
      · cases hrj : l[j]? with
        | none => simp [dstIs, hrj]
        | some rj =>
          obtain ⟨oj, hoj⟩ := R.oper hrj
          have h := later j hj hij oj rj hoj hrj
          simp only [indep, ht, Bool.and_eq_true] at h
          have := h.1.1.1.2
          simp only [dstIs, hrj]
          simpa using this
      · cases hrj : l[j]? with
        | none => simp [hwIs, hrj]
        | some rj =>
          obtain ⟨oj, hoj⟩ := R.oper hrj
          have h := later j hj hij oj rj hoj hrj
          simp only [indep, Bool.and_eq_true, List.all_eq_true] at h
          obtain ⟨x, hx, hxn⟩ := hwL_mem hn
          have := h.1.2 x hx
          rw [hxn, List.contains_eq_mem] at this
          simp only [hwIs, hrj]
          cases hq : hwL rj.hw n with
          | none => rfl
          | some bb =>
            have := touched_mem (r := rj) (.inr ⟨bb, hq⟩)
            simp_all
    · intro E' a' w' I'
      have hD' : addD (fun j => listed.getD j false) i = fun j => (listed.setIfInBounds i true).getD j false := by
        funext j
        simp only [addD]
        by_cases he : j = i
        · subst he; simp [hltl]
        · have : (j == i) = false := by simpa using he
          rw [this, Bool.or_false]
          simp only [Array.getD_eq_getD_getElem?]
          rw [Array.getElem?_setIfInBounds_ne (Ne.symm he)]
      rw [hD'] at I'
      refine ih (listed.setIfInBounds i true) E' a' w' (by simpa using hsz) ?_ ?_ I'
      · have e2 : (fun j => !(listed.setIfInBounds i true).getD j false) = fun j => !addD (fun j => listed.getD j false) i j := by
          funext j
          have := congrFun hD' j
          rw [this]
        rw [e2]
        have : ((List.range ops.size).filter fun j => !addD (fun j => listed.getD j false) i j).length < ((List.range ops.size).filter fun j => !listed.getD j false).length := by
          have e : ((List.range ops.size).filter fun j => !addD (fun j => listed.getD j false) i j) = ((List.range ops.size).filter fun j => !listed.getD j false).filter (fun j => !(j == i)) := by
            rw [List.filter_filter]
            congr 1
            funext j
            simp only [addD]
            cases listed.getD j false <;> simp
          rw [e]
          refine List.length_filter_lt_length_iff_exists.2 ⟨i, ?_, by simp⟩
          rw [List.mem_filter]
          exact ⟨by simpa using hlt, by rw [hDi]; rfl⟩
        omega
      · rw [← hD']
        intro j hj k hk
        simp only [addD, Bool.or_eq_true, beq_iff_eq] at hj ⊢
        rcases hj with hj | hj
        · exact .inl (hd j hj k hk)
        · subst hj; exact .inl (hready k hk)

end

end Go.Rf
