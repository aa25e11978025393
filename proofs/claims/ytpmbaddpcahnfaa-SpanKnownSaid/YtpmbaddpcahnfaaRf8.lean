/- Regions: whatever order is drawn. -/
import Derived.Test.YtpmbaddpcahnfaaRf7
set_option linter.unusedVariables false
set_option linter.unusedSimpArgs false
namespace Go.Rf

def evalOps (cx : Cx) (ops : Array Oper) (base : Nat → AV) (hb : Hp) (nt : Nat) : List Oper → List Rec → Nat → Option (List Rec × Nat × Ob)
  | [], recs, next => some (recs, next, .tt)
  | o :: os, recs, next => match evalOp cx ops base hb nt recs next o with
    | some (r, next', ob) => match evalOps cx ops base hb nt os (r :: recs) next' with
      | some (fin, n, ob') => some (fin, n, ob.and ob')
      | none => none
    | none => none

/-- What one operation's evaluation tells of its record. -/
structure RecOk (ops : Array Oper) (base : Nat → AV) (nt : Nat) (recs : List Rec) (next : Nat) (o : Oper) (r : Rec) (next' : Nat) : Prop where
  dst : r.dst = o.dst
  lt : ∀ d, r.dst = some d → d < nt ∧ inRecs recs d = false
  nw : (r.nw = none ∧ next' = next) ∨ (r.nw = some next ∧ next' = next + 1)
  gd : ∀ q u, r.res = .gd q u → AtomsIn recs q ∨ ¬ WfR recs

theorem mark_gd {p q : List (Nat × Bool)} {v u : AV} (h : mark p v = .gd q u) (hv : isGd v = false) : p = q := by
  cases p with
  | nil => simp only [mark] at h; subst h; simp [isGd] at hv
  | cons a l => simp only [mark, AV.gd.injEq] at h; exact h.1

theorem evalOp_rec {cx : Cx} {ops : Array Oper} {base : Nat → AV} {hb : Hp} {nt : Nat} {recs : List Rec} {next next' : Nat} {o : Oper} {r : Rec} {ob : Ob}
    (hev : evalOp cx ops base hb nt recs next o = some (r, next', ob)) : RecOk ops base nt recs next o r next' := by
  unfold evalOp at hev
  split at hev <;> try (simp at hev; done)
  rename_i hd
  have hlt : ∀ d, o.dst = some d → d < nt ∧ inRecs recs d = false := by
    intro d e
    rw [e] at hd
    simpa [dstOk] using hd
  split at hev <;> try (simp at hev; done)
  · simp only [Option.some.injEq, Prod.mk.injEq] at hev
    obtain ⟨rfl, rfl, rfl⟩ := hev
    exact ⟨rfl, hlt, .inl ⟨rfl, rfl⟩, fun q u h => by simp [plainRec] at h⟩
  · rename_i p hg
    have hat : AtomsIn recs p ∨ ¬ WfR recs := by
      by_cases hw : WfR recs
      · exact .inl (guardOf_atoms hw hg)
      · exact .inr hw
    have mk : ∀ {v : AV}, isGd v = false → ∀ q u, mark p v = .gd q u → AtomsIn recs q ∨ ¬ WfR recs := by
      intro v hv q u h
      rw [← mark_gd h hv]; exact hat
    split at hev
    · split at hev <;> try (simp at hev; done)
      split at hev <;> simp at hev
      rename_i hng
      obtain ⟨rfl, rfl, rfl⟩ := hev
      exact ⟨rfl, hlt, .inl ⟨rfl, rfl⟩, mk (by simpa using hng)⟩
    · split at hev <;> try (simp at hev; done)
      · split at hev <;> simp at hev
        rename_i hng
        obtain ⟨rfl, rfl, rfl⟩ := hev
        exact ⟨rfl, hlt, .inl ⟨rfl, rfl⟩, mk (by simpa using hng)⟩
      · split at hev <;> try (simp at hev; done)
        split at hev <;> try (simp at hev; done)
        split at hev <;> simp at hev
        rename_i hf
        obtain ⟨rfl, rfl, rfl⟩ := hev
        refine ⟨rfl, hlt, .inl ⟨rfl, rfl⟩, mk ?_⟩
        rename_i u _
        cases u <;> first | rfl | (simp [fits, big, sca] at hf)
      · split at hev <;> try (simp at hev; done)
        split at hev <;> try (simp at hev; done)
        split at hev <;> try (simp at hev; done)
        split at hev <;> simp at hev
        obtain ⟨rfl, rfl, rfl⟩ := hev
        exact ⟨rfl, hlt, .inl ⟨rfl, rfl⟩, fun q u h => by simp at h⟩
      · split at hev <;> simp at hev
        obtain ⟨rfl, rfl, rfl⟩ := hev
        refine ⟨rfl, hlt, .inr ⟨rfl, rfl⟩, fun q u h => ?_⟩
        rename_i T v s _ _
        cases s <;> simp [newAV] at h
      · split at hev
        · split at hev <;> simp at hev
          rename_i hng
          obtain ⟨rfl, rfl, rfl⟩ := hev
          exact ⟨rfl, hlt, .inl ⟨rfl, rfl⟩, mk (by simpa using hng)⟩
        · split at hev
          · rename_i res n0 ob' hrd
            simp only [Option.some.injEq, Prod.mk.injEq] at hev
            obtain ⟨rfl, rfl, rfl⟩ := hev
            refine ⟨rfl, hlt, .inl ⟨rfl, rfl⟩, mk ?_⟩
            unfold evalRd at hrd
            split at hrd <;> try (simp at hrd; done)
            split at hrd <;> try (simp at hrd; done)
            split at hrd <;> try (simp at hrd; done)
            split at hrd <;> try (simp at hrd; done)
            rename_i hng
            simp only [Bool.or_eq_true, Bool.not_eq_true', not_or, Bool.not_eq_true] at hng
            simp only [Option.some.injEq, Prod.mk.injEq] at hrd
            obtain ⟨rfl, rfl, rfl⟩ := hrd
            simpa using hng.1
          · split at hev <;> try (simp at hev; done)
            split at hev <;> try (simp at hev; done)
            split at hev <;> simp at hev
            rename_i hng
            obtain ⟨rfl, rfl, rfl⟩ := hev
            exact ⟨rfl, hlt, .inl ⟨rfl, rfl⟩, fun q u h => by simp only at h; subst h; simp [isGd] at hng⟩

/-- The records of a region, in the text's order: each is what its operation comes to behind those ahead of it. -/
structure Run (cx : Cx) (ops : Array Oper) (base : Nat → AV) (hb : Hp) (nt : Nat) (next : Nat) (l : List Rec) (nx : Nat → Nat) (obs : Nat → Ob) : Prop where
  len : l.length = ops.size
  at_ : ∀ (i : Nat) (o : Oper) (r : Rec), ops[i]? = some o → l[i]? = some r → evalOp cx ops base hb nt (l.take i).reverse (nx i) o = some (r, nx (i + 1), obs i)
  first : nx 0 = next

theorem evalOps_run {cx : Cx} {ops : Array Oper} {base : Nat → AV} {hb : Hp} {nt : Nat} : ∀ (os : List Oper) (recs : List Rec) (next : Nat) (fin : List Rec) (n : Nat) (ob : Ob),
    evalOps cx ops base hb nt os recs next = some (fin, n, ob) → ∃ (l : List Rec) (nx : Nat → Nat) (obs : Nat → Ob), fin = l.reverse ++ recs ∧ l.length = os.length ∧ nx 0 = next ∧ nx os.length = n ∧
      (∀ (i : Nat) (o : Oper) (r : Rec), os[i]? = some o → l[i]? = some r → evalOp cx ops base hb nt ((l.take i).reverse ++ recs) (nx i) o = some (r, nx (i + 1), obs i)) ∧ (ob.holds → ∀ i, i < os.length → (obs i).holds)
  | [], recs, next, fin, n, ob, h => by
    simp [evalOps] at h
    obtain ⟨rfl, rfl, rfl⟩ := h
    exact ⟨[], fun _ => next, fun _ => .tt, rfl, rfl, rfl, rfl, by simp, by simp⟩
  | o :: os, recs, next, fin, n, ob, h => by
    simp only [evalOps] at h
    split at h <;> try (simp at h; done)
    rename_i r next' ob1 h1
    split at h <;> simp at h
    rename_i fin' n' ob2 h2
    obtain ⟨rfl, rfl, rfl⟩ := h
    obtain ⟨l, nx, obs, e1, e2, e3, e4, e5, e6⟩ := evalOps_run os (r :: recs) next' fin' n' ob2 h2
    refine ⟨r :: l, fun i => match i with | 0 => next | i + 1 => nx i, fun i => match i with | 0 => ob1 | i + 1 => obs i, by simp [e1], by simp [e2], rfl, by simpa using e4, ?_, ?_⟩
    · intro i o' r' ho hr
      cases i with
      | zero =>
        simp at ho hr
        subst ho; subst hr
        simp [e3, h1]
      | succ i =>
        simp at ho hr
        have := e5 i o' r' ho hr
        simpa using this
    · intro hob i hi
      rw [Ob.and_holds] at hob
      cases i with
      | zero => exact hob.1
      | succ i => exact e6 hob.2 i (by simpa using hi)

/-! ### Versions -/

def last (p : Nat → Bool) : Nat → Option Nat
  | 0 => none
  | n + 1 => if p n then some n else last p n

theorem last_congr {p q : Nat → Bool} : ∀ {n : Nat}, (∀ j, j < n → p j = q j) → last p n = last q n
  | 0, _ => rfl
  | n + 1, h => by
    simp only [last, h n (by omega)]
    rw [last_congr (fun j hj => h j (by omega))]

theorem last_some {p : Nat → Bool} : ∀ {n j : Nat}, last p n = some j → j < n ∧ p j = true
  | n + 1, j, h => by
    simp only [last] at h
    split at h
    · rename_i hp; simp at h; subst h; exact ⟨by omega, hp⟩
    · obtain ⟨h1, h2⟩ := last_some h; exact ⟨by omega, h2⟩

theorem last_is {p : Nat → Bool} : ∀ {n j : Nat}, j < n → p j = true → (∀ k, j < k → k < n → p k = false) → last p n = some j
  | n + 1, j, hj, hp, h => by
    simp only [last]
    by_cases he : j = n
    · subst he; simp [hp]
    · rw [h n (by omega) (by omega)]
      simp
      exact last_is (by omega) hp (fun k h1 h2 => h k h1 (by omega))

theorem last_none {p : Nat → Bool} : ∀ {n : Nat}, (∀ k, k < n → p k = false) → last p n = none
  | 0, _ => rfl
  | n + 1, h => by
    simp only [last, h n (by omega)]
    simpa using last_none (fun k hk => h k (by omega))

theorem last_below {p : Nat → Bool} {i : Nat} : ∀ {n : Nat}, i ≤ n → last (fun j => decide (j < i) && p j) n = last p i
  | 0, h => by
    have : i = 0 := by omega
    subst this; rfl
  | n + 1, h => by
    by_cases he : i = n + 1
    · subst he
      exact last_congr (fun j hj => by simp [hj])
    · simp only [last]
      have : ¬ n < i := by omega
      simp only [this, decide_false, Bool.false_and, Bool.false_eq_true, if_false]
      exact last_below (by omega)

def dstIs (l : List Rec) (t : Nat) (j : Nat) : Bool := match l[j]? with
  | some r => r.dst == some t
  | none => false
def resAt (l : List Rec) (j : Nat) : AV := match l[j]? with
  | some r => r.res
  | none => .un
def hwIs (l : List Rec) (n : Nat) (j : Nat) : Bool := match l[j]? with
  | some r => (hwL r.hw n).isSome
  | none => false
def hwAt (l : List Rec) (n : Nat) (j : Nat) : Option Blk := match l[j]? with
  | some r => (hwL r.hw n).getD none
  | none => none

/-- What temporary t holds when the operations of D are done. -/
def verT (D : Nat → Bool) (l : List Rec) (base : Nat → AV) (t : Nat) : AV :=
  match last (fun j => D j && dstIs l t j) l.length with
  | some j => resAt l j
  | none => base t

def verH (D : Nat → Bool) (l : List Rec) (hb : Hp) (n : Nat) : Option Blk :=
  match last (fun j => D j && hwIs l n j) l.length with
  | some j => hwAt l n j
  | none => hb n

theorem lookT_last (base : Nat → AV) (l : List Rec) (t : Nat) : ∀ (i : Nat), i ≤ l.length → lookT base (l.take i).reverse t = match last (dstIs l t) i with
    | some j => resAt l j
    | none => base t
  | 0, _ => by simp [lookT, last]
  | i + 1, h => by
    have hr : l[i]? = some l[i] := List.getElem?_eq_getElem (by omega)
    have e : (l.take (i + 1)).reverse = l[i] :: (l.take i).reverse := by
      rw [List.take_succ_eq_append_getElem (by omega)]; simp
    rw [e]
    simp only [lookT, last, dstIs, hr]
    cases hd : l[i].dst with
    | none =>
      simp
      rw [lookT_last base l t i (by omega)]
    | some d =>
      by_cases hdt : d = t
      · simp [hdt, resAt, hr]
      · simp [hdt]
        rw [lookT_last base l t i (by omega)]

theorem lookH_last (hb : Hp) (l : List Rec) (n : Nat) : ∀ (i : Nat), i ≤ l.length → lookH hb (l.take i).reverse n = match last (hwIs l n) i with
    | some j => hwAt l n j
    | none => hb n
  | 0, _ => by simp [lookH, last]
  | i + 1, h => by
    have hr : l[i]? = some l[i] := List.getElem?_eq_getElem (by omega)
    have e : (l.take (i + 1)).reverse = l[i] :: (l.take i).reverse := by
      rw [List.take_succ_eq_append_getElem (by omega)]; simp
    rw [e]
    simp only [lookH, last, hwIs, hr]
    cases hd : hwL l[i].hw n with
    | none =>
      simp
      rw [lookH_last hb l n i (by omega)]
    | some d => simp [hwAt, hr, hd]

theorem verT_below (base : Nat → AV) (l : List Rec) (i : Nat) (hi : i ≤ l.length) (t : Nat) : verT (fun j => decide (j < i)) l base t = lookT base (l.take i).reverse t := by
  rw [lookT_last base l t i hi]
  unfold verT
  rw [last_below hi]

theorem verH_below (hb : Hp) (l : List Rec) (i : Nat) (hi : i ≤ l.length) (n : Nat) : verH (fun j => decide (j < i)) l hb n = lookH hb (l.take i).reverse n := by
  rw [lookH_last hb l n i hi]
  unfold verH
  rw [last_below hi]

end Go.Rf
