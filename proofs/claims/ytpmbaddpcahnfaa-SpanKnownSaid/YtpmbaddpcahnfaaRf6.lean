/- Memory as names; one operation with memory and guards. -/
import Derived.Test.YtpmbaddpcahnfaaRf5
import Derived.Below
set_option linter.unusedVariables false
set_option linter.unusedSimpArgs false
namespace Go.Rf

structure Blk where
  T : TypeId
  v : AV

abbrev Hp := Nat → Option Blk

def HRel (E : Env) (hp : Hp) (w : World) : Prop :=
  ∀ n B, hp n = some B → ∃ b, E n = some b ∧ ok E B.v ∧ w.heap[b]? = some (.cells (cells E [] B.v).toArray B.T (0, 0))

def Inj (E : Env) : Prop := ∀ n m b, E n = some b → E m = some b → n = m
def Bd (E : Env) (w : World) : Prop := ∀ n b, E n = some b → b < w.heap.size

/-- What has become of the world and of the names. -/
structure Tr (E : Env) (w : World) (E' : Env) (w' : World) : Prop where
  sub : Sub E E'
  new : ∀ n b, E' n = some b → E n = some b ∨ w.heap.size ≤ b
  os : w'.os = w.os
  tape : w'.tape = w.tape
  output : w'.output = w.output
  size : w.heap.size ≤ w'.heap.size
  keep : ∀ k, k < w.heap.size → (∀ n, E n ≠ some k) → w'.heap[k]? = w.heap[k]?

theorem Tr.refl (E : Env) (w : World) : Tr E w E w := ⟨Sub.refl E, fun _ _ h => .inl h, rfl, rfl, rfl, Nat.le_refl _, fun _ _ _ => rfl⟩

theorem Tr.trans {E E' E'' : Env} {w w' w'' : World} (h : Tr E w E' w') (h' : Tr E' w' E'' w'') : Tr E w E'' w'' where
  sub := h.sub.trans h'.sub
  new := fun n b e => by
    rcases h'.new n b e with h1 | h1
    · exact h.new n b h1
    · exact .inr (Nat.le_trans h.size h1)
  os := h'.os.trans h.os
  tape := h'.tape.trans h.tape
  output := h'.output.trans h.output
  size := Nat.le_trans h.size h'.size
  keep := fun k hk hn => by
    rw [h'.keep k (Nat.lt_of_lt_of_le hk h.size) ?_, h.keep k hk hn]
    intro n e
    rcases h.new n k e with h1 | h1
    · exact hn n h1
    · omega

theorem Tr.below {w w' : World} {E' : Env} (h : Tr (fun _ => none) w E' w') : RowKit.Below w.heap.size w w' :=
  ⟨h.os, h.tape, h.output, h.size, fun k hk => h.keep k hk (by simp)⟩

theorem Tr.of_below {E : Env} {w w' : World} (h : RowKit.Below w.heap.size w w') : Tr E w E w' :=
  ⟨Sub.refl E, fun _ _ h => .inl h, h.os, h.tape, h.output, h.size, fun k hk _ => h.block k hk⟩

theorem HRel.of_keep {E E' : Env} {hp : Hp} {w w' : World} (h : HRel E hp w) (hb : Bd E w) (hs : Sub E E') (hk : ∀ n b, E n = some b → w'.heap[b]? = w.heap[b]?) : HRel E' hp w' := by
  intro n B hn
  obtain ⟨b, h1, h2, h3⟩ := h n B hn
  exact ⟨b, hs n b h1, ok_mono hs h2, by rw [hk n b h1, h3, cells_mono hs h2]⟩

/-! ### Loads and stores -/

theorem loadVar_run {P : Program} {T : TypeId} {E : Env} {v u : AV} {b : Nat} {p : List Stp} {B : TypeId} {w : World} (hw : w.heap[b]? = some (.cells (cells E [] v).toArray B (0, 0)))
    (hg : get p v = some u) (hb : getB p v) (hf : fits P T u = true) : (loadVar T ⟨b, offOf p, none⟩).run P w = .ok (val E u) w := by
  obtain ⟨pre, post, he, hl⟩ := get_cells E p v u hg hb
  simp only [fits, Bool.and_eq_true, beq_iff_eq] at hf
  obtain ⟨⟨h1, h2⟩, h3⟩ := hf
  unfold loadVar
  rw [Sem.run_bind, run_isAgg h2 w]
  simp only [Result.andThen_ok]
  split at h3
  · rename_i hbg
    rw [if_pos hbg, Sem.run_bind, run_sizeOf h1 w]
    simp only [Result.andThen_ok, Sem.run_bind]
    have hl2 := run_loadCells_list (P := P) w ⟨b, offOf p, none⟩ (cells E [] u) (fun j x hx => by
      have hadd : (⟨b, offOf p, none⟩ : Addr).add j = ⟨b, offOf p + j, none⟩ := by unfold Addr.add; split <;> simp_all
      rw [hadd, cell_of_row w b _ _ B (0, 0) hw]
      simp only [List.getElem?_toArray, he]
      rw [List.append_assoc, List.getElem?_append_right (by omega), ← hl]
      simp only [Nat.add_sub_cancel_left]
      rw [List.getElem?_append_left (List.getElem?_eq_some_iff.1 hx).1]
      exact hx)
    rw [length_cells] at hl2
    rw [hl2]
    simp only [Result.andThen_ok, Sem.run_pure, val_big h3]
  · rename_i hbg
    rw [if_neg hbg]
    have hc : w.cell? ⟨b, offOf p, none⟩ = some (val E u) := by
      rw [cell_of_row w b _ _ B (0, 0) hw]
      simp only [List.getElem?_toArray, he, cells_sca h3]
      rw [List.append_assoc, List.getElem?_append_right (by omega), ← hl]
      simp
    rw [run_load, hc]

theorem oneCell_cells {E : Env} (v : AV) (hv : ok E v) : ∀ ix, ∀ x ∈ cells E ix v, x.oneCell' = true := by
  induction v with
  | cons a b iha ihb => intro ix x hx; simp only [cells, List.mem_append] at hx; rcases hx with h | h; exact iha hv.1 ix x h; exact ihb hv.2 ix x h
  | agg fs ih => intro ix x hx; exact ih hv ix x hx
  | arr n b ih =>
    intro ix x hx
    simp only [cells, List.mem_flatMap] at hx
    obtain ⟨i, _, hx⟩ := hx
    exact ih hv _ x hx
  | nil => intro ix x hx; simp [cells] at hx
  | un => exact hv.elim
  | tup _ => exact hv.elim
  | gd _ _ => exact hv.elim
  | _ => intro ix x hx; simp [cells] at hx; subst hx; rfl

theorem storeVar_run {P : Program} {T : TypeId} {E : Env} {v u v' : AV} {b : Nat} {p : List Stp} {B : TypeId} {w : World} (hw : w.heap[b]? = some (.cells (cells E [] v).toArray B (0, 0)))
    (hg : set p v u = some v') (hb : getB p v) (hu : ok E u) (hsb : sca u = true ∨ big u = true) (hsz : szT P T = some (sz u)) :
    (storeVar T ⟨b, offOf p, none⟩ (val E u)).run P w = .ok () (w.setRow b (cells E [] v').toArray) := by
  obtain ⟨pre, mid, post, he, hl, hm, he'⟩ := set_cells E p v u v' hg hb
  unfold storeVar
  rw [Sem.run_bind, run_sizeOf hsz w]
  simp only [Result.andThen_ok]
  rw [if_neg (by rw [val_cells hsb]; simp [length_cells])]
  rw [val_cells hsb]
  simp only [Sem.run_bind, Sem.run_pure, Result.andThen_ok, List.toList_toArray]
  have := run_storeCells_at P b (offOf p) B (cells E [] u) 0 (cells E [] v).toArray w hw (by rw [he]; simp [length_cells, hl, hm]) (oneCell_cells u hu [])
  rw [this]
  congr 3
  rw [he']
  simp only [Nat.add_zero, List.size_toArray, he, length_cells]
  have h1 : (pre ++ mid ++ post).take (offOf p) = pre := by rw [← hl]; simp
  have h2 : (pre ++ mid ++ post).drop (offOf p + sz u) = post := by
    have : offOf p + sz u = (pre ++ mid).length := by simp [hl, hm]
    rw [this, List.drop_left]
  rw [h1, h2]

/-! ### Records of operations -/

structure Rec where
  dst : Option Nat
  res : AV
  hw : List (Nat × Option Blk)
  rd : Option Nat
  nw : Option Nat
  inl : Bool

def lookL (l : List (Nat × AV)) (t : Nat) : Option AV :=
  match l with
  | [] => none
  | (k, v) :: l => if k == t then some v else lookL l t

def hwL (l : List (Nat × Option Blk)) (n : Nat) : Option (Option Blk) :=
  match l with
  | [] => none
  | (k, v) :: l => if k == n then some v else hwL l n

/-- What a temporary holds behind these operations (the newest first). -/
def lookT (base : Nat → AV) : List Rec → Nat → AV
  | [], t => base t
  | r :: rs, t => match r.dst with
    | some d => if d == t then r.res else lookT base rs t
    | none => lookT base rs t

def lookH (base : Hp) : List Rec → Nat → Option Blk
  | [], n => base n
  | r :: rs, n => match hwL r.hw n with
    | some b => b
    | none => lookH base rs n

def inRecs : List Rec → Nat → Bool
  | [], _ => false
  | r :: rs, t => r.dst == some t || inRecs rs t

def pre? : List (Nat × Bool) → List (Nat × Bool) → Bool
  | [], _ => true
  | a :: l, b :: m => a.1 == b.1 && a.2 == b.2 && pre? l m
  | _, [] => false

/-- A value under a guard, where the guard is known to hold. -/
def strip (p : List (Nat × Bool)) : AV → AV
  | .gd q v => if pre? q p then v else .un
  | v => v

def holdsP (bt : Nat → Bool) : List (Nat × Bool) → Prop
  | [] => True
  | (t, b) :: l => bt t = b ∧ holdsP bt l

theorem holdsP_pre {bt : Nat → Bool} : ∀ {q p : List (Nat × Bool)}, pre? q p = true → holdsP bt p → holdsP bt q
  | [], _, _, _ => trivial
  | a :: l, b :: m, h, hp => by
    simp only [pre?, Bool.and_eq_true, beq_iff_eq] at h
    obtain ⟨⟨h1, h2⟩, h3⟩ := h
    obtain ⟨h4, h5⟩ := hp
    exact ⟨by rw [h1, h2]; exact h4, holdsP_pre h3 h5⟩
  | _ :: _, [], h, _ => by simp [pre?] at h

theorem holdsP_snoc {bt : Nat → Bool} : ∀ {q : List (Nat × Bool)} {t : Nat} {b : Bool}, holdsP bt (q ++ [(t, b)]) ↔ holdsP bt q ∧ bt t = b
  | [], t, b => by simp [holdsP]
  | a :: l, t, b => by simp only [List.cons_append, holdsP, holdsP_snoc]; exact and_assoc.symm

/-- What is known of a temporary inside a region. -/
def GRel (bt : Nat → Bool) (E : Env) (v : AV) (x : Value) : Prop :=
  match v with
  | .gd q u => (holdsP bt q → TRel E u x) ∧ (¬ holdsP bt q → x = undef)
  | v => TRel E v x

theorem GRel_mono {bt : Nat → Bool} {E E' : Env} (hs : Sub E E') {v : AV} {x : Value} (h : GRel bt E v x) : GRel bt E' v x := by
  cases v <;> first
    | exact ⟨fun hq => TRel_mono hs (h.1 hq), h.2⟩
    | (simp only [GRel] at h ⊢; exact TRel_mono hs h)

theorem GRel_strip {bt : Nat → Bool} {E : Env} {p : List (Nat × Bool)} (hp : holdsP bt p) {v : AV} {x : Value} (h : GRel bt E v x) : TRel E (strip p v) x := by
  cases v <;> first
    | (simp only [strip]
       split
       · rename_i hq; exact h.1 (holdsP_pre hq hp)
       · trivial)
    | exact h

inductive GP where
  | run (p : List (Nat × Bool))
  | skip

/-- Is an operation carried out, whose guard asks temporary t (which holds v) to be b? -/
def gpath (v : AV) (t : Nat) (b : Bool) : Option GP :=
  match v with
  | .blit c => if c == b then some (.run []) else some .skip
  | .bool _ => some (.run [(t, b)])
  | .tup .nil => some .skip
  | .gd q (.blit c) => if c == b then some (.run q) else some .skip
  | .gd q (.bool _) => some (.run (q ++ [(t, b)]))
  | _ => none

/-- The test that a temporary tells. -/
def testOf : AV → Option Bool
  | .bool f => some (f [])
  | .gd _ (.bool f) => some (f [])
  | _ => none

/-- A guard's path, over the whole region's answers. -/
theorem gpath_spec {bt : Nat → Bool} {E : Env} {v : AV} {t : Nat} {b : Bool} {g : GP} (h : gpath v t b = some g) (hbt : ∀ c, testOf v = some c → bt t = c) {x : Value} (hx : GRel bt E v x) :
    match g with
    | .run p => (holdsP bt p ↔ x = .bool b)
    | .skip => x ≠ .bool b := by
  have un : (undef : Value) ≠ .bool b := by simp [undef]
  cases v <;> simp only [gpath, reduceCtorEq] at h
  case blit c =>
    have e := (TRel_bl (E := E) (v := .blit c) rfl x).1 hx
    simp only [bv] at e
    split at h <;> simp at h <;> subst h
    · rename_i hc; simp at hc; simp [holdsP, e, hc]
    · rename_i hc; simp at hc; simp [e, hc]
  case bool f =>
    have e := (TRel_bl (E := E) (v := .bool f) rfl x).1 hx
    simp only [bv] at e
    simp at h; subst h
    have := hbt _ rfl
    simp [holdsP, e, this]
  case tup u =>
    cases u <;> simp only [reduceCtorEq] at h
    simp at h; subst h
    have e := hx.2
    simp [valT, vals] at e
    simp [← e]
  case gd q u =>
    cases u <;> simp only [reduceCtorEq] at h
    case blit c =>
      split at h <;> simp at h <;> subst h
      · rename_i hc
        simp at hc
        constructor
        · intro hq
          have e := (TRel_bl rfl x).1 (hx.1 hq)
          simp [e, bv, hc]
        · intro e
          refine Classical.byContradiction fun hq => ?_
          exact un ((hx.2 hq).symm.trans e)
      · rename_i hc
        simp at hc
        intro e
        by_cases hq : holdsP bt q
        · have e2 := (TRel_bl rfl x).1 (hx.1 hq)
          simp [bv] at e2
          rw [e2] at e
          simp at e
          exact hc e
        · exact un ((hx.2 hq).symm.trans e)
    case bool f =>
      simp at h; subst h
      have hb := hbt _ rfl
      simp only [holdsP_snoc]
      constructor
      · rintro ⟨hq, e1⟩
        have e := (TRel_bl rfl x).1 (hx.1 hq)
        simp [e, bv, ← hb, e1]
      · intro e
        have hq : holdsP bt q := Classical.byContradiction fun hq => un ((hx.2 hq).symm.trans e)
        have e2 := (TRel_bl rfl x).1 (hx.1 hq)
        simp [bv] at e2
        rw [e2] at e
        simp at e
        exact ⟨hq, by rw [hb, e]⟩

/-- An answer under a path. -/
def mark (p : List (Nat × Bool)) (v : AV) : AV :=
  match p with
  | [] => v
  | p => .gd p v

theorem mark_rel {bt : Nat → Bool} {E : Env} {p : List (Nat × Bool)} {v : AV} {x : Value} (hp : holdsP bt p) (h : TRel E v x) (hn : ∀ q u, v ≠ .gd q u) : GRel bt E (mark p v) x := by
  cases p with
  | nil =>
    simp only [mark]
    cases v <;> first
      | exact absurd rfl (hn _ _)
      | exact h
  | cons a l => exact ⟨fun _ => h, fun hq => absurd hp hq⟩

theorem mark_skip {bt : Nat → Bool} {E : Env} {p : List (Nat × Bool)} {v : AV} (hp : ¬ holdsP bt p) : GRel bt E (mark p v) undef := by
  cases p with
  | nil => exact absurd trivial hp
  | cons a l => exact ⟨fun h => absurd h hp, fun _ => rfl⟩

/-- Obligations under a path. -/
def obUnder (bv : Nat → Bool) : List (Nat × Bool) → Ob → Ob
  | [], o => o
  | (t, b) :: l, o => (obUnder bv l o).under (bv t) b

theorem obUnder_holds {b : Nat → Bool} : ∀ {p : List (Nat × Bool)} {o : Ob}, (obUnder b p o).holds ↔ (holdsP b p → o.holds)
  | [], o => by simp [obUnder, holdsP]
  | (t, c) :: l, o => by
    simp only [obUnder, Ob.under_holds, holdsP, obUnder_holds]
    exact ⟨fun h hp => h hp.1 hp.2, fun h h1 h2 => h ⟨h1, h2⟩⟩

def isGd : AV → Bool
  | .gd _ _ => true
  | _ => false

end Go.Rf
