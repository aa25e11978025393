/- Several texts as one: Rf6 Rf7. -/
import Derived.Test.YtigiedlngfkfbaaGreatRf5
import Derived.Below
set_option linter.unusedVariables false
set_option linter.unusedSimpArgs false

/- Memory as names; one operation with memory and guards. -/
namespace Go.Rf

structure Blk where
  T : TypeId
  v : AV

abbrev Hp := Nat → Option Blk

def HRel (E : Env) (hp : Hp) (w : World) : Prop :=
  ∀ n B, hp n = some B → ∃ b, E n = some b ∧ ok E B.v ∧ w.heap[b]? = some (.cells (cells E [] B.v).toArray B.T (fzOf B.v))

def Inj (E : Env) : Prop := ∀ n m b, E n = some b → E m = some b → n = m
def Bd (E : Env) (w : World) : Prop := ∀ n b, E n = some b → b < w.heap.size

/-- What has become of the world and of the names. -/
structure Tr (E : Env) (w : World) (E' : Env) (w' : World) : Prop where
  sub : Sub E E'
  new : ∀ n b, E' n = some b → E n = some b ∨ w.heap.size ≤ b
  os : w'.os = w.os
  tape : w'.tape = w.tape
  output : w'.output = w.output
  size : w.heap.size ≤ w'.heap.size
  keep : ∀ k, k < w.heap.size → (∀ n, E n ≠ some k) → w'.heap[k]? = w.heap[k]?

theorem Tr.refl (E : Env) (w : World) : Tr E w E w := ⟨Sub.refl E, fun _ _ h => .inl h, rfl, rfl, rfl, Nat.le_refl _, fun _ _ _ => rfl⟩

theorem Tr.trans {E E' E'' : Env} {w w' w'' : World} (h : Tr E w E' w') (h' : Tr E' w' E'' w'') : Tr E w E'' w'' where
  sub := h.sub.trans h'.sub
  new := fun n b e => by
    rcases h'.new n b e with h1 | h1
    · exact h.new n b h1
    · exact .inr (Nat.le_trans h.size h1)
  os := h'.os.trans h.os
  tape := h'.tape.trans h.tape
  output := h'.output.trans h.output
  size := Nat.le_trans h.size h'.size
  keep := fun k hk hn => by
    rw [h'.keep k (Nat.lt_of_lt_of_le hk h.size) ?_, h.keep k hk hn]
    intro n e
    rcases h.new n k e with h1 | h1
    · exact hn n h1
    · omega

theorem Tr.below {w w' : World} {E' : Env} (h : Tr (fun _ => none) w E' w') : RowKit.Below w.heap.size w w' :=
  ⟨h.os, h.tape, h.output, h.size, fun k hk => h.keep k hk (by simp)⟩

theorem Tr.of_below {E : Env} {w w' : World} (h : RowKit.Below w.heap.size w w') : Tr E w E w' :=
  ⟨Sub.refl E, fun _ _ h => .inl h, h.os, h.tape, h.output, h.size, fun k hk _ => h.block k hk⟩

theorem HRel.of_keep {E E' : Env} {hp : Hp} {w w' : World} (h : HRel E hp w) (hb : Bd E w) (hs : Sub E E') (hk : ∀ n b, E n = some b → w'.heap[b]? = w.heap[b]?) : HRel E' hp w' := by
  intro n B hn
  obtain ⟨b, h1, h2, h3⟩ := h n B hn
  exact ⟨b, hs n b h1, ok_mono hs h2, by rw [hk n b h1, h3, cells_mono hs h2]⟩

/-! ### Loads and stores -/

theorem loadVar_run {P : Program} {T : TypeId} {E : Env} {v u : AV} {b : Nat} {p : List Stp} {B : TypeId} {fz : Nat × Nat} {w : World} (hw : w.heap[b]? = some (.cells (cells E [] v).toArray B fz))
    (hg : get p v = some u) (hb : getB p v) (hf : fits P T u = true) : (loadVar T ⟨b, offOf p, none⟩).run P w = .ok (val E u) w := by
  obtain ⟨pre, post, he, hl⟩ := get_cells E p v u hg hb
  simp only [fits, Bool.and_eq_true, beq_iff_eq] at hf
  obtain ⟨⟨h1, h2⟩, h3⟩ := hf
  unfold loadVar
  rw [Sem.run_bind, run_isAgg h2 w]
  simp only [Result.andThen_ok]
  split at h3
  · rename_i hbg
    rw [if_pos hbg, Sem.run_bind, run_sizeOf h1 w]
    simp only [Result.andThen_ok, Sem.run_bind]
    have hl2 := run_loadCells_list (P := P) w ⟨b, offOf p, none⟩ (cells E [] u) (fun j x hx => by
      have hadd : (⟨b, offOf p, none⟩ : Addr).add j = ⟨b, offOf p + j, none⟩ := by unfold Addr.add; split <;> simp_all
      rw [hadd, cell_of_row w b _ _ B fz hw]
      simp only [List.getElem?_toArray, he]
      rw [List.append_assoc, List.getElem?_append_right (by omega), ← hl]
      simp only [Nat.add_sub_cancel_left]
      rw [List.getElem?_append_left (List.getElem?_eq_some_iff.1 hx).1]
      exact hx)
    rw [length_cells] at hl2
    rw [hl2]
    simp only [Result.andThen_ok, Sem.run_pure, val_big h3]
  · rename_i hbg
    rw [if_neg hbg]
    have hc : w.cell? ⟨b, offOf p, none⟩ = some (val E u) := by
      rw [cell_of_row w b _ _ B fz hw]
      simp only [List.getElem?_toArray, he, cells_sca h3]
      rw [List.append_assoc, List.getElem?_append_right (by omega), ← hl]
      simp
    rw [run_load, hc]

theorem oneCell_cells {E : Env} (v : AV) (hv : ok E v) (hr : noRaw v = true) : ∀ ix, ∀ x ∈ cells E ix v, x.oneCell' = true := by
  induction v with
  | cons a b iha ihb => intro ix x hx; simp only [noRaw, Bool.and_eq_true] at hr; simp only [cells, List.mem_append] at hx; rcases hx with h | h; exact iha hv.1 hr.1 ix x h; exact ihb hv.2 hr.2 ix x h
  | agg fs ih => intro ix x hx; exact ih hv hr ix x hx
  | arr n b ih =>
    intro ix x hx
    simp only [cells, List.mem_flatMap] at hx
    obtain ⟨i, _, hx⟩ := hx
    exact ih hv hr _ x hx
  | nil => intro ix x hx; simp [cells] at hx
  | raw pre v post fz ih =>
    simp [noRaw] at hr
  | un => exact hv.elim
  | tup _ => exact hv.elim
  | gd _ _ => exact hv.elim
  | _ => intro ix x hx; simp [cells] at hx; subst hx; rfl

theorem storeVar_run {P : Program} {T : TypeId} {E : Env} {v u v' : AV} {b : Nat} {p : List Stp} {B : TypeId} {w : World} (hw : w.heap[b]? = some (.cells (cells E [] v).toArray B (0, 0)))
    (hg : set p v u = some v') (hb : getB p v) (hu : ok E u) (hnr : noRaw u = true) (hsb : sca u = true ∨ big u = true) (hsz : szT P T = some (sz u)) :
    (storeVar T ⟨b, offOf p, none⟩ (val E u)).run P w = .ok () (w.setRow b (cells E [] v').toArray) := by
  obtain ⟨pre, mid, post, he, hl, hm, he'⟩ := set_cells E p v u v' hg hb
  unfold storeVar
  rw [Sem.run_bind, run_sizeOf hsz w]
  simp only [Result.andThen_ok]
  rw [if_neg (by rw [val_cells hsb]; simp [length_cells])]
  rw [val_cells hsb]
  simp only [Sem.run_bind, Sem.run_pure, Result.andThen_ok, List.toList_toArray]
  have := run_storeCells_at P b (offOf p) B (cells E [] u) 0 (cells E [] v).toArray w hw (by rw [he]; simp [length_cells, hl, hm]) (oneCell_cells u hu hnr [])
  rw [this]
  congr 3
  rw [he']
  simp only [Nat.add_zero, List.size_toArray, he, length_cells]
  have h1 : (pre ++ mid ++ post).take (offOf p) = pre := by rw [← hl]; simp
  have h2 : (pre ++ mid ++ post).drop (offOf p + sz u) = post := by
    have : offOf p + sz u = (pre ++ mid).length := by simp [hl, hm]
    rw [this, List.drop_left]
  rw [h1, h2]

/-! ### Records of operations -/

structure Rec where
  dst : Option Nat
  res : AV
  hw : List (Nat × Option Blk)
  rd : Option Nat
  nw : Option Nat
  inl : Bool

def lookL (l : List (Nat × AV)) (t : Nat) : Option AV :=
  match l with
  | [] => none
  | (k, v) :: l => if k == t then some v else lookL l t

def hwL (l : List (Nat × Option Blk)) (n : Nat) : Option (Option Blk) :=
  match l with
  | [] => none
  | (k, v) :: l => if k == n then some v else hwL l n

/-- What a temporary holds behind these operations (the newest first). -/
def lookT (base : Nat → AV) : List Rec → Nat → AV
  | [], t => base t
  | r :: rs, t => match r.dst with
    | some d => if d == t then r.res else lookT base rs t
    | none => lookT base rs t

def lookH (base : Hp) : List Rec → Nat → Option Blk
  | [], n => base n
  | r :: rs, n => match hwL r.hw n with
    | some b => b
    | none => lookH base rs n

def inRecs : List Rec → Nat → Bool
  | [], _ => false
  | r :: rs, t => r.dst == some t || inRecs rs t

def pre? : List (Nat × Bool) → List (Nat × Bool) → Bool
  | [], _ => true
  | a :: l, b :: m => a.1 == b.1 && a.2 == b.2 && pre? l m
  | _, [] => false

/-- A value under a guard, where the guard is known to hold. -/
def strip (p : List (Nat × Bool)) : AV → AV
  | .gd q v => if pre? q p then v else .un
  | v => v

def holdsP (bt : Nat → Bool) : List (Nat × Bool) → Prop
  | [] => True
  | (t, b) :: l => bt t = b ∧ holdsP bt l

theorem holdsP_pre {bt : Nat → Bool} : ∀ {q p : List (Nat × Bool)}, pre? q p = true → holdsP bt p → holdsP bt q
  | [], _, _, _ => trivial
  | a :: l, b :: m, h, hp => by
    simp only [pre?, Bool.and_eq_true, beq_iff_eq] at h
    obtain ⟨⟨h1, h2⟩, h3⟩ := h
    obtain ⟨h4, h5⟩ := hp
    exact ⟨by rw [h1, h2]; exact h4, holdsP_pre h3 h5⟩
  | _ :: _, [], h, _ => by simp [pre?] at h

theorem holdsP_snoc {bt : Nat → Bool} : ∀ {q : List (Nat × Bool)} {t : Nat} {b : Bool}, holdsP bt (q ++ [(t, b)]) ↔ holdsP bt q ∧ bt t = b
  | [], t, b => by simp [holdsP]
  | a :: l, t, b => by simp only [List.cons_append, holdsP, holdsP_snoc]; exact and_assoc.symm

/-- What is known of a temporary inside a region. -/
def GRel (bt : Nat → Bool) (E : Env) (v : AV) (x : Value) : Prop :=
  match v with
  | .gd q u => (holdsP bt q → TRel E u x) ∧ (¬ holdsP bt q → x = undef)
  | v => TRel E v x

theorem GRel_mono {bt : Nat → Bool} {E E' : Env} (hs : Sub E E') {v : AV} {x : Value} (h : GRel bt E v x) : GRel bt E' v x := by
  cases v <;> first
    | exact ⟨fun hq => TRel_mono hs (h.1 hq), h.2⟩
    | (simp only [GRel] at h ⊢; exact TRel_mono hs h)

theorem GRel_strip {bt : Nat → Bool} {E : Env} {p : List (Nat × Bool)} (hp : holdsP bt p) {v : AV} {x : Value} (h : GRel bt E v x) : TRel E (strip p v) x := by
  cases v <;> first
    | (simp only [strip]
       split
       · rename_i hq; exact h.1 (holdsP_pre hq hp)
       · trivial)
    | exact h

inductive GP where
  | run (p : List (Nat × Bool))
  | skip

/-- Is an operation carried out, whose guard asks temporary t (which holds v) to be b? -/
def gpath (v : AV) (t : Nat) (b : Bool) : Option GP :=
  match v with
  | .blit c => if c == b then some (.run []) else some .skip
  | .bool _ => some (.run [(t, b)])
  | .tup .nil => some .skip
  | .gd q (.blit c) => if c == b then some (.run q) else some .skip
  | .gd q (.bool _) => some (.run (q ++ [(t, b)]))
  | _ => none

/-- The test that a temporary tells. -/
def testOf : AV → Option Bool
  | .bool f => some (f [])
  | .gd _ (.bool f) => some (f [])
  | _ => none

/-- A guard's path, over the whole region's answers. -/
theorem gpath_spec {bt : Nat → Bool} {E : Env} {v : AV} {t : Nat} {b : Bool} {g : GP} (h : gpath v t b = some g) (hbt : ∀ c, testOf v = some c → bt t = c) {x : Value} (hx : GRel bt E v x) :
    match g with
    | .run p => (holdsP bt p ↔ x = .bool b)
    | .skip => x ≠ .bool b := by
  have un : (undef : Value) ≠ .bool b := by simp [undef]
  cases v <;> simp only [gpath, reduceCtorEq] at h
  case blit c =>
    have e := (TRel_bl (E := E) (v := .blit c) rfl x).1 hx
    simp only [bv] at e
    split at h <;> simp at h <;> subst h
    · rename_i hc; simp at hc; simp [holdsP, e, hc]
    · rename_i hc; simp at hc; simp [e, hc]
  case bool f =>
    have e := (TRel_bl (E := E) (v := .bool f) rfl x).1 hx
    simp only [bv] at e
    simp at h; subst h
    have := hbt _ rfl
    simp [holdsP, e, this]
  case tup u =>
    cases u <;> simp only [reduceCtorEq] at h
    simp at h; subst h
    have e := hx.2
    simp [valT, vals] at e
    simp [← e]
  case gd q u =>
    cases u <;> simp only [reduceCtorEq] at h
    case blit c =>
      split at h <;> simp at h <;> subst h
      · rename_i hc
        simp at hc
        constructor
        · intro hq
          have e := (TRel_bl rfl x).1 (hx.1 hq)
          simp [e, bv, hc]
        · intro e
          refine Classical.byContradiction fun hq => ?_
          exact un ((hx.2 hq).symm.trans e)
      · rename_i hc
        simp at hc
        intro e
        by_cases hq : holdsP bt q
        · have e2 := (TRel_bl rfl x).1 (hx.1 hq)
          simp [bv] at e2
          rw [e2] at e
          simp at e
          exact hc e
        · exact un ((hx.2 hq).symm.trans e)
    case bool f =>
      simp at h; subst h
      have hb := hbt _ rfl
      simp only [holdsP_snoc]
      constructor
      · rintro ⟨hq, e1⟩
        have e := (TRel_bl rfl x).1 (hx.1 hq)
        simp [e, bv, ← hb, e1]
      · intro e
        have hq : holdsP bt q := Classical.byContradiction fun hq => un ((hx.2 hq).symm.trans e)
        have e2 := (TRel_bl rfl x).1 (hx.1 hq)
        simp [bv] at e2
        rw [e2] at e
        simp at e
        exact ⟨hq, by rw [hb, e]⟩

/-- An answer under a path. -/
def mark (p : List (Nat × Bool)) (v : AV) : AV :=
  match p with
  | [] => v
  | p => .gd p v

theorem mark_rel {bt : Nat → Bool} {E : Env} {p : List (Nat × Bool)} {v : AV} {x : Value} (hp : holdsP bt p) (h : TRel E v x) (hn : ∀ q u, v ≠ .gd q u) : GRel bt E (mark p v) x := by
  cases p with
  | nil =>
    simp only [mark]
    cases v <;> first
      | exact absurd rfl (hn _ _)
      | exact h
  | cons a l => exact ⟨fun _ => h, fun hq => absurd hp hq⟩

theorem mark_skip {bt : Nat → Bool} {E : Env} {p : List (Nat × Bool)} {v : AV} (hp : ¬ holdsP bt p) : GRel bt E (mark p v) undef := by
  cases p with
  | nil => exact absurd trivial hp
  | cons a l => exact ⟨fun h => absurd h hp, fun _ => rfl⟩

/-- Obligations under a path. -/
def obUnder (bv : Nat → Bool) : List (Nat × Bool) → Ob → Ob
  | [], o => o
  | (t, b) :: l, o => (obUnder bv l o).under (bv t) b

theorem obUnder_holds {b : Nat → Bool} : ∀ {p : List (Nat × Bool)} {o : Ob}, (obUnder b p o).holds ↔ (holdsP b p → o.holds)
  | [], o => by simp [obUnder, holdsP]
  | (t, c) :: l, o => by
    simp only [obUnder, Ob.under_holds, holdsP, obUnder_holds]
    exact ⟨fun h hp => h hp.1 hp.2, fun h h1 h2 => h ⟨h1, h2⟩⟩

def isGd : AV → Bool
  | .gd _ _ => true
  | _ => false

end Go.Rf

/- One operation of a region, with memory, guards and calls. -/
namespace Go.Rf

/-- Literals as bits; nothing that names memory. -/
def nrm : AV → Option AV
  | .lit k n => (toBV k (.lit k n)).map (.int k)
  | .int k x => some (.int k x)
  | .blit b => some (.bool fun _ => b)
  | .bool b => some (.bool b)
  | .nil => some .nil
  | .cons h t => match nrm h, nrm t with
    | some a, some b => some (.cons a b)
    | _, _ => none
  | .agg fs => (nrm fs).map .agg
  | .arr n b => (nrm b).map (.arr n)
  | _ => none

theorem nrm_spec : ∀ (v u : AV), nrm v = some u → pf v = true ∧ pf u = true ∧ ∀ E ix, cells E ix v = cells E ix u := by
  intro v
  induction v with
  | lit k n =>
    intro u h
    simp only [nrm, Option.map_eq_some_iff] at h
    obtain ⟨x, hx, rfl⟩ := h
    exact ⟨rfl, rfl, fun E ix => by rw [toBV_cells hx]; rfl⟩
  | int k x => intro u h; simp [nrm] at h; subst h; exact ⟨rfl, rfl, fun _ _ => rfl⟩
  | blit b => intro u h; simp [nrm] at h; subst h; exact ⟨rfl, rfl, fun _ _ => rfl⟩
  | bool b => intro u h; simp [nrm] at h; subst h; exact ⟨rfl, rfl, fun _ _ => rfl⟩
  | nil => intro u h; simp [nrm] at h; subst h; exact ⟨rfl, rfl, fun _ _ => rfl⟩
  | cons a b iha ihb =>
    intro u h
    simp only [nrm] at h
    split at h <;> simp at h
    rename_i x y hx hy
    subst h
    obtain ⟨a1, a2, a3⟩ := iha _ hx
    obtain ⟨b1, b2, b3⟩ := ihb _ hy
    exact ⟨by simp [pf, a1, b1], by simp [pf, a2, b2], fun E ix => by simp only [cells, a3, b3]⟩
  | agg fs ih =>
    intro u h
    simp only [nrm, Option.map_eq_some_iff] at h
    obtain ⟨x, hx, rfl⟩ := h
    obtain ⟨a1, a2, a3⟩ := ih _ hx
    exact ⟨a1, a2, fun E ix => by simp only [cells, a3]⟩
  | arr n b ih =>
    intro u h
    simp only [nrm, Option.map_eq_some_iff] at h
    obtain ⟨x, hx, rfl⟩ := h
    obtain ⟨a1, a2, a3⟩ := ih _ hx
    exact ⟨a1, a2, fun E ix => by simp only [cells, a3]⟩
  | _ => intro u h; simp [nrm] at h

theorem nrm_val {v u : AV} (h : nrm v = some u) (E : Env) : val E v = val E u := by
  obtain ⟨_, _, h3⟩ := nrm_spec v u h
  have h4 := h3 E []
  cases v <;> simp only [nrm, Option.map_eq_some_iff, Option.some.injEq, reduceCtorEq] at h
  case lit => obtain ⟨x, _, rfl⟩ := h; simp only [val, h4]
  case int => subst h; rfl
  case blit => subst h; rfl
  case bool => subst h; rfl
  case nil => subst h; rfl
  case cons => split at h <;> simp at h; subst h; simp only [val, h4]
  case agg => obtain ⟨x, _, rfl⟩ := h; simp only [val]; simp only [cells] at h4; rw [h4]
  case arr => obtain ⟨x, _, rfl⟩ := h; simp only [val, h4]

theorem val_pf {v : AV} (h : pf v = true) (E E' : Env) : val E v = val E' v := by
  have h4 := cells_pf E E' v h []
  cases v <;> simp only [val, h4] <;> simp only [cells] at h4 <;> rw [h4]

def nrmL : List AV → Option (List AV)
  | [] => some []
  | v :: l => match nrm v, nrmL l with
    | some u, some m => some (u :: m)
    | _, _ => none

theorem nrmL_spec : ∀ (l m : List AV), nrmL l = some m → (∀ v ∈ m, pf v = true) ∧ ∀ E, l.map (val E) = m.map (val E)
  | [], m, h => by simp [nrmL] at h; subst h; simp
  | v :: l, m, h => by
    simp only [nrmL] at h
    split at h <;> simp at h
    rename_i u m' hu hm
    subst h
    obtain ⟨h1, h2⟩ := nrmL_spec l m' hm
    refine ⟨?_, fun E => by simp only [List.map_cons, nrm_val hu, h2]⟩
    intro x hx
    simp at hx
    rcases hx with rfl | hx
    · exact (nrm_spec _ _ hu).2.1
    · exact h1 x hx

abbrev E0 : Env := fun _ => none

def pfL : AV → Bool
  | .nil => true
  | .cons h t => pf h && pfL t
  | _ => false
/-- An answer that names nothing. -/
def pfT : AV → Bool
  | .tup fs => pfL fs
  | v => pf v

theorem pfL_spec (E : Env) : ∀ (v : AV), pfL v = true → okl E v ∧ vals E v = vals E0 v := by
  intro v
  induction v with
  | nil => intro _; exact ⟨trivial, rfl⟩
  | cons a b _ ih =>
    intro h
    simp only [pfL, Bool.and_eq_true] at h
    obtain ⟨h1, h2⟩ := ih h.2
    exact ⟨⟨ok_of_pf E a h.1, h1⟩, by simp only [vals]; rw [val_pf h.1 E E0, h2]⟩
  | _ => intro h; simp [pfL] at h

theorem pfT_spec {v : AV} (h : pfT v = true) (E : Env) : okT E v ∧ valT E v = valT E0 v ∧ isGd v = false := by
  cases v <;> simp only [pfT] at h <;> first
    | (simp [pf] at h; done)
    | (obtain ⟨h1, h2⟩ := pfL_spec E _ h; exact ⟨h1, by simp only [valT, h2], rfl⟩)
    | exact ⟨ok_of_pf E _ h, val_pf h E E0, rfl⟩

theorem TRel_pfT {v : AV} (h : pfT v = true) (E : Env) : TRel E v (valT E0 v) := by
  obtain ⟨h1, h2, h3⟩ := pfT_spec h E
  cases v <;> first
    | trivial
    | exact ⟨h1, h2⟩

/-- A table of contracts: each function's answer to arguments that name nothing. -/
abbrev Tab := FuncId → List AV → Option (AV × Ob)

def TabOk (P : Program) (Γ : Tab) : Prop :=
  ∀ f args r ob, Γ f args = some (r, ob) → ob.holds → (∀ v ∈ args, pf v = true) →
    pfT r = true ∧ ∀ w, Calls P f (args.map (val E0)).toArray w fun e w' => e = .returned (valT E0 r) ∧ RowKit.Below w.heap.size w w'

abbrev Inl := FuncId → List AV → Hp → Nat → Option (AV × List (Nat × Option Blk) × Ob)

def updH (hp : Hp) (hw : List (Nat × Option Blk)) : Hp := fun n => match hwL hw n with
  | some b => b
  | none => hp n

def InlOk (P : Program) (inl : Inl) : Prop :=
  ∀ f args hp next r hw ob, inl f args hp next = some (r, hw, ob) → ob.holds → isGd r = false ∧ ∀ E w, (∀ v ∈ args, ok E v) → HRel E hp w → Inj E → Bd E w →
    (∀ n, next ≤ n → E n = none) →
    Calls P f (args.map (val E)).toArray w fun e w' => ∃ x, e = .returned x ∧ TRel E r x ∧ Tr E w E w' ∧ HRel E (updH hp hw) w'

structure Cx where
  P : Program
  Γ : Tab
  inl : Inl

def dstOf (ops : Array Oper) (j : Nat) : Option Nat := (ops[j]?).bind (·.dst)

def btR (recs : List Rec) (t : Nat) : Bool := (testOf (lookT (fun _ => .un) recs t)).getD false

def getOb : List Stp → AV → Ob
  | .fld i _ :: p, .agg fs => match nth i fs with
    | some (u, _) => getOb p u
    | none => .tt
  | .idx i _ :: p, .arr n b => (Ob.pr (i < n)).and (getOb p (inst i b))
  | .win o :: p, .raw pre v _ _ => (Ob.pr (o = pre.length)).and (getOb p v)
  | _, _ => .tt

theorem getOb_holds : ∀ (p : List Stp) (v : AV), (getOb p v).holds ↔ getB p v
  | [], v => by simp [getOb, getB, Ob.holds]
  | .fld i o :: p, v => by
    cases v <;> simp only [getOb, getB, Ob.holds]
    rename_i fs
    cases nth i fs with
    | none => simp [Ob.holds]
    | some u => exact getOb_holds p _
  | .idx i s :: p, v => by
    cases v <;> simp only [getOb, getB, Ob.holds]
    simp [Ob.and_holds, Ob.holds, getOb_holds p]
  | .win o :: p, v => by
    cases v <;> simp only [getOb, getB, Ob.holds]
    simp [Ob.and_holds, Ob.holds, getOb_holds p]

def guardOf (ops : Array Oper) (base : Nat → AV) (recs : List Rec) (o : Oper) : Option GP :=
  match o.guard with
  | none => some (.run [])
  | some (j, b) => match dstOf ops j with
    | some t => if inRecs recs t then gpath (lookT base recs t) t b else none
    | none => none

def plainRec (o : Oper) (v : AV) : Rec := ⟨o.dst, v, [], none, none, false⟩

def evalPick (base : Nat → AV) (recs : List Rec) (p : List (Nat × Bool)) (c x y : Operand) : Option AV :=
  let at_ := fun q => opd fun t => strip q (lookT base recs t)
  match at_ p c with
  | .blit true => some (at_ p x)
  | .blit false => some (at_ p y)
  | .bool f => match c with
    | .tmp t => if inRecs recs t then some (pickAV (.bool f) (at_ (p ++ [(t, true)]) x) (at_ (p ++ [(t, false)]) y)) else none
    | _ => none
  | _ => none

def dstOk (nt : Nat) (recs : List Rec) : Option Nat → Bool
  | some d => decide (d < nt) && !inRecs recs d
  | none => true

/-! A function entered in place that looks at one block and leaves it. -/
def firstN : AV → Option Nat
  | .cons h t => match firstN h with
    | some n => some n
    | none => firstN t
  | .agg fs => firstN fs
  | .arr _ b => firstN b
  | .ptr n _ => some n
  | .slc n _ _ _ => some n
  | .fn _ cap => firstN cap
  | .raw _ v _ _ => firstN v
  | _ => none
def firstNL : List AV → Option Nat
  | [] => none
  | v :: l => match firstN v with
    | some n => some n
    | none => firstNL l
def onlyB (n : Nat) : AV → Bool
  | .cons h t => onlyB n h && onlyB n t
  | .agg fs => onlyB n fs
  | .arr _ b => onlyB n b
  | .ptr m _ => Nat.beq m n
  | .slc m _ _ _ => Nat.beq m n
  | .fn _ cap => onlyB n cap
  | .raw _ v _ _ => onlyB n v
  | _ => true
def hp1 (n : Nat) (hp : Hp) : Hp := fun m => if m = n then hp n else none
def env1 (n : Nat) (E : Env) : Env := fun m => if m = n then E n else none

def evalRd (cx : Cx) (f : FuncId) (args : List AV) (hp : Hp) (next : Nat) : Option (AV × Nat × Ob) :=
  match firstNL args with
  | some n => if args.all (onlyB n) && Nat.blt n next then match hp n, cx.inl f args (hp1 n hp) next with
    | some B, some (r, [], ob) => if isGd r || !onlyB n B.v then none else some (r, n, ob)
    | _, _ => none
    else none
  | none => none

/-- Nothing that names memory. -/
def noNm : AV → Bool
  | .cons h t => noNm h && noNm t
  | .agg fs => noNm fs
  | .arr _ b => noNm b
  | .raw _ v _ _ => noNm v
  | .ptr _ _ => false
  | .slc _ _ _ _ => false
  | .fn _ cap => noNm cap
  | _ => true
theorem ok_noNm {E : Env} {v : AV} (h : ok E v) (ho : noNm v = true) : ok (fun _ => none) v := by
  induction v with
  | cons a b iha ihb => simp only [noNm, Bool.and_eq_true] at ho; exact ⟨iha h.1 ho.1, ihb h.2 ho.2⟩
  | agg fs ih => exact ih h ho
  | arr m b ih => exact ih h ho
  | fn f cap ih => exact ih h ho
  | raw pre v post fz ih => exact ih h ho
  | ptr m p => simp [noNm] at ho
  | slc m p len cap => simp [noNm] at ho
  | _ => exact h
theorem sub_none (E : Env) : Sub (fun _ => none) E := fun _ _ h => by cases h
/-- A function entered in place whose arguments name nothing. -/
def evalPl (cx : Cx) (f : FuncId) (args : List AV) (next : Nat) : Option (AV × Ob) :=
  if args.all noNm then match cx.inl f args (fun _ => none) next with
  | some (r, _, ob) => if isGd r then none else some (r, ob)
  | none => none
  else none

theorem env1_sub (n : Nat) (E : Env) : Sub (env1 n E) E := fun m b h => by
  unfold env1 at h
  split at h
  · rename_i e; rw [e]; exact h
  · cases h
theorem ok_env1 {n : Nat} {E : Env} {v : AV} (h : ok E v) (ho : onlyB n v = true) : ok (env1 n E) v := by
  induction v with
  | cons a b iha ihb => simp only [onlyB, Bool.and_eq_true] at ho; exact ⟨iha h.1 ho.1, ihb h.2 ho.2⟩
  | agg fs ih => exact ih h ho
  | arr m b ih => exact ih h ho
  | fn f cap ih => exact ih h ho
  | raw pre v post fz ih => exact ih h ho
  | ptr m p =>
    have e : m = n := Nat.eq_of_beq_eq_true ho
    subst e
    simpa [ok, env1] using h
  | slc m p len cap =>
    have e : m = n := Nat.eq_of_beq_eq_true ho
    subst e
    simpa [ok, env1] using h
  | _ => exact h

/-- The bytes of an array, as a string. -/
def bytesNs (f : Ix → BitVec IntKind.u8.bits) (L : Nat) : List Int := (List.range L).map fun i => toZ .u8 (f [i])
def bytesOf (f : Ix → BitVec IntKind.u8.bits) (L : Nat) : ByteArray := (bytesNs f L).foldl (fun r n => r.push (UInt8.ofNat n.toNat)) ByteArray.empty
def strOfB : List Stp → Nat → AV → Option (ByteArray × Ob)
  | [.win o], L, .raw pre (.arr m (.int .u8 f)) _ _ => some (bytesOf f L, .pr (o = pre.length ∧ L ≤ m))
  | [], L, .arr m (.int .u8 f) => some (bytesOf f L, .pr (L ≤ m))
  | _, _, _ => none
theorem arr_get (f : Ix → BitVec IntKind.u8.bits) (E : Env) : ∀ (m j : Nat), j < m → (cells E [] (.arr m (.int .u8 f)))[j]? = some (.int .u8 (toZ .u8 (f [j]))) := by
  intro m j hj
  have e : cells E [] (.arr m (.int .u8 f)) = (List.range m).map fun i => Value.int .u8 (toZ .u8 (f [i])) := by
    simp only [cells, List.nil_append]
    induction (List.range m) with
    | nil => rfl
    | cons a l ih => simp [ih]
  rw [e, List.getElem?_map, List.getElem?_range hj]
  rfl
theorem str_run {P : Program} {E : Env} {q : List Stp} {L : Nat} {v : AV} {s : ByteArray} {ob : Ob} (h : strOfB q L v = some (s, ob)) (hob : ob.holds) {w : World} {b : Nat} {T : TypeId} {fz : Nat × Nat} (hw : w.heap[b]? = some (.cells (cells E [] v).toArray T fz)) (cap : Nat) :
    (Conv.bytesToString (.slice (some ⟨b, offOf q, none⟩) L cap)).run P w = .ok (.string s) w := by
  have key : ∀ (f : Ix → BitVec IntKind.u8.bits) (off : Nat), (∀ j, j < L → (cells E [] v)[off + j]? = some (.int .u8 (toZ .u8 (f [j])))) → (Conv.bytesToString (.slice (some ⟨b, off, none⟩) L cap)).run P w = .ok (.string (bytesOf f L)) w := by
    intro f off hc
    refine run_bytesToString w _ L cap (bytesNs f L) ?_
    have hl := run_loadCells_list (P := P) w ⟨b, off, none⟩ ((bytesNs f L).map (Value.int .u8)) (fun j x hx => by
      have hadd : (⟨b, off, none⟩ : Addr).add j = ⟨b, off + j, none⟩ := by unfold Addr.add; split <;> simp_all
      have hj : j < L := by
        have := (List.getElem?_eq_some_iff.1 hx).1
        simpa [bytesNs] using this
      rw [hadd, cell_of_row w b _ _ T fz hw]
      simp only [List.getElem?_toArray]
      rw [hc j hj, ← hx]
      simp [bytesNs, hj])
    simpa [bytesNs] using hl
  have cases2 : (∃ o pre m f post fz', q = [.win o] ∧ v = .raw pre (.arr m (.int .u8 f)) post fz' ∧ s = bytesOf f L ∧ ob = .pr (o = pre.length ∧ L ≤ m)) ∨ (∃ m f, q = [] ∧ v = .arr m (.int .u8 f) ∧ s = bytesOf f L ∧ ob = .pr (L ≤ m)) := by
    unfold strOfB at h
    split at h
    · simp only [Option.some.injEq, Prod.mk.injEq] at h
      exact .inl ⟨_, _, _, _, _, _, rfl, rfl, h.1.symm, h.2.symm⟩
    · simp only [Option.some.injEq, Prod.mk.injEq] at h
      exact .inr ⟨_, _, rfl, rfl, h.1.symm, h.2.symm⟩
    · simp at h
  rcases cases2 with ⟨o, pre, m, f, post, fz', rfl, rfl, rfl, rfl⟩ | ⟨m, f, rfl, rfl, rfl, rfl⟩
  · obtain ⟨h1, h2⟩ : o = pre.length ∧ L ≤ m := hob
    refine key f _ (fun j hj => ?_)
    show (pre ++ cells E [] (.arr m (.int .u8 f)) ++ post)[o + 0 + j]? = _
    rw [Nat.add_zero, h1, List.append_assoc, List.getElem?_append_right (by omega), Nat.add_sub_cancel_left, List.getElem?_append_left (by rw [length_cells]; simp [sz]; omega)]
    exact arr_get f E m j (by omega)
  · have h2 : L ≤ m := hob
    refine key f _ (fun j hj => ?_)
    show (cells E [] (.arr m (.int .u8 f)))[0 + j]? = _
    rw [Nat.zero_add]
    exact arr_get f E m j (by omega)

def evalOp (cx : Cx) (ops : Array Oper) (base : Nat → AV) (hb : Hp) (nt : Nat) (recs : List Rec) (next : Nat) (o : Oper) : Option (Rec × Nat × Ob) :=
  if dstOk nt recs o.dst then
    match guardOf ops base recs o with
    | none => none
    | some .skip => some (plainRec o (.tup .nil), next, .tt)
    | some (.run p) =>
      match o.op with
      | .pick c x y => match evalPick base recs p c x y with
        | some r => if isGd r then none else some (plainRec o (mark p r), next, .tt)
        | none => none
      | op => match eff cx.P (opd fun t => strip p (lookT base recs t)) op with
        | none => none
        | some (.val v ob) => if isGd v then none else some (plainRec o (mark p v), next, obUnder (btR recs) p ob)
        | some (.ld n q T) => match lookH hb recs n with
          | some B => match get q B.v with
            | some u => if fits cx.P T u then some (⟨o.dst, mark p u, [], some n, none, false⟩, next, obUnder (btR recs) p (getOb q B.v)) else none
            | none => none
          | none => none
        | some (.st n q T u) => if p.isEmpty then match lookH hb recs n with
          | some B => match set q B.v u with
            | some v' => if szT cx.P T == some (sz u) && noRaw u then some (⟨o.dst, .tup .nil, [(n, some ⟨B.T, v'⟩)], none, none, false⟩, next, getOb q B.v) else none
            | none => none
          | none => none
          else none
        | some (.new T v s) => if p.isEmpty && !isRaw v then some (⟨o.dst, newAV next s, [(next, some ⟨T, v⟩)], none, some next, false⟩, next + 1, .tt) else none
        | some (.call f args) => match (nrmL args).bind (cx.Γ f) with
          | some (r, ob) => if isGd r then none else some (plainRec o (mark p r), next, obUnder (btR recs) p ob)
          | none => match evalRd cx f args (lookH hb recs) next with
            | some (r, n, ob) => some (⟨o.dst, mark p r, [], some n, none, false⟩, next, obUnder (btR recs) p ob)
            | none => match evalPl cx f args next with
              | some (r, ob) => some (plainRec o (mark p r), next, obUnder (btR recs) p ob)
              | none => if p.isEmpty then match cx.inl f args (lookH hb recs) next with
                | some (r, hw, ob) => if isGd r then none else some (⟨o.dst, r, hw, none, none, true⟩, next, ob)
                | none => none
                else none
        | some (.cv n q len) => match lookH hb recs n with
          | some B => match strOfB q (lenZ [] len).toNat B.v with
            | some (s, ob) => some (⟨o.dst, mark p (strV s), [], some n, none, false⟩, next, obUnder (btR recs) p ob)
            | none => none
          | none => none
  else none

/-- One block. -/
def HR1 (E : Env) (n : Nat) (b : Option Blk) (w : World) : Prop :=
  ∀ B, b = some B → ∃ k, E n = some k ∧ ok E B.v ∧ w.heap[k]? = some (.cells (cells E [] B.v).toArray B.T (fzOf B.v))

def touched (r : Rec) (n : Nat) : Prop := r.rd = some n ∨ ∃ b, hwL r.hw n = some b

/-- What an operation has done. -/
structure Post (bt : Nat → Bool) (hp : Hp) (r : Rec) (E : Env) (w : World) (E' : Env) (x : Value) (w' : World) : Prop where
  tr : Tr E w E' w'
  inj : Inj E'
  bd : Bd E' w'
  rel : GRel bt E' r.res x
  names : ∀ n, E n = none → E' n ≠ none → r.nw = some n
  wrote : ∀ n b, hwL r.hw n = some b → HR1 E' n b w'
  other : r.inl = false → ∀ n k, E n = some k → hwL r.hw n = none → w'.heap[k]? = w.heap[k]?
  inl : r.inl = true → HRel E' (updH hp r.hw) w'

theorem Tr.drew (E : Env) (w : World) : Tr E w E w.drew := ⟨Sub.refl E, fun _ _ h => .inl h, rfl, rfl, rfl, Nat.le_refl _, fun _ _ _ => rfl⟩

theorem Post.same {bt : Nat → Bool} {hp : Hp} {r : Rec} {E : Env} {w : World} {x : Value} (hi : Inj E) (hb : Bd E w) (h : GRel bt E r.res x) (hw : r.hw = []) (hl : r.inl = false) : Post bt hp r E w E x w :=
  ⟨Tr.refl E w, hi, hb, h, fun n h1 h2 => absurd h1 h2, fun n b h => by simp [hw, hwL] at h, fun _ _ _ _ _ => rfl, fun h => by simp [hl] at h⟩

/-- The atoms of a guard are tests that were told in this region. -/
def AtomsIn (recs : List Rec) (q : List (Nat × Bool)) : Prop := ∀ a ∈ q, inRecs recs a.1 = true ∧ (testOf (lookT (fun _ => .un) recs a.1)).isSome = true

def WfR (recs : List Rec) : Prop := ∀ t q u, inRecs recs t = true → lookT (fun _ => .un) recs t = .gd q u → AtomsIn recs q

theorem lookT_in {base base' : Nat → AV} : ∀ {recs : List Rec} {t : Nat}, inRecs recs t = true → lookT base recs t = lookT base' recs t
  | r :: rs, t, h => by
    simp only [inRecs, Bool.or_eq_true, beq_iff_eq] at h
    simp only [lookT]
    cases hd : r.dst with
    | none => simp [hd] at h; exact lookT_in h
    | some d =>
      simp only [hd, Option.some.injEq] at h
      by_cases he : d = t
      · simp [he]
      · simp [he] at h ⊢; exact lookT_in h

theorem lookT_out {base : Nat → AV} : ∀ {recs : List Rec} {t : Nat}, inRecs recs t = false → lookT base recs t = base t
  | [], t, h => rfl
  | r :: rs, t, h => by
    simp only [inRecs, Bool.or_eq_false_iff, beq_eq_false_iff_ne] at h
    simp only [lookT]
    cases hd : r.dst with
    | none => exact lookT_out h.2
    | some d =>
      have : d ≠ t := fun e => h.1 (by rw [hd, e])
      simp [this]
      exact lookT_out h.2

theorem holdsP_btR {bt : Nat → Bool} {recs : List Rec} (hbt : ∀ t, inRecs recs t = true → ∀ c, testOf (lookT (fun _ => .un) recs t) = some c → bt t = c) :
    ∀ {q : List (Nat × Bool)}, AtomsIn recs q → (holdsP (btR recs) q ↔ holdsP bt q)
  | [], _ => Iff.rfl
  | (t, b) :: q, h => by
    have h1 := h (t, b) (by simp)
    simp only at h1
    obtain ⟨c, hc⟩ := Option.isSome_iff_exists.1 h1.2
    have h2 : btR recs t = bt t := by rw [hbt t h1.1 c hc, btR, hc]; rfl
    have ih := holdsP_btR hbt (q := q) (fun a ha => h a (by simp [ha]))
    simp only [holdsP, h2, ih]

theorem gpath_atoms {recs : List Rec} {t : Nat} {b : Bool} {p : List (Nat × Bool)} (hin : inRecs recs t = true) (hwf : WfR recs) (h : gpath (lookT (fun _ => .un) recs t) t b = some (.run p)) : AtomsIn recs p := by
  cases hv : lookT (fun _ => .un) recs t <;> rw [hv] at h <;> simp only [gpath, reduceCtorEq] at h
  case blit c => split at h <;> simp at h; subst h; intro a ha; simp at ha
  case bool f => simp at h; subst h; intro a ha; simp at ha; subst ha; exact ⟨hin, by simp [hv, testOf]⟩
  case tup u => cases u <;> simp at h
  case gd q u =>
    have hq := hwf t q u hin hv
    cases u <;> simp only [reduceCtorEq] at h
    case blit c => split at h <;> simp at h; subst h; exact hq
    case bool f =>
      simp at h; subst h
      intro a ha
      simp at ha
      rcases ha with ha | ha
      · exact hq a ha
      · subst ha; exact ⟨hin, by simp [hv, testOf]⟩

theorem guardOf_atoms {ops : Array Oper} {base : Nat → AV} {recs : List Rec} {o : Oper} {p : List (Nat × Bool)} (hwf : WfR recs) (h : guardOf ops base recs o = some (.run p)) : AtomsIn recs p := by
  unfold guardOf at h
  split at h
  · simp at h; subst h; intro a ha; simp at ha
  · split at h <;> try (simp at h; done)
    split at h <;> try (simp at h; done)
    rename_i j b _ t _ hin
    rw [lookT_in (base' := fun _ => .un) hin] at h
    exact gpath_atoms hin hwf h

theorem getD_eq (a : Act) (t : Nat) : a.tmps.getD t undef = a.eval (.tmp t) := rfl

/-- Whether the operation is wanted. -/
theorem guard_wanted {ops : Array Oper} {base : Nat → AV} {recs : List Rec} {o : Oper} {g : GP} (hg : guardOf ops base recs o = some g) {bt : Nat → Bool} {E : Env} {a : Act}
    (hbt : ∀ t, inRecs recs t = true → ∀ c, testOf (lookT (fun _ => .un) recs t) = some c → bt t = c)
    (hrel : ∀ t ∈ o.looksAt ops, GRel bt E (lookT base recs t) (a.tmps.getD t undef)) :
    match g with
    | .run p => (holdsP bt p ↔ Region.wanted o (yielded ops a.tmps) = true)
    | .skip => Region.wanted o (yielded ops a.tmps) = false := by
  unfold guardOf at hg
  cases hgd : o.guard with
  | none =>
    simp [hgd] at hg
    subst hg
    simp [holdsP, Region.wanted, hgd]
  | some jb =>
    obtain ⟨j, b⟩ := jb
    simp only [hgd] at hg
    split at hg <;> try (simp at hg; done)
    rename_i t ht
    split at hg <;> try (simp at hg; done)
    rename_i hin
    have hx := hrel t (by
      simp only [Oper.looksAt, hgd, List.mem_append]
      right
      simp only [dstOf] at ht
      simp [ht])
    have hsp := gpath_spec hg (fun c hc => hbt t hin c (by rw [← lookT_in (base := base) hin]; exact hc)) hx
    have hy : Region.wanted o (yielded ops a.tmps) = true ↔ a.tmps.getD t undef = .bool b := by
      simp only [Region.wanted, hgd, yielded]
      simp only [dstOf] at ht
      rw [ht]
      simp only [Option.bind_some]
      cases hq : a.tmps[t]? with
      | none =>
        have : a.tmps.getD t undef = undef := by simp [hq]
        simp [hq, undef]
      | some x =>
        have : a.tmps.getD t undef = x := by simp [hq]
        rw [this]
        cases x <;> simp
    cases g with
    | run p => exact hsp.trans hy.symm
    | skip =>
      have h2 : ¬ (Region.wanted o (yielded ops a.tmps) = true) := fun h => hsp (hy.1 h)
      simpa using h2

theorem opd_rel {ops : Array Oper} {base : Nat → AV} {recs : List Rec} {o : Oper} {bt : Nat → Bool} {E : Env} {a : Act} {p : List (Nat × Bool)} (hp : holdsP bt p)
    (hrel : ∀ t ∈ o.looksAt ops, GRel bt E (lookT base recs t) (a.tmps.getD t undef)) : ∀ x ∈ o.op.operands, TRel E (opd (fun t => strip p (lookT base recs t)) x) (a.eval x) := by
  intro x hx
  cases x with
  | tmp t =>
    refine GRel_strip hp (hrel t ?_)
    simp only [Oper.looksAt, List.mem_append, List.mem_filterMap]
    left
    exact ⟨.tmp t, by simpa using hx, rfl⟩
  | const v => cases v <;> first | trivial | exact ⟨trivial, rfl⟩
  | func f => exact ⟨trivial, rfl⟩
  | global g => trivial

theorem strip_bool {p : List (Nat × Bool)} {v : AV} {f : Ix → Bool} (h : strip p v = .bool f) : testOf v = some (f []) := by
  unfold strip at h
  split at h
  · split at h
    · subst h; rfl
    · cases h
  · subst h; rfl

theorem run_pick {P : Program} {o : Oper} {c x y : Operand} (ho : o.op = .pick c x y) {a : Act} {b : Bool} (hc : a.eval c = .bool b) (w : World) :
    (execOp a.eval o).run P w = .ok (.value (if b then a.eval x else a.eval y)) w := by
  simp only [execOp, ho, hc, asBool, Sem.run_bind, Sem.run_pure, Result.andThen_ok]

theorem HR1.keep {E E' : Env} {n : Nat} {b : Option Blk} {w w' : World} (h : HR1 E n b w) (hs : Sub E E') (hk : ∀ k, E n = some k → w'.heap[k]? = w.heap[k]?) : HR1 E' n b w' := by
  intro B hB
  obtain ⟨k, h1, h2, h3⟩ := h B hB
  exact ⟨k, hs n k h1, ok_mono hs h2, by rw [hk k h1, h3, cells_mono hs h2]⟩

theorem not_gd {v : AV} (h : isGd v = false) : ∀ q u, v ≠ .gd q u := by intro q u e; subst e; simp [isGd] at h

theorem op_step {cx : Cx} (hΓ : TabOk cx.P cx.Γ) (hI : InlOk cx.P cx.inl) {ops : Array Oper} {base : Nat → AV} {hb : Hp} {nt : Nat} {recs : List Rec} {next next' : Nat} {i : Nat} {o : Oper} {r : Rec} {ob : Ob}
    (ho : ops[i]? = some o) (hev : evalOp cx ops base hb nt recs next o = some (r, next', ob)) (hob : ob.holds) (hwf : WfR recs)
    {bt : Nat → Bool} (hbt : ∀ t, inRecs recs t = true → ∀ c, testOf (lookT (fun _ => .un) recs t) = some c → bt t = c)
    {E : Env} {a : Act} {w : World} (hrel : ∀ t ∈ o.looksAt ops, GRel bt E (lookT base recs t) (a.tmps.getD t undef))
    (hheap : ∀ n, touched r n → r.nw ≠ some n → HR1 E n (lookH hb recs n) w) (hall : r.inl = true → HRel E (lookH hb recs) w)
    (hinj : Inj E) (hbd : Bd E w) (hnew : ∀ n, r.nw = some n → E n = none) (hnext : r.inl = true → ∀ n, next ≤ n → E n = none)
    {Q : Exit → Act → World → Prop} {K : Act → World → Prop} (hK : ∀ E' x w', Post bt (lookH hb recs) r E w E' x w' → K (a.put o.dst x) w') :
    wpOp cx.P ops Q i K a w := by
  unfold evalOp at hev
  split at hev <;> try (simp at hev; done)
  unfold wpOp
  simp only [ho]
  split at hev <;> try (simp at hev; done)
  · -- passed over
    rename_i hg
    simp only [Option.some.injEq, Prod.mk.injEq] at hev
    obtain ⟨rfl, rfl, rfl⟩ := hev
    have := guard_wanted hg hbt hrel
    simp only at this
    rw [if_neg (by simp [this])]
    exact hK E undef w (Post.same hinj hbd (show TRel E (.tup .nil) undef from ⟨trivial, rfl⟩) rfl rfl)
  · rename_i p hg
    have hwant := guard_wanted hg hbt hrel
    simp only at hwant
    have hat := guardOf_atoms hwf hg
    have hbtR := holdsP_btR hbt hat
    -- the way on which the guard says no
    by_cases hp : holdsP bt p
    case neg =>
      have hne : p ≠ [] := fun e => hp (by rw [e]; trivial)
      have hpe : p.isEmpty = false := by simpa using hne
      rw [if_neg (fun h => hp (hwant.2 h))]
      refine hK E undef w ?_
      split at hev
      · split at hev <;> try (simp at hev; done)
        split at hev <;> simp at hev
        obtain ⟨rfl, rfl, rfl⟩ := hev
        exact Post.same hinj hbd (mark_skip hp) rfl rfl
      · split at hev <;> try (simp at hev; done)
        · split at hev <;> simp at hev
          obtain ⟨rfl, rfl, rfl⟩ := hev
          exact Post.same hinj hbd (mark_skip hp) rfl rfl
        · split at hev <;> try (simp at hev; done)
          split at hev <;> try (simp at hev; done)
          split at hev <;> simp at hev
          obtain ⟨rfl, rfl, rfl⟩ := hev
          exact Post.same hinj hbd (mark_skip hp) rfl rfl
        · rw [hpe] at hev; simp at hev
        · rw [hpe] at hev; simp at hev
        · split at hev
          · split at hev <;> simp at hev
            obtain ⟨rfl, rfl, rfl⟩ := hev
            exact Post.same hinj hbd (mark_skip hp) rfl rfl
          · split at hev
            · simp only [Option.some.injEq, Prod.mk.injEq] at hev
              obtain ⟨rfl, rfl, rfl⟩ := hev
              exact Post.same hinj hbd (mark_skip hp) rfl rfl
            · split at hev
              · simp only [Option.some.injEq, Prod.mk.injEq] at hev
                obtain ⟨rfl, rfl, rfl⟩ := hev
                exact Post.same hinj hbd (mark_skip hp) rfl rfl
              · rw [hpe] at hev; simp at hev
        · split at hev <;> try (simp at hev; done)
          split at hev <;> try (simp at hev; done)
          simp only [Option.some.injEq, Prod.mk.injEq] at hev
          obtain ⟨rfl, rfl, rfl⟩ := hev
          exact Post.same hinj hbd (mark_skip hp) rfl rfl
    case pos =>
    rw [if_pos (hwant.1 hp)]
    left
    unfold Oper.wp
    have hops := opd_rel (p := p) hp hrel
    split at hev
    · -- pick
      rename_i c x y hop
      split at hev <;> try (simp at hev; done)
      rename_i res hpk
      split at hev <;> simp at hev
      rename_i hng
      obtain ⟨rfl, rfl, rfl⟩ := hev
      have hc := hops c (by simp [hop, Op.operands])
      have at_ : ∀ q z, holdsP bt q → z ∈ o.op.operands → TRel E (opd (fun t => strip q (lookT base recs t)) z) (a.eval z) := fun q z hq hz => opd_rel (p := q) hq hrel z hz
      have fin : ∀ b, a.eval c = .bool b → TRel E res (if b then a.eval x else a.eval y) → Oper.upon cx.P o a K Q ((execOp a.eval o).run cx.P w) := by
        intro b hcb hres
        rw [run_pick hop hcb, Oper.upon_value]
        exact hK E _ w (Post.same hinj hbd (mark_rel hp hres (not_gd (by simpa using hng))) rfl rfl)
      unfold evalPick at hpk
      simp only at hpk
      split at hpk <;> try (simp at hpk; done)
      · rename_i hcv
        rw [hcv] at hc
        simp at hpk; subst hpk
        exact fin true ((TRel_bl rfl _).1 hc) (at_ p x hp (by simp [hop, Op.operands]))
      · rename_i hcv
        rw [hcv] at hc
        simp at hpk; subst hpk
        exact fin false ((TRel_bl rfl _).1 hc) (at_ p y hp (by simp [hop, Op.operands]))
      · rename_i f hcv
        split at hpk <;> try (simp at hpk; done)
        rename_i t
        split at hpk <;> simp at hpk
        rename_i hin
        subst hpk
        rw [hcv] at hc
        have hcf : a.eval (.tmp t) = .bool (f []) := by
          have := (TRel_bl (E := E) (v := .bool f) rfl _).1 hc
          simpa [bv] using this
        have hbtt : bt t = f [] := by
          refine hbt t hin (f []) ?_
          rw [← lookT_in (base := base) hin]
          exact strip_bool hcv
        rcases TRel_pick (x := opd (fun t_1 => strip (p ++ [(t, true)]) (lookT base recs t_1)) x) (y := opd (fun t_1 => strip (p ++ [(t, false)]) (lookT base recs t_1)) y) (xv := a.eval x) (yv := a.eval y) hc
          (fun e => at_ _ x (holdsP_snoc.2 ⟨hp, by rw [hbtt]; rw [hcf] at e; simpa using e⟩) (by simp [hop, Op.operands]))
          (fun e => at_ _ y (holdsP_snoc.2 ⟨hp, by rw [hbtt]; rw [hcf] at e; simpa using e⟩) (by simp [hop, Op.operands])) with ⟨b, h1, h2⟩ | h
        · exact fin b h1 h2
        · simp [isBl] at h
    · rename_i hnp
      split at hev <;> try (simp at hev; done)
      · -- a value
        rename_i v ob' heff
        split at hev <;> simp at hev
        rename_i hng
        obtain ⟨rfl, rfl, rfl⟩ := hev
        have hrun := eff_run heff E a hops
        obtain ⟨x, hx, hr⟩ := hrun (obUnder_holds.1 hob (hbtR.2 hp))
        rw [hr w, Oper.upon_value]
        exact hK E x w (Post.same hinj hbd (mark_rel hp hx (not_gd (by simpa using hng))) rfl rfl)
      · -- a load
        rename_i n q T heff
        split at hev <;> try (simp at hev; done)
        rename_i B hB
        split at hev <;> try (simp at hev; done)
        rename_i u hu
        split at hev <;> simp at hev
        rename_i hf
        obtain ⟨rfl, rfl, rfl⟩ := hev
        obtain ⟨b, hb', hr⟩ := eff_run heff E a hops
        obtain ⟨b2, h1, h2, h3⟩ := hheap n (.inl rfl) (by simp) B hB
        obtain rfl : b = b2 := by rw [hb'] at h1; exact Option.some.inj h1
        have hget := (getOb_holds q B.v).1 (obUnder_holds.1 hob (hbtR.2 hp))
        rw [hr w, loadVar_run h3 hu hget hf]
        simp only [Result.andThen_ok, Oper.upon_value]
        have hok := get_ok E q B.v u hu h2
        exact hK E _ w (Post.same hinj hbd (mark_rel hp (TRel_of hok) (fun q u e => by subst e; exact hok.elim)) rfl rfl)
      · -- a store
        rename_i n q T u heff
        split at hev <;> try (simp at hev; done)
        split at hev <;> try (simp at hev; done)
        rename_i B hB
        split at hev <;> try (simp at hev; done)
        rename_i v' hv'
        split at hev <;> simp at hev
        rename_i hsz
        obtain ⟨rfl, rfl, rfl⟩ := hev
        obtain ⟨b, hb', hu, hsb, hr⟩ := eff_run heff E a hops
        obtain ⟨b2, h1, h2, h3⟩ := hheap n (.inr ⟨some ⟨B.T, v'⟩, by simp [hwL]⟩) (by simp) B hB
        obtain rfl : b = b2 := by rw [hb'] at h1; exact Option.some.inj h1
        have hget := (getOb_holds q B.v).1 hob
        have hnr := set_notRaw q B.v u v' hv'
        rw [fz_notRaw hnr.1] at h3
        rw [hr w, storeVar_run h3 hv' hget hu (by simp only [Bool.and_eq_true] at hsz; exact hsz.2) hsb (by simp only [Bool.and_eq_true] at hsz; simpa using hsz.1)]
        simp only [Result.andThen_ok, Oper.upon_skip]
        refine hK E _ _ ⟨⟨Sub.refl E, fun _ _ h => .inl h, rfl, rfl, rfl, by simp, fun k hk hn => setRow_other _ _ _ _ (fun e => hn n (by rw [hb', e]))⟩, hinj,
          fun m k hm => by simpa using hbd m k hm, (show TRel E (.tup .nil) undef from ⟨trivial, rfl⟩), fun n h1 h2 => absurd h1 h2, ?_, ?_, ?_⟩
        · intro m bb hm B' hB'
          simp only [hwL] at hm
          split at hm <;> simp at hm
          rename_i hmn
          simp at hmn
          subst hmn
          rw [← hm] at hB'
          simp at hB'
          subst hB'
          refine ⟨b, hb', set_ok E q B.v u v' hv' h2 hu, ?_⟩
          rw [fz_notRaw (show isRaw v' = false from hnr.2)]
          exact setRow_heap w b _ _ _ _ h3
        · intro _ m k hm hno
          refine setRow_other _ _ _ _ (fun e => ?_)
          subst e
          have : m = n := hinj m n _ hm hb'
          subst this
          simp [hwL] at hno
        · intro h; simp at h
      · -- a new block
        rename_i T v s heff
        split at hev <;> simp at hev
        rename_i hcn
        simp only [Bool.and_eq_true, Bool.not_eq_true'] at hcn
        have hnr := hcn.2
        have hpe0 := hcn.1
        obtain ⟨rfl, rfl, rfl⟩ := hev
        obtain ⟨hv, hr⟩ := eff_run heff E a hops
        rw [hr w, Oper.upon_value]
        have hE := hnew next rfl
        let E' : Env := fun n => if n = next then some w.heap.size else E n
        have hsub : Sub E E' := by
          intro n b hn
          have : n ≠ next := fun e => by rw [e, hE] at hn; simp at hn
          simp [E', this, hn]
        have hheapo : ∀ k, k < w.heap.size → (w.alloc (.cells (cells E [] v).toArray T)).heap[k]? = w.heap[k]? := fun k hk => heap_alloc_old _ _ _ hk
        refine hK E' _ _ ⟨⟨hsub, ?_, rfl, rfl, rfl, by simp, fun k hk _ => hheapo k hk⟩, ?_, ?_, ?_, ?_, ?_, ?_, ?_⟩
        · intro n b hn
          simp only [E'] at hn
          split at hn
          · simp at hn; right; omega
          · exact .inl hn
        · intro n m b hn hm
          simp only [E'] at hn hm
          split at hn <;> split at hm
          · rename_i h1 h2; rw [h1, h2]
          · simp at hn; have := hbd m b hm; omega
          · simp at hm; have := hbd n b hn; omega
          · exact hinj n m b hn hm
        · intro n b hn
          simp only [E'] at hn
          simp only [World.size_alloc]
          split at hn
          · simp at hn; omega
          · have := hbd n b hn; omega
        · have := newAV_rel (E := E') (n := next) (k := w.heap.size) (by simp [E']) s
          cases s <;> exact this
        · intro n h1 h2
          simp only [E'] at h2
          split at h2
          · rename_i he; rw [he]
          · exact absurd h1 h2
        · intro m bb hm B' hB'
          simp only [hwL] at hm
          split at hm <;> simp at hm
          rename_i hmn
          simp at hmn
          subst hmn
          rw [← hm] at hB'
          simp at hB'
          subst hB'
          refine ⟨w.heap.size, by simp [E'], ok_mono hsub hv, ?_⟩
          rw [heap_alloc_new, cells_mono hsub hv, fz_notRaw (show isRaw v = false from hnr)]
        · intro _ m k hm _
          exact hheapo k (hbd m k hm)
        · intro h; simp at h
      · -- a call
        rename_i f args heff
        obtain ⟨hargs, hr⟩ := eff_run heff E a hops
        split at hev
        · rename_i res ob' hcon
          split at hev <;> simp at hev
          obtain ⟨rfl, rfl, rfl⟩ := hev
          rw [Option.bind_eq_some_iff] at hcon
          obtain ⟨args', hn, hcon⟩ := hcon
          obtain ⟨hpf, hmap⟩ := nrmL_spec args args' hn
          obtain ⟨hpr, hcall⟩ := hΓ f args' res ob' hcon (obUnder_holds.1 hob (hbtR.2 hp)) hpf
          have hval : args.map (val E) = args'.map (val E0) := by
            rw [hmap E]
            exact List.map_congr_left fun v hv => val_pf (hpf v hv) E E0
          rw [hr w, Oper.upon_enter, hval]
          refine (hcall w).mono ?_
          rintro e w' ⟨rfl, hbel⟩
          refine hK E _ w' ⟨Tr.of_below hbel, hinj, fun n b hn => Nat.lt_of_lt_of_le (hbd n b hn) hbel.size, mark_rel hp (TRel_pfT hpr E) (not_gd (pfT_spec hpr E).2.2), fun n h1 h2 => absurd h1 h2, ?_, ?_, ?_⟩
          · intro n b hn; simp [plainRec, hwL] at hn
          · intro _ m k hm _
            exact hbel.block k (hbd m k hm)
          · intro h; simp [plainRec] at h
        · split at hev
          · rename_i res n0 ob' hrd
            simp only [Option.some.injEq, Prod.mk.injEq] at hev
            obtain ⟨rfl, rfl, rfl⟩ := hev
            unfold evalRd at hrd
            split at hrd <;> try (simp at hrd; done)
            rename_i n1 hfirst
            split at hrd <;> try (simp at hrd; done)
            rename_i hc
            simp only [Bool.and_eq_true, List.all_eq_true, Nat.blt_eq] at hc
            split at hrd <;> try (simp at hrd; done)
            rename_i B r0 ob0 hB hinl
            split at hrd <;> try (simp at hrd; done)
            rename_i hng
            simp only [Bool.or_eq_true, Bool.not_eq_true', not_or, Bool.not_eq_false, Bool.not_eq_true] at hng
            have hpfB : onlyB n1 B.v = true := hng.2
            simp only [Option.some.injEq, Prod.mk.injEq] at hrd
            obtain ⟨rfl, rfl, rfl⟩ := hrd
            obtain ⟨k, hk1, hk2, hk3⟩ := hheap n1 (.inl rfl) (by simp) B hB
            have hE1 : env1 n1 E n1 = some k := by simp [env1, hk1]
            have hrel1 : HRel (env1 n1 E) (hp1 n1 (lookH hb recs)) w := by
              intro m B' hB'
              unfold hp1 at hB'
              split at hB'
              · rename_i e
                subst e
                rw [hB] at hB'
                simp at hB'
                subst hB'
                have hok := ok_env1 hk2 hpfB
                exact ⟨k, hE1, hok, by rw [hk3, ← cells_mono (env1_sub m E) hok]⟩
              · cases hB'
            have hinj1 : Inj (env1 n1 E) := fun a b c h1 h2 => hinj a b c (env1_sub n1 E a c h1) (env1_sub n1 E b c h2)
            have hbd1 : Bd (env1 n1 E) w := fun a b h1 => hbd a b (env1_sub n1 E a b h1)
            have hnx1 : ∀ m, next ≤ m → env1 n1 E m = none := fun m hm => by
              unfold env1
              rw [if_neg (by omega)]
            obtain ⟨hng', hcall⟩ := hI f args _ _ _ _ _ hinl (obUnder_holds.1 hob (hbtR.2 hp))
            have hargs1 : ∀ v ∈ args, ok (env1 n1 E) v := fun v hv => ok_env1 (hargs v hv) (hc.1 v hv)
            have hval : args.map (val E) = args.map (val (env1 n1 E)) := List.map_congr_left fun v hv => val_mono (env1_sub n1 E) (hargs1 v hv)
            rw [hr w, Oper.upon_enter, hval]
            refine (hcall (env1 n1 E) w hargs1 hrel1 hinj1 hbd1 hnx1).mono ?_
            rintro e w' ⟨x, rfl, hx, htr, hh⟩
            refine hK E x w' ⟨⟨Sub.refl E, fun _ _ h => .inl h, htr.os, htr.tape, htr.output, htr.size, fun k' hk' hn => htr.keep k' hk' (fun m e => hn m (env1_sub n1 E m k' e))⟩, hinj,
              fun n b hn => Nat.lt_of_lt_of_le (hbd n b hn) htr.size, mark_rel hp (TRel_mono (env1_sub n1 E) hx) (not_gd hng'), fun n h1 h2 => absurd h1 h2, ?_, ?_, ?_⟩
            · intro n b hn; simp [hwL] at hn
            · intro _ m k' hm _
              by_cases e : k' = k
              · subst e
                obtain ⟨b2, q1, q2, q3⟩ := hh n1 B (by simp [updH, hwL, hp1, hB])
                rw [hE1] at q1
                simp at q1
                subst q1
                rw [q3, hk3, cells_mono (env1_sub n1 E) q2]
              · exact htr.keep k' (hbd m k' hm) (fun z e2 => by
                  unfold env1 at e2
                  split at e2
                  · rw [hk1] at e2; simp at e2; exact e e2.symm
                  · cases e2)
            · intro h; simp at h
          · split at hev
            · rename_i res ob' hpl
              simp only [Option.some.injEq, Prod.mk.injEq] at hev
              obtain ⟨rfl, rfl, rfl⟩ := hev
              unfold evalPl at hpl
              split at hpl <;> try (simp at hpl; done)
              rename_i hnm
              rw [List.all_eq_true] at hnm
              split at hpl <;> try (simp at hpl; done)
              rename_i r0 hw0 ob0 hinl
              split at hpl <;> simp at hpl
              rename_i hng0
              obtain ⟨rfl, rfl⟩ := hpl
              obtain ⟨hng', hcall⟩ := hI f args _ _ _ _ _ hinl (obUnder_holds.1 hob (hbtR.2 hp))
              have hargs1 : ∀ v ∈ args, ok (fun _ => none) v := fun v hv => ok_noNm (hargs v hv) (hnm v hv)
              have hval : args.map (val E) = args.map (val (fun _ => none)) := List.map_congr_left fun v hv => val_mono (sub_none E) (hargs1 v hv)
              rw [hr w, Oper.upon_enter, hval]
              refine (hcall (fun _ => none) w hargs1 (fun _ _ h => by cases h) (fun _ _ _ h => by cases h) (fun _ _ h => by cases h) (fun _ _ => rfl)).mono ?_
              rintro e w' ⟨x, rfl, hx, htr, hh⟩
              have hbel := htr.below
              refine hK E x w' ⟨Tr.of_below hbel, hinj, fun n b hn => Nat.lt_of_lt_of_le (hbd n b hn) hbel.size, mark_rel hp (TRel_mono (sub_none E) hx) (not_gd hng'), fun n h1 h2 => absurd h1 h2, ?_, ?_, ?_⟩
              · intro n b hn; simp [plainRec, hwL] at hn
              · intro _ m k hm _
                exact hbel.block k (hbd m k hm)
              · intro h; simp [plainRec] at h
            split at hev <;> try (simp at hev; done)
            rename_i hpe
            split at hev <;> try (simp at hev; done)
            rename_i res hw ob' hinl
            split at hev <;> simp at hev
            obtain ⟨rfl, rfl, rfl⟩ := hev
            obtain ⟨hng, hcall⟩ := hI f args _ _ _ _ _ hinl hob
            rw [hr w, Oper.upon_enter]
            refine (hcall E w hargs (hall rfl) hinj hbd (hnext rfl)).mono ?_
            rintro e w' ⟨x, rfl, hx, htr, hh⟩
            have hwf' : holdsP bt [] := trivial
            refine hK E x w' ⟨htr, hinj, fun n b hn => Nat.lt_of_lt_of_le (hbd n b hn) htr.size, ?_, fun n h1 h2 => absurd h1 h2, ?_, ?_, ?_⟩
            · have := mark_rel (p := []) hwf' hx (not_gd hng)
              simpa [mark] using this
            · intro n b hn B hB
              exact hh n B (by simp [updH, hn, hB])
            · intro h; simp at h
            · intro _; exact hh
      · -- bytes as a string
        rename_i n q len heff
        split at hev <;> try (simp at hev; done)
        rename_i B hB
        split at hev <;> try (simp at hev; done)
        rename_i s0 ob0 hs0
        simp only [Option.some.injEq, Prod.mk.injEq] at hev
        obtain ⟨rfl, rfl, rfl⟩ := hev
        obtain ⟨b, cap, hb', hr⟩ := eff_run heff E a hops
        obtain ⟨b2, h1, h2, h3⟩ := hheap n (.inl rfl) (by simp) B hB
        obtain rfl : b = b2 := by rw [hb'] at h1; exact Option.some.inj h1
        rw [hr w, str_run hs0 (obUnder_holds.1 hob (hbtR.2 hp)) h3 cap]
        simp only [Result.andThen_ok, Oper.upon_value]
        exact hK E _ w (Post.same hinj hbd (mark_rel hp (show TRel E (strV s0) (.string s0) from ⟨trivial, rfl⟩) (fun q u e => by cases e)) rfl rfl)

end Go.Rf
