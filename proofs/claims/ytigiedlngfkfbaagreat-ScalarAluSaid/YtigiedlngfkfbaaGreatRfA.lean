/- Several texts as one: Rf1 Rf2 Rf3 Rf4. -/
import Derived.Orders
import Derived.Laws.StructEq
import Derived.Laws.CopyRow
import Derived.Laws.Rows
set_option linter.unusedVariables false
set_option linter.unusedSimpArgs false

/- Symbolic data: numbers as bit vectors, structs and arrays as trees; how they lie in memory. -/
namespace Go.Rf

abbrev Ix := List Nat

/-- One step of a place inside a block: a field (its number, its cell), an element (its number, how many cells each has). -/
inductive Stp where
  | fld (i o : Nat)
  | idx (i s : Nat)
  /-- Into a part of a block that came in: where it begins. -/
  | win (o : Nat)

def offOf : List Stp → Nat
  | [] => 0
  | .fld _ o :: p => o + offOf p
  | .idx i s :: p => i * s + offOf p
  | .win o :: p => o + offOf p

theorem offOf_append (p q : List Stp) : offOf (p ++ q) = offOf p + offOf q := by
  induction p with
  | nil => simp [offOf]
  | cons s p ih => cases s <;> simp [offOf, ih] <;> omega

/-- Symbolic values. Leaves of an array's body are functions of the indices, the outermost first. -/
inductive AV where
  | un
  | lit (k : IntKind) (n : Int)
  | int (k : IntKind) (x : Ix → BitVec k.bits)
  | blit (b : Bool)
  | bool (b : Ix → Bool)
  | nil
  | cons (h t : AV)
  | agg (fs : AV)
  | tup (fs : AV)
  | arr (n : Nat) (b : AV)
  | ptr (n : Nat) (p : List Stp)
  | fn (f : FuncId) (cap : AV)
  | gd (p : List (Nat × Bool)) (v : AV)
  /-- A slice: where its array lies, how long it is, how long it may be. -/
  | slc (n : Nat) (p : List Stp) (len : AV) (cap : Nat)
  /-- What lies behind some cells of a block that came in. -/
  | raw (pre : List Value) (v : AV) (post : List Value) (fz : Nat × Nat)
  /-- A slice without elements. -/
  | vsl (a : Option Addr) (cap : Nat)

instance : Inhabited AV := ⟨.un⟩

/-- The number that bits of a kind stand for. -/
def toZ (k : IntKind) (x : BitVec k.bits) : Int := if k.signed then x.toInt else (x.toNat : Int)

abbrev Env := Nat → Option Nat

/-- A slice's length. -/
def lenZ (ix : Ix) : AV → Int
  | .lit _ n => n
  | .int k x => toZ k (x ix)
  | _ => 0

def cells (E : Env) : Ix → AV → List Value
  | _, .lit k n => [.int k n]
  | ix, .int k x => [.int k (toZ k (x ix))]
  | _, .blit b => [.bool b]
  | ix, .bool b => [.bool (b ix)]
  | _, .nil => []
  | ix, .cons h t => cells E ix h ++ cells E ix t
  | ix, .agg fs => cells E ix fs
  | ix, .arr n b => (List.range n).flatMap fun i => cells E (ix ++ [i]) b
  | _, .ptr n p => [.pointer ((E n).map fun b => ⟨b, offOf p, none⟩)]
  | ix, .fn f cap => [.func (.func f) #[] (cells E ix cap).toArray]
  | ix, .slc n p len cap => [.slice ((E n).map fun b => ⟨b, offOf p, none⟩) (lenZ ix len).toNat cap]
  | ix, .raw pre v post _ => pre ++ cells E ix v ++ post
  | _, .vsl a cap => [.slice a 0 cap]
  | _, .un => [undef]
  | _, .tup _ => [undef]
  | _, .gd _ _ => [undef]

/-- How many cells. -/
def sz : AV → Nat
  | .nil => 0
  | .cons h t => sz h + sz t
  | .agg fs => sz fs
  | .arr n b => n * sz b
  | .raw pre v post _ => pre.length + sz v + post.length
  | _ => 1

theorem length_cells (E : Env) (v : AV) : ∀ ix, (cells E ix v).length = sz v := by
  induction v with
  | cons h t ih1 ih2 => intro ix; simp [cells, sz, ih1, ih2]
  | agg fs ih => intro ix; simp [cells, sz, ih]
  | raw pre v post fz ih => intro ix; simp [cells, sz, ih]; omega
  | arr n b ih =>
    intro ix
    simp only [cells, sz, List.length_flatMap, ih]
    have : ∀ l : List Nat, (l.map fun _ => sz b).sum = l.length * sz b := by
      intro l
      induction l with
      | nil => simp
      | cons a l ih => simp [ih, Nat.succ_mul]; omega
    rw [this]; simp
  | _ => intro ix; simp [cells, sz]

/-- Element i of an array's body. -/
def inst (i : Nat) : AV → AV
  | .int k x => .int k fun ix => x (i :: ix)
  | .bool b => .bool fun ix => b (i :: ix)
  | .cons h t => .cons (inst i h) (inst i t)
  | .agg fs => .agg (inst i fs)
  | .arr n b => .arr n (inst i b)
  | .fn f cap => .fn f (inst i cap)
  | .slc n p len cap => .slc n p (inst i len) cap
  | .raw pre v post fz => .raw pre (inst i v) post fz
  | v => v

theorem sz_inst (i : Nat) (v : AV) : sz (inst i v) = sz v := by
  induction v with
  | cons h t ih1 ih2 => simp [inst, sz, ih1, ih2]
  | agg fs ih => simp [inst, sz, ih]
  | arr n b ih => simp [inst, sz, ih]
  | raw pre v post fz ih => simp [inst, sz, ih]
  | _ => simp [inst, sz]

theorem cells_inst (E : Env) (i : Nat) (v : AV) : ∀ ix, cells E ix (inst i v) = cells E (i :: ix) v := by
  induction v with
  | cons h t ih1 ih2 => intro ix; simp [inst, cells, ih1, ih2]
  | agg fs ih => intro ix; simp [inst, cells, ih]
  | arr n b ih => intro ix; simp [inst, cells, ih]
  | fn f cap ih => intro ix; simp [inst, cells, ih]
  | slc n p len cap _ => intro ix; cases len <;> rfl
  | raw pre v post fz ih => intro ix; simp [inst, cells, ih]
  | _ => intro ix; simp [inst, cells]

/-- All that a value names is known. -/
def ok (E : Env) : AV → Prop
  | .lit _ _ | .int _ _ | .blit _ | .bool _ | .nil => True
  | .cons h t => ok E h ∧ ok E t
  | .agg fs => ok E fs
  | .arr _ b => ok E b
  | .ptr n _ => (E n).isSome = true
  | .slc n _ _ _ => (E n).isSome = true
  | .fn _ cap => ok E cap
  | .raw _ v _ _ => ok E v
  | .vsl _ _ => True
  | .un | .tup _ | .gd _ _ => False

/-- Names nothing. -/
def pf : AV → Bool
  | .lit _ _ | .int _ _ | .blit _ | .bool _ | .nil => true
  | .cons h t => pf h && pf t
  | .agg fs => pf fs
  | .arr _ b => pf b
  | .ptr _ _ | .fn _ _ | .un | .tup _ | .gd _ _ | .slc _ _ _ _ | .raw _ _ _ _ | .vsl _ _ => false

theorem ok_of_pf (E : Env) (v : AV) (h : pf v = true) : ok E v := by
  induction v with
  | cons a b iha ihb => simp [pf] at h; exact ⟨iha h.1, ihb h.2⟩
  | agg fs ih => exact ih h
  | arr n b ih => exact ih h
  | _ => first | trivial | simp [pf] at h

theorem cells_pf (E E' : Env) (v : AV) (h : pf v = true) : ∀ ix, cells E ix v = cells E' ix v := by
  induction v with
  | cons a b iha ihb => intro ix; simp [pf] at h; simp [cells, iha h.1, ihb h.2]
  | agg fs ih => intro ix; exact ih h ix
  | arr n b ih => intro ix; simp [cells, ih h]
  | ptr n p => simp [pf] at h
  | fn n p => simp [pf] at h
  | slc n p len cap => simp [pf] at h
  | raw pre v post fz => simp [pf] at h
  | vsl a cap => simp [pf] at h
  | _ => intro ix; rfl

def Sub (E E' : Env) : Prop := ∀ n b, E n = some b → E' n = some b
theorem Sub.refl (E : Env) : Sub E E := fun _ _ h => h
theorem Sub.trans {E E' E'' : Env} (h : Sub E E') (h' : Sub E' E'') : Sub E E'' := fun n b e => h' n b (h n b e)

theorem ok_mono {E E' : Env} (hs : Sub E E') {v : AV} (h : ok E v) : ok E' v := by
  induction v with
  | cons a b iha ihb => exact ⟨iha h.1, ihb h.2⟩
  | agg fs ih => exact ih h
  | arr n b ih => exact ih h
  | fn f cap ih => exact ih h
  | ptr n p =>
    simp only [ok] at h ⊢
    cases he : E n with
    | none => simp [he] at h
    | some b => simp [hs n b he]
  | slc n p len cap =>
    simp only [ok] at h ⊢
    cases he : E n with
    | none => simp [he] at h
    | some b => simp [hs n b he]
  | raw pre v post fz ih => exact ih h
  | _ => exact h

theorem cells_mono {E E' : Env} (hs : Sub E E') {v : AV} (h : ok E v) : ∀ ix, cells E' ix v = cells E ix v := by
  induction v with
  | cons a b iha ihb => intro ix; simp [cells, iha h.1, ihb h.2]
  | agg fs ih => intro ix; exact ih h ix
  | arr n b ih => intro ix; simp only [cells, ih h]
  | fn f cap ih => intro ix; simp only [cells, ih h]
  | ptr n p =>
    intro ix
    simp only [ok] at h
    cases he : E n with
    | none => simp [he] at h
    | some b => simp [cells, he, hs n b he]
  | slc n p len cap =>
    intro ix
    simp only [ok] at h
    cases he : E n with
    | none => simp [he] at h
    | some b => simp [cells, he, hs n b he]
  | raw pre v post fz ih => intro ix; simp only [cells, ih h]
  | un => exact h.elim
  | tup _ => exact h.elim
  | gd _ _ => exact h.elim
  | _ => intro ix; rfl

/-- The value, as the machine has it. -/
def val (E : Env) : AV → Value
  | .agg fs => .agg (cells E [] fs).toArray
  | .arr n b => .agg (cells E [] (.arr n b)).toArray
  | v => (cells E [] v).headD undef

def vals (E : Env) : AV → List Value
  | .cons h t => val E h :: vals E t
  | _ => []

def valT (E : Env) : AV → Value
  | .tup fs => .tuple (vals E fs).toArray
  | v => val E v

/-- A value that may lie in a variable. -/
def okl (E : Env) : AV → Prop
  | .cons h t => ok E h ∧ okl E t
  | .nil => True
  | _ => False

def okT (E : Env) : AV → Prop
  | .tup fs => okl E fs
  | v => ok E v

theorem val_mono {E E' : Env} (hs : Sub E E') {v : AV} (h : ok E v) : val E' v = val E v := by
  cases v <;> simp only [val] <;> first
    | rw [cells_mono hs h]
    | (have := cells_mono hs (v := AV.agg _) h []; simp only [cells] at this; rw [this])

theorem vals_mono {E E' : Env} (hs : Sub E E') {v : AV} (h : okl E v) : vals E' v = vals E v := by
  induction v with
  | cons a b _ ih => simp only [vals]; rw [val_mono hs h.1, ih h.2]
  | _ => rfl

theorem okl_mono {E E' : Env} (hs : Sub E E') {v : AV} (h : okl E v) : okl E' v := by
  induction v with
  | cons a b _ ih => exact ⟨ok_mono hs h.1, ih h.2⟩
  | _ => exact h

theorem okT_mono {E E' : Env} (hs : Sub E E') {v : AV} (h : okT E v) : okT E' v := by
  cases v <;> first | exact okl_mono hs h | exact ok_mono hs h

theorem valT_mono {E E' : Env} (hs : Sub E E') {v : AV} (h : okT E v) : valT E' v = valT E v := by
  cases v <;> simp only [valT] <;> first | rw [vals_mono hs h] | exact val_mono hs h

/-- One cell, and no struct, array or list of fields. -/
def sca : AV → Bool
  | .lit _ _ | .int _ _ | .blit _ | .bool _ | .ptr _ _ | .fn _ _ | .slc _ _ _ _ | .vsl _ _ => true
  | _ => false
/-- A struct or an array. -/
def big : AV → Bool
  | .agg _ | .arr _ _ => true
  | _ => false

theorem cells_sca {E : Env} {v : AV} (h : sca v = true) : cells E [] v = [val E v] := by
  cases v <;> simp [sca] at h <;> simp [cells, val]

theorem val_big {E : Env} {v : AV} (h : big v = true) : val E v = .agg (cells E [] v).toArray := by
  cases v <;> simp [big] at h <;> simp [val, cells]

/-- The cells of a value that is no tuple. -/
theorem val_cells {E : Env} {v : AV} (h : sca v = true ∨ big v = true) : (val E v).cells = (cells E [] v).toArray := by
  rcases h with h | h
  · rw [cells_sca h]
    cases v <;> simp [sca] at h <;> simp [val, cells, Value.cells]
  · rw [val_big h]; rfl

/-! ### A place inside a value -/

/-- Field i of a row of fields, and at which cell it begins. -/
def nth : Nat → AV → Option (AV × Nat)
  | 0, .cons h _ => some (h, 0)
  | i + 1, .cons h t => (nth i t).map fun x => (x.1, x.2 + sz h)
  | _, _ => none

theorem nth_cells (E : Env) (ix : Ix) : ∀ (i : Nat) (fs u : AV) (o : Nat), nth i fs = some (u, o) →
    ∃ pre post, cells E ix fs = pre ++ cells E ix u ++ post ∧ pre.length = o := by
  intro i
  induction i with
  | zero =>
    intro fs u o h
    cases fs <;> simp [nth] at h
    obtain ⟨rfl, rfl⟩ := h
    exact ⟨[], _, by simp [cells]; rfl, rfl⟩
  | succ i ih =>
    intro fs u o h
    cases fs <;> simp [nth] at h
    rename_i hd tl
    obtain ⟨x, o', hx, rfl, rfl⟩ := h
    obtain ⟨pre, post, he, hl⟩ := ih tl x o' hx
    exact ⟨cells E ix hd ++ pre, post, by simp [cells, he], by simp [length_cells, hl]; omega⟩

theorem nth_ok (E : Env) : ∀ (i : Nat) (fs u : AV) (o : Nat), nth i fs = some (u, o) → ok E fs → ok E u := by
  intro i
  induction i with
  | zero =>
    intro fs u o h hk
    cases fs <;> simp [nth] at h
    obtain ⟨rfl, rfl⟩ := h
    exact hk.1
  | succ i ih =>
    intro fs u o h hk
    cases fs <;> simp [nth] at h
    obtain ⟨x, o', hx, rfl, rfl⟩ := h
    exact ih _ _ _ hx hk.2

theorem ok_inst (E : Env) (i : Nat) (v : AV) (h : ok E v) : ok E (inst i v) := by
  induction v with
  | cons a b iha ihb => exact ⟨iha h.1, ihb h.2⟩
  | agg fs ih => exact ih h
  | arr n b ih => exact ih h
  | fn f cap ih => exact ih h
  | raw pre v post fz ih => exact ih h
  | _ => exact h

/-- What lies at a place; and the bounds of the indices on the way. -/
def get : List Stp → AV → Option AV
  | [], v => some v
  | .fld i o :: p, .agg fs => match nth i fs with
    | some (u, o') => if o' == o then get p u else none
    | none => none
  | .idx i s :: p, .arr n b => if s == sz b then get p (inst i b) else none
  | .win _ :: p, .raw _ v _ _ => get p v
  | _, _ => none

def getB : List Stp → AV → Prop
  | .fld i _ :: p, .agg fs => match nth i fs with
    | some (u, _) => getB p u
    | none => True
  | .idx i _ :: p, .arr n b => i < n ∧ getB p (inst i b)
  | .win o :: p, .raw pre v _ _ => o = pre.length ∧ getB p v
  | _, _ => True

theorem range_split (n i : Nat) (hi : i < n) : List.range n = List.range i ++ [i] ++ (List.range (n - (i + 1))).map (fun k => i + 1 + k) := by
  have h : n = i + 1 + (n - (i + 1)) := by omega
  conv => lhs; rw [h]
  rw [List.range_add, List.range_succ]

theorem sum_const {α : Type} (m : Nat) (l : List α) : (l.map fun _ => m).sum = l.length * m := by
  induction l with
  | nil => simp
  | cons a l ih => simp [ih, Nat.succ_mul]; omega

theorem flatMap_len {α : Type} (f : Nat → List α) (m : Nat) (hf : ∀ i, (f i).length = m) (l : List Nat) : (l.flatMap f).length = l.length * m := by
  rw [List.length_flatMap]
  simp only [hf]
  exact sum_const m l

theorem flatMap_split {α : Type} (f : Nat → List α) (m : Nat) (hf : ∀ i, (f i).length = m) (n i : Nat) (hi : i < n) :
    ∃ pre post, (List.range n).flatMap f = pre ++ f i ++ post ∧ pre.length = i * m := by
  refine ⟨(List.range i).flatMap f, ((List.range (n - (i + 1))).map (fun k => i + 1 + k)).flatMap f, ?_, ?_⟩
  · rw [range_split n i hi]
    simp
  · rw [flatMap_len f m hf]
    simp

theorem get_cells (E : Env) : ∀ (p : List Stp) (v u : AV), get p v = some u → getB p v →
    ∃ pre post, cells E [] v = pre ++ cells E [] u ++ post ∧ pre.length = offOf p := by
  intro p
  induction p with
  | nil =>
    intro v u h _
    cases v <;> simp [get] at h <;> subst h <;> exact ⟨[], [], by simp, rfl⟩
  | cons s p ih =>
    intro v u h hb
    cases s with
    | fld i o =>
      cases v <;> simp [get] at h
      rename_i fs
      simp only [getB] at hb
      cases hn : nth i fs with
      | none => simp [hn] at h
      | some x =>
        obtain ⟨x, o'⟩ := x
        simp [hn] at h hb
        obtain ⟨ho, hg⟩ := h
        subst ho
        obtain ⟨pre, post, he, hl⟩ := nth_cells E [] i fs x o' hn
        obtain ⟨pre', post', he', hl'⟩ := ih x u hg hb
        exact ⟨pre ++ pre', post' ++ post, by simp [cells, he, he'], by simp [offOf, hl, hl']⟩
    | idx i sl =>
      cases v <;> simp [get] at h
      rename_i n b
      obtain ⟨rfl, hg⟩ := h
      simp only [getB] at hb
      obtain ⟨hi, hb⟩ := hb
      obtain ⟨pre', post', he', hl'⟩ := ih _ u hg hb
      obtain ⟨pre, post, he, hl⟩ := flatMap_split (fun i => cells E [i] b) (sz b) (fun i => length_cells E b [i]) n i hi
      rw [cells_inst] at he'
      refine ⟨pre ++ pre', post' ++ post, ?_, by simp [offOf, hl, hl']⟩
      simp only [cells, List.nil_append]
      rw [he]
      simp [he']
    | win o =>
      cases v <;> simp [get] at h
      rename_i pre v post fz
      simp only [getB] at hb
      obtain ⟨rfl, hb⟩ := hb
      obtain ⟨pre', post', he', hl'⟩ := ih _ u h hb
      exact ⟨pre ++ pre', post' ++ post, by simp [cells, he'], by simp [offOf, hl']⟩

theorem get_ok (E : Env) : ∀ (p : List Stp) (v u : AV), get p v = some u → ok E v → ok E u := by
  intro p
  induction p with
  | nil => intro v u h hk; cases v <;> simp [get] at h <;> subst h <;> exact hk
  | cons s p ih =>
    intro v u h hk
    cases s with
    | fld i o =>
      cases v <;> simp [get] at h
      rename_i fs
      cases hn : nth i fs with
      | none => simp [hn] at h
      | some x =>
        obtain ⟨x, o'⟩ := x
        simp [hn] at h
        exact ih x u h.2 (nth_ok E i fs x o' hn hk)
    | idx i sl =>
      cases v <;> simp [get] at h
      exact ih _ u h.2 (ok_inst E i _ hk)
    | win o =>
      cases v <;> simp [get] at h
      exact ih _ u h hk

/-! ### Numbers as bits -/

theorem wrap_toZ (k : IntKind) (n : Int) : k.wrap n = toZ k (BitVec.ofInt k.bits n) := by
  cases k <;> simp [IntKind.wrap, toZ, IntKind.signed, IntKind.bits, BitVec.toInt_ofInt, Int.bmod_def] <;> omega

theorem ofInt_toZ (k : IntKind) (x : BitVec k.bits) : BitVec.ofInt k.bits (toZ k x) = x := by
  unfold toZ
  split
  · exact BitVec.ofInt_toInt
  · simp

theorem toZ_inj (k : IntKind) (x y : BitVec k.bits) (h : toZ k x = toZ k y) : x = y := by
  rw [← ofInt_toZ k x, h, ofInt_toZ]

/-- A number in bits: of a literal, if it is in its kind's range. -/
def toBV (k : IntKind) : AV → Option (Ix → BitVec k.bits)
  | .lit k' n => if k' == k && toZ k (BitVec.ofInt k.bits n) == n then some fun _ => BitVec.ofInt k.bits n else none
  | .int k' x => if h : k' = k then some (h ▸ x) else none
  | _ => none

theorem toBV_cells {k : IntKind} {v : AV} {x : Ix → BitVec k.bits} (h : toBV k v = some x) (E : Env) (ix : Ix) : cells E ix v = [.int k (toZ k (x ix))] := by
  cases v <;> simp [toBV] at h
  · obtain ⟨⟨rfl, h1⟩, rfl⟩ := h
    simp [cells, h1]
  · obtain ⟨rfl, rfl⟩ := h
    simp [cells]

def toBl : AV → Option (Ix → Bool)
  | .blit b => some fun _ => b
  | .bool b => some b
  | _ => none

theorem toBl_cells {v : AV} {x : Ix → Bool} (h : toBl v = some x) (E : Env) (ix : Ix) : cells E ix v = [.bool (x ix)] := by
  cases v <;> simp [toBl] at h <;> subst h <;> simp [cells]

def kindOf : AV → Option IntKind
  | .lit k _ => some k
  | .int k _ => some k
  | _ => none

/-! ### Writing one element of an array -/

/-- Of every leaf: at index i what u says, elsewhere what b says. -/
def mergeAt (i : Nat) : AV → AV → Option AV
  | .lit k n, u => match toBV k (.lit k n), toBV k u with
    | some x, some y => some (.int k fun
      | j :: r => if j = i then y r else x (j :: r)
      | [] => x [])
    | _, _ => none
  | .int k x, u => match toBV k u with
    | some y => some (.int k fun
      | j :: r => if j = i then y r else x (j :: r)
      | [] => x [])
    | none => none
  | .blit b, u => match toBl u with
    | some y => some (.bool fun
      | j :: r => if j = i then y r else b
      | [] => b)
    | none => none
  | .bool x, u => match toBl u with
    | some y => some (.bool fun
      | j :: r => if j = i then y r else x (j :: r)
      | [] => x [])
    | none => none
  | .nil, .nil => some .nil
  | .cons h t, .cons h' t' => match mergeAt i h h', mergeAt i t t' with
    | some a, some b => some (.cons a b)
    | _, _ => none
  | .agg fs, .agg fs' => (mergeAt i fs fs').map .agg
  | .arr n b, .arr n' b' => if n == n' then (mergeAt i b b').map (.arr n) else none
  | _, _ => none

theorem mergeAt_cells (E : Env) (i : Nat) : ∀ (b u m : AV), mergeAt i b u = some m → ∀ j ix, cells E (j :: ix) m = if j = i then cells E ix u else cells E (j :: ix) b := by
  intro b
  induction b with
  | lit k n =>
    intro u m h j ix
    simp only [mergeAt] at h
    cases hx : toBV k (.lit k n) with
    | none => simp [hx] at h
    | some x =>
      cases hy : toBV k u with
      | none => simp [hx, hy] at h
      | some y =>
        simp [hx, hy] at h
        subst h
        rw [toBV_cells hy, toBV_cells hx]
        simp only [cells]
        split <;> rfl
  | int k x =>
    intro u m h j ix
    simp only [mergeAt] at h
    cases hy : toBV k u with
    | none => simp [hy] at h
    | some y =>
      simp [hy] at h
      subst h
      rw [toBV_cells hy]
      simp only [cells]
      split <;> rfl
  | blit x =>
    intro u m h j ix
    simp only [mergeAt] at h
    cases hy : toBl u with
    | none => simp [hy] at h
    | some y =>
      simp [hy] at h
      subst h
      rw [toBl_cells hy]
      simp only [cells]
      split <;> rfl
  | bool x =>
    intro u m h j ix
    simp only [mergeAt] at h
    cases hy : toBl u with
    | none => simp [hy] at h
    | some y =>
      simp [hy] at h
      subst h
      rw [toBl_cells hy]
      simp only [cells]
      split <;> rfl
  | nil =>
    intro u m h j ix
    cases u <;> simp [mergeAt] at h
    subst h
    simp [cells]
  | cons a b iha ihb =>
    intro u m h j ix
    cases u <;> simp [mergeAt] at h
    rename_i a' b'
    cases ha : mergeAt i a a' with
    | none => simp [ha] at h
    | some x =>
      cases hb : mergeAt i b b' with
      | none => simp [ha, hb] at h
      | some y =>
        simp [ha, hb] at h
        subst h
        simp only [cells, iha _ _ ha j ix, ihb _ _ hb j ix]
        split <;> rfl
  | agg fs ih =>
    intro u m h j ix
    cases u <;> simp [mergeAt] at h
    obtain ⟨x, hx, rfl⟩ := h
    simp only [cells]
    exact ih _ _ hx j ix
  | arr n b ih =>
    intro u m h j ix
    cases u <;> simp [mergeAt] at h
    obtain ⟨rfl, x, hx, rfl⟩ := h
    simp only [cells, List.cons_append, ih _ _ hx]
    split <;> rfl
  | _ => intro u m h; cases u <;> simp [mergeAt] at h

theorem mergeAt_sz (i : Nat) : ∀ (b u m : AV), mergeAt i b u = some m → sz m = sz b := by
  intro b u m h
  have h1 := mergeAt_cells (fun _ => none) i b u m h (i + 1) []
  have h2 := length_cells (fun _ => none) m [i + 1]
  have h3 := length_cells (fun _ => none) b [i + 1]
  simp at h1
  rw [← h2, ← h3, h1]

theorem mergeAt_pf (i : Nat) : ∀ (b u m : AV), mergeAt i b u = some m → pf m = true := by
  intro b
  induction b with
  | lit k n =>
    intro u m h
    simp only [mergeAt] at h
    split at h <;> simp at h
    subst h; rfl
  | int k x =>
    intro u m h
    simp only [mergeAt] at h
    split at h <;> simp at h
    subst h; rfl
  | blit x =>
    intro u m h
    simp only [mergeAt] at h
    split at h <;> simp at h
    subst h; rfl
  | bool x =>
    intro u m h
    simp only [mergeAt] at h
    split at h <;> simp at h
    subst h; rfl
  | nil => intro u m h; cases u <;> simp [mergeAt] at h; subst h; rfl
  | cons a b iha ihb =>
    intro u m h
    cases u <;> simp [mergeAt] at h
    rename_i a' b'
    cases ha : mergeAt i a a' with
    | none => simp [ha] at h
    | some x =>
      cases hb : mergeAt i b b' with
      | none => simp [ha, hb] at h
      | some y =>
        simp [ha, hb] at h
        subst h
        simp [pf, iha _ _ ha, ihb _ _ hb]
  | agg fs ih =>
    intro u m h
    cases u <;> simp [mergeAt] at h
    obtain ⟨x, hx, rfl⟩ := h
    exact (ih _ x hx : pf x = true)
  | arr n b ih =>
    intro u m h
    cases u <;> simp [mergeAt] at h
    obtain ⟨rfl, x, hx, rfl⟩ := h
    exact (ih _ x hx : pf x = true)
  | _ => intro u m h; cases u <;> simp [mergeAt] at h

def isRaw : AV → Bool
  | .raw _ _ _ _ => true
  | _ => false
/-- Which cells of a block are frozen: of one that came in, whichever. -/
def fzOf : AV → Nat × Nat
  | .raw _ _ _ fz => fz
  | _ => (0, 0)
theorem fz_notRaw {v : AV} (h : isRaw v = false) : fzOf v = (0, 0) := by cases v <;> first | rfl | simp [isRaw] at h
theorem pf_notRaw {v : AV} (h : pf v = true) : isRaw v = false := by cases v <;> first | rfl | simp [pf] at h
theorem scaBig_notRaw {v : AV} (h : sca v = true ∨ big v = true) : isRaw v = false := by cases v <;> first | rfl | simp [sca, big] at h

/-- Nowhere a block that came in. -/
def noRaw : AV → Bool
  | .cons h t => noRaw h && noRaw t
  | .agg fs => noRaw fs
  | .arr _ b => noRaw b
  | .raw _ _ _ _ => false
  | _ => true

/-- A row of fields with one put anew. -/
def setNth : Nat → AV → AV → Option AV
  | 0, .cons h t, u => if sz u == sz h then some (.cons u t) else none
  | i + 1, .cons h t, u => (setNth i t u).map (.cons h)
  | _, _, _ => none

/-- A value with a place put anew. -/
def set : List Stp → AV → AV → Option AV
  | [], v, u => if sz u == sz v && !isRaw v && !isRaw u then some u else none
  | .fld i o :: p, .agg fs, u => match nth i fs with
    | some (x, o') => if o' == o then match set p x u with
      | some y => (setNth i fs y).map .agg
      | none => none
      else none
    | none => none
  | .idx i s :: p, .arr n b, u => if s == sz b then match set p (inst i b) u with
      | some y => (mergeAt i b y).map (.arr n)
      | none => none
      else none
  | _, _, _ => none

theorem set_nil {v u v' : AV} (h : set [] v u = some v') : sz u = sz v ∧ u = v' ∧ isRaw v = false ∧ isRaw u = false := by
  have e : set [] v u = if sz u == sz v && !isRaw v && !isRaw u then some u else none := by cases v <;> rfl
  rw [e] at h
  split at h <;> simp at h
  rename_i hc
  simp at hc
  exact ⟨hc.1.1, h, hc.1.2, hc.2⟩

theorem setNth_cells (E : Env) (ix : Ix) : ∀ (i : Nat) (fs u fs' : AV), setNth i fs u = some fs' → ∀ (x : AV) (o : Nat), nth i fs = some (x, o) →
    ∀ pre post, cells E ix fs = pre ++ cells E ix x ++ post → pre.length = o → cells E ix fs' = pre ++ cells E ix u ++ post := by
  intro i
  induction i with
  | zero =>
    intro fs u fs' h x o hn pre post he hl
    cases fs <;> simp [setNth, nth] at h hn
    obtain ⟨rfl, rfl⟩ := hn
    obtain ⟨hs, rfl⟩ := h
    have : pre = [] := List.length_eq_zero_iff.1 hl
    subst this
    simp [cells] at he ⊢
    exact he
  | succ i ih =>
    intro fs u fs' h x o hn pre post he hl
    cases fs <;> simp [setNth, nth] at h hn
    rename_i hd tl
    obtain ⟨y, o', hy, rfl, rfl⟩ := hn
    obtain ⟨tl', ht, rfl⟩ := h
    obtain ⟨pre0, post0, he0, hl0⟩ := nth_cells E ix i tl y o' hy
    have h2 := ih tl u tl' ht y o' hy pre0 post0 he0 hl0
    simp only [cells, he0] at he
    have hlen : (cells E ix hd ++ pre0).length = pre.length := by simp [length_cells, hl0, hl]; omega
    have h3 : cells E ix hd ++ pre0 = pre ∧ cells E ix y ++ post0 = cells E ix y ++ post := by
      apply List.append_inj _ hlen
      simpa using he
    obtain ⟨rfl, h4⟩ := h3
    have h5 : post0 = post := List.append_cancel_left h4
    subst h5
    simp [cells, h2]

theorem flatMap_put {α : Type} (f g : Nat → List α) (m : Nat) (hf : ∀ i, (f i).length = m) (n i : Nat) (hi : i < n) (hg : ∀ j, j ≠ i → g j = f j)
    (pre post : List α) (he : (List.range n).flatMap f = pre ++ f i ++ post) (hl : pre.length = i * m) : (List.range n).flatMap g = pre ++ g i ++ post := by
  have h1 := range_split n i hi
  rw [h1] at he ⊢
  simp only [List.flatMap_append, List.flatMap_singleton] at he ⊢
  have e1 : (List.range i).flatMap g = (List.range i).flatMap f := by
    simp only [List.flatMap_def]
    rw [List.map_congr_left (fun j hj => hg j (by simp at hj; omega))]
  have e2 : ((List.range (n - (i + 1))).map (fun k => i + 1 + k)).flatMap g = ((List.range (n - (i + 1))).map (fun k => i + 1 + k)).flatMap f := by
    simp only [List.flatMap_def]
    rw [List.map_congr_left (fun j hj => hg j (by simp at hj; omega))]
  rw [e1, e2]
  have hlen : ((List.range i).flatMap f).length = pre.length := by
    rw [flatMap_len f m hf, hl]
    simp
  have h3 : (List.range i).flatMap f = pre ∧ f i ++ ((List.range (n - (i + 1))).map (fun k => i + 1 + k)).flatMap f = f i ++ post := by
    apply List.append_inj _ hlen
    simpa using he
  obtain ⟨h4, h5⟩ := h3
  rw [h4, List.append_cancel_left h5]

theorem set_sz : ∀ (p : List Stp) (v u v' : AV), set p v u = some v' → sz v' = sz v := by
  intro p
  induction p with
  | nil => intro v u v' h; obtain ⟨h1, rfl, _, _⟩ := set_nil h; exact h1
  | cons s p ih =>
    intro v u v' h
    cases s with
    | fld i o =>
      cases v <;> simp [set] at h
      rename_i fs
      cases hn : nth i fs with
      | none => simp [hn] at h
      | some x =>
        obtain ⟨x, o'⟩ := x
        simp [hn] at h
        obtain ⟨_, h⟩ := h
        cases hs : set p x u with
        | none => simp [hs] at h
        | some y =>
          simp [hs] at h
          obtain ⟨fs', hfs, rfl⟩ := h
          have hsy := ih x u y hs
          obtain ⟨pre, post, he, hl⟩ := nth_cells (fun _ => none) [] i fs x o' hn
          have h2 := setNth_cells (fun _ => none) [] i fs y fs' hfs x o' hn pre post he hl
          have a1 := length_cells (fun _ => none) fs' []
          have a2 := length_cells (fun _ => none) fs []
          rw [h2] at a1
          rw [he] at a2
          simp [length_cells] at a1 a2
          simp only [sz]
          omega
    | idx i sl =>
      cases v <;> simp [set] at h
      rename_i n b
      obtain ⟨rfl, h⟩ := h
      cases hs : set p (inst i b) u with
      | none => simp [hs] at h
      | some y =>
        simp [hs] at h
        obtain ⟨b', hb, rfl⟩ := h
        simp [sz, mergeAt_sz i b y b' hb]
    | win o => cases v <;> simp [set] at h

theorem set_cells (E : Env) : ∀ (p : List Stp) (v u v' : AV), set p v u = some v' → getB p v →
    ∃ pre mid post, cells E [] v = pre ++ mid ++ post ∧ pre.length = offOf p ∧ mid.length = sz u ∧ cells E [] v' = pre ++ cells E [] u ++ post := by
  intro p
  induction p with
  | nil =>
    intro v u v' h _
    obtain ⟨h1, rfl, _, _⟩ := set_nil h
    refine ⟨[], cells E [] v, [], by simp, rfl, ?_, ?_⟩
    · rw [length_cells]; exact h1.symm
    · simp
  | cons s p ih =>
    intro v u v' h hb
    cases s with
    | fld i o =>
      cases v <;> simp [set] at h
      rename_i fs
      simp only [getB] at hb
      cases hn : nth i fs with
      | none => simp [hn] at h
      | some x =>
        obtain ⟨x, o'⟩ := x
        simp [hn] at h hb
        obtain ⟨ho, h⟩ := h
        subst ho
        cases hs : set p x u with
        | none => simp [hs] at h
        | some y =>
          simp [hs] at h
          obtain ⟨fs', hfs, rfl⟩ := h
          obtain ⟨pre, mid, post, he, hl, hm, he'⟩ := ih x u y hs hb
          obtain ⟨pre0, post0, he0, hl0⟩ := nth_cells E [] i fs x o' hn
          have h2 := setNth_cells E [] i fs y fs' hfs x o' hn pre0 post0 he0 hl0
          exact ⟨pre0 ++ pre, mid, post ++ post0, by simp [cells, he0, he], by simp [offOf, hl, hl0], hm, by simp [cells, h2, he']⟩
    | idx i sl =>
      cases v <;> simp [set] at h
      rename_i n b
      obtain ⟨rfl, h⟩ := h
      simp only [getB] at hb
      obtain ⟨hi, hb⟩ := hb
      cases hs : set p (inst i b) u with
      | none => simp [hs] at h
      | some y =>
        simp [hs] at h
        obtain ⟨b', hbm, rfl⟩ := h
        obtain ⟨pre, mid, post, he, hl, hm, he'⟩ := ih _ u y hs hb
        obtain ⟨pre0, post0, he0, hl0⟩ := flatMap_split (fun i => cells E [i] b) (sz b) (fun i => length_cells E b [i]) n i hi
        have hc := mergeAt_cells E i b y b' hbm
        have h2 := flatMap_put (fun i => cells E [i] b) (fun i => cells E [i] b') (sz b) (fun i => length_cells E b [i]) n i hi
          (fun j hj => by simp [hc, hj]) pre0 post0 he0 hl0
        rw [cells_inst] at he
        refine ⟨pre0 ++ pre, mid, post ++ post0, ?_, by simp [offOf, hl, hl0], hm, ?_⟩
        · simp only [cells, List.nil_append]
          rw [he0]
          simp [he]
        · simp only [cells, List.nil_append]
          rw [h2, hc]
          simp [he']
    | win o => cases v <;> simp [set] at h

theorem setNth_ok (E : Env) : ∀ (i : Nat) (fs u fs' : AV), setNth i fs u = some fs' → ok E fs → ok E u → ok E fs' := by
  intro i
  induction i with
  | zero =>
    intro fs u fs' h hk hu
    cases fs <;> simp [setNth] at h
    obtain ⟨_, rfl⟩ := h
    exact ⟨hu, hk.2⟩
  | succ i ih =>
    intro fs u fs' h hk hu
    cases fs <;> simp [setNth] at h
    obtain ⟨x, hx, rfl⟩ := h
    exact ⟨hk.1, ih _ _ _ hx hk.2 hu⟩

theorem set_ok (E : Env) : ∀ (p : List Stp) (v u v' : AV), set p v u = some v' → ok E v → ok E u → ok E v' := by
  intro p
  induction p with
  | nil => intro v u v' h hk hu; obtain ⟨_, rfl, _, _⟩ := set_nil h; exact hu
  | cons s p ih =>
    intro v u v' h hk hu
    cases s with
    | fld i o =>
      cases v <;> simp [set] at h
      rename_i fs
      cases hn : nth i fs with
      | none => simp [hn] at h
      | some x =>
        obtain ⟨x, o'⟩ := x
        simp [hn] at h
        obtain ⟨_, h⟩ := h
        cases hs : set p x u with
        | none => simp [hs] at h
        | some y =>
          simp [hs] at h
          obtain ⟨fs', hfs, rfl⟩ := h
          exact setNth_ok E i fs y fs' hfs hk (ih x u y hs (nth_ok E i fs x o' hn hk) hu)
    | idx i sl =>
      cases v <;> simp [set] at h
      rename_i n b
      obtain ⟨rfl, h⟩ := h
      cases hs : set p (inst i b) u with
      | none => simp [hs] at h
      | some y =>
        simp [hs] at h
        obtain ⟨b', hbm, rfl⟩ := h
        exact ok_of_pf E _ (mergeAt_pf i b y b' hbm)
    | win o => cases v <;> simp [set] at h

theorem set_notRaw : ∀ (p : List Stp) (v u v' : AV), set p v u = some v' → isRaw v = false ∧ isRaw v' = false := by
  intro p v u v' h
  cases p with
  | nil => obtain ⟨_, rfl, h1, h2⟩ := set_nil h; exact ⟨h1, h2⟩
  | cons s p =>
    cases s <;> cases v <;> simp only [set, reduceCtorEq] at h <;> (repeat' split at h) <;> simp only [Option.map_eq_some_iff, reduceCtorEq] at h
    · obtain ⟨_, _, rfl⟩ := h; exact ⟨rfl, rfl⟩
    · obtain ⟨_, _, rfl⟩ := h; exact ⟨rfl, rfl⟩
end Go.Rf

/- What operations make of symbolic data, and that the machine's operations make just that. -/
namespace Go.Rf

/-- What must hold for a walk to be one: gathered on the way. -/
inductive Ob where
  | tt
  | pr (p : Prop)
  | two (a b : Ob)
  | imp (b w : Bool) (a : Ob)

def Ob.holds : Ob → Prop
  | .tt => True
  | .pr p => p
  | .two a b => a.holds ∧ b.holds
  | .imp b w a => b = w → a.holds

def Ob.and : Ob → Ob → Ob
  | .tt, b => b
  | a, .tt => a
  | a, b => .two a b

theorem Ob.and_holds (a b : Ob) : (a.and b).holds ↔ a.holds ∧ b.holds := by
  cases a <;> cases b <;> simp [Ob.and, Ob.holds]

def Ob.under (b w : Bool) : Ob → Ob
  | .tt => .tt
  | a => .imp b w a

theorem Ob.under_holds (b w : Bool) (a : Ob) : (a.under b w).holds ↔ (b = w → a.holds) := by
  cases a <;> simp [Ob.under, Ob.holds]

/-! ### Numbers -/

def ltB (k : IntKind) (x y : BitVec k.bits) : Bool := if k.signed then x.slt y else x.ult y
def leB (k : IntKind) (x y : BitVec k.bits) : Bool := if k.signed then x.sle y else x.ule y
def amt (k : IntKind) (x : BitVec k.bits) : Nat := if k.signed then x.toInt.toNat else x.toNat
def shrB (k : IntKind) (x : BitVec k.bits) (n : Nat) : BitVec k.bits := if k.signed then x.sshiftRight n else x >>> n
def quoB (k : IntKind) (x y : BitVec k.bits) : BitVec k.bits := if k.signed then x.sdiv y else x / y
def remB (k : IntKind) (x y : BitVec k.bits) : BitVec k.bits := if k.signed then x.srem y else x % y
def convB (k k' : IntKind) (x : BitVec k.bits) : BitVec k'.bits := if k.signed then x.signExtend k'.bits else x.setWidth k'.bits

theorem ltB_toZ (k : IntKind) (x y : BitVec k.bits) : decide (toZ k x < toZ k y) = ltB k x y := by
  unfold toZ ltB
  split
  · simp [BitVec.slt]
  · simp only [BitVec.ult]
    congr 1
    simp

theorem leB_toZ (k : IntKind) (x y : BitVec k.bits) : decide (toZ k x ≤ toZ k y) = leB k x y := by
  unfold toZ leB
  split
  · simp [BitVec.sle]
  · simp only [BitVec.ule]
    congr 1
    simp

theorem eq_toZ (k : IntKind) (x y : BitVec k.bits) : (toZ k x == toZ k y) = (x == y) := by
  rw [Bool.eq_iff_iff, beq_iff_eq, beq_iff_eq]
  exact ⟨toZ_inj k x y, fun h => h ▸ rfl⟩

theorem toZ_of (k : IntKind) (n : Int) (x : BitVec k.bits) (h : BitVec.ofInt k.bits n = x) : k.wrap n = toZ k x := by
  rw [wrap_toZ, h]

theorem ofInt_natCast' (w : Nat) (n : Nat) : BitVec.ofInt w (n : Int) = BitVec.ofNat w n := by simp

theorem add_toZ (k : IntKind) (x y : BitVec k.bits) : k.wrap (toZ k x + toZ k y) = toZ k (x + y) :=
  toZ_of _ _ _ (by rw [BitVec.ofInt_add, ofInt_toZ, ofInt_toZ])
theorem mul_toZ (k : IntKind) (x y : BitVec k.bits) : k.wrap (toZ k x * toZ k y) = toZ k (x * y) :=
  toZ_of _ _ _ (by rw [BitVec.ofInt_mul, ofInt_toZ, ofInt_toZ])
theorem neg_ofInt (w : Nat) (n : Int) : BitVec.ofInt w (-n) = -BitVec.ofInt w n := by
  apply BitVec.eq_of_toInt_eq
  simp only [BitVec.toInt_ofInt, BitVec.toInt_neg]
  simp
theorem sub_toZ (k : IntKind) (x y : BitVec k.bits) : k.wrap (toZ k x - toZ k y) = toZ k (x - y) :=
  toZ_of _ _ _ (by rw [Int.sub_eq_add_neg, BitVec.ofInt_add, neg_ofInt, ofInt_toZ, ofInt_toZ, BitVec.sub_eq_add_neg])
theorem neg_toZ (k : IntKind) (x : BitVec k.bits) : k.wrap (0 - toZ k x) = toZ k (-x) :=
  toZ_of _ _ _ (by rw [Int.zero_sub, neg_ofInt, ofInt_toZ])
theorem back_toZ (k : IntKind) (x : BitVec k.bits) : k.wrap (x.toNat : Int) = toZ k x :=
  toZ_of _ _ _ (by simp)
theorem quo_toZ (k : IntKind) (x y : BitVec k.bits) : k.wrap ((toZ k x).tdiv (toZ k y)) = toZ k (quoB k x y) := by
  apply toZ_of
  unfold toZ quoB
  split
  · apply BitVec.eq_of_toInt_eq
    rw [BitVec.toInt_ofInt, BitVec.toInt_sdiv]
  · rw [← Int.ofNat_tdiv, ofInt_natCast']
    apply BitVec.eq_of_toNat_eq
    simp only [BitVec.toNat_ofNat, BitVec.toNat_udiv]
    exact Nat.mod_eq_of_lt (Nat.lt_of_le_of_lt (Nat.div_le_self _ _) x.isLt)
theorem rem_toZ (k : IntKind) (x y : BitVec k.bits) : (toZ k x).tmod (toZ k y) = toZ k (remB k x y) := by
  unfold toZ remB
  split
  · rw [BitVec.toInt_srem]
  · rw [← Int.ofNat_tmod]; simp

theorem shl_min (w : Nat) (x : BitVec w) (n : Nat) : x <<< (min n w) = x <<< n := by
  rcases Nat.le_total n w with h | h
  · rw [Nat.min_eq_left h]
  · rw [Nat.min_eq_right h]
    apply BitVec.eq_of_getLsbD_eq
    intro i hi
    simp
    omega
theorem ushr_min (w : Nat) (x : BitVec w) (n : Nat) : x >>> (min n w) = x >>> n := by
  rcases Nat.le_total n w with h | h
  · rw [Nat.min_eq_left h]
  · rw [Nat.min_eq_right h]
    apply BitVec.eq_of_getLsbD_eq
    intro i hi
    simp only [BitVec.getLsbD_ushiftRight]
    rw [BitVec.getLsbD_of_ge _ _ (by omega), BitVec.getLsbD_of_ge _ _ (by omega)]
theorem sshr_min (w : Nat) (x : BitVec w) (n : Nat) : x.sshiftRight (min n w) = x.sshiftRight n := by
  rcases Nat.le_total n w with h | h
  · rw [Nat.min_eq_left h]
  · rw [Nat.min_eq_right h]
    apply BitVec.eq_of_getLsbD_eq
    intro i hi
    simp only [BitVec.getLsbD_sshiftRight]
    have h1 : ¬ (w + i < w) := by omega
    have h2 : ¬ (n + i < w) := by omega
    simp [h1, h2]

theorem shl_toZ (k k' : IntKind) (x : BitVec k.bits) (y : BitVec k'.bits) : k.wrap (toZ k x * 2 ^ (min (toZ k' y).toNat k.bits)) = toZ k (x <<< amt k' y) := by
  apply toZ_of
  have e : (toZ k' y).toNat = amt k' y := by
    unfold toZ amt
    split <;> simp
  rw [e, BitVec.ofInt_mul, ofInt_toZ, ← shl_min]
  generalize min (amt k' y) k.bits = n
  rw [show ((2 : Int) ^ n) = ((2 ^ n : Nat) : Int) from by simp, ofInt_natCast']
  rw [BitVec.shiftLeft_eq_mul_twoPow]
  congr 1
  apply BitVec.eq_of_toNat_eq
  simp [BitVec.toNat_twoPow]

theorem shr_toZ (k k' : IntKind) (x : BitVec k.bits) (y : BitVec k'.bits) : (toZ k x).fdiv (2 ^ (min (toZ k' y).toNat k.bits)) = toZ k (shrB k x (amt k' y)) := by
  have e : (toZ k' y).toNat = amt k' y := by
    unfold toZ amt
    split <;> simp
  rw [e, Int.fdiv_eq_ediv_of_nonneg _ (Int.pow_nonneg (by decide))]
  unfold shrB toZ
  split
  · rw [← sshr_min, BitVec.toInt_sshiftRight, Int.shiftRight_eq_div_pow]
    simp
  · rw [← ushr_min, BitVec.toNat_ushiftRight, Nat.shiftRight_eq_div_pow]
    simp

theorem conv_toZ (k k' : IntKind) (x : BitVec k.bits) : k'.wrap (toZ k x) = toZ k' (convB k k' x) := by
  apply toZ_of
  unfold toZ convB
  split
  · rfl
  · rw [ofInt_natCast', BitVec.ofNat_toNat]

/-- Plus, minus and their kin, of bits. -/
def ari (op : BinOp) (k : IntKind) (x y : BitVec k.bits) : Option (BitVec k.bits) :=
  match op with
  | .add => some (x + y)
  | .sub => some (x - y)
  | .mul => some (x * y)
  | .and => some (x &&& y)
  | .or => some (x ||| y)
  | .xor => some (x ^^^ y)
  | .andNot => some (x &&& ~~~y)
  | .quo => some (quoB k x y)
  | .rem => some (remB k x y)
  | _ => none

def divs : BinOp → Bool
  | .quo | .rem => true
  | _ => false

def cmpB (op : BinOp) (k : IntKind) (x y : BitVec k.bits) : Option Bool :=
  match op with
  | .eql => some (x == y)
  | .neq => some (x != y)
  | .lss => some (ltB k x y)
  | .leq => some (leB k x y)
  | .gtr => some (ltB k y x)
  | .geq => some (leB k y x)
  | _ => none

theorem run_ari {P : Program} {op : BinOp} {k : IntKind} {x y z : BitVec k.bits} (t : TypeId) (h : ari op k x y = some z) (hd : divs op = true → y ≠ 0#_) (w : World) :
    (binOp op t (.int k (toZ k x)) (.int k (toZ k y))).run P w = .ok (.int k (toZ k z)) w := by
  have hy : divs op = true → toZ k y ≠ 0 := fun h0 e => hd h0 (toZ_inj k y 0#_ (by rw [e]; unfold toZ; split <;> simp))
  cases op <;> simp [ari] at h <;> subst h <;> simp [binOp, Op.intArith, Op.intBits, Op.intDiv, add_toZ, sub_toZ, mul_toZ, ofInt_toZ, back_toZ]
  · have := hy rfl; simp [this, quo_toZ]
  · have := hy rfl; simp [this, rem_toZ]
  · simpa using back_toZ k (x &&& y)
  · simpa using back_toZ k (x ||| y)
  · simpa using back_toZ k (x ^^^ y)
  · simpa using back_toZ k (x &&& ~~~y)

theorem run_cmp {P : Program} {op : BinOp} {k : IntKind} {x y : BitVec k.bits} {z : Bool} (t : TypeId) (h : cmpB op k x y = some z) (w : World) :
    (binOp op t (.int k (toZ k x)) (.int k (toZ k y))).run P w = .ok (.bool z) w := by
  cases op <;> simp [cmpB] at h <;> subst h <;> simp [binOp, Op.intCmp, eq_toZ, ltB_toZ, leB_toZ, GT.gt, GE.ge, bne]

/-- Of two literals. -/
def litOp (op : BinOp) (k : IntKind) (n m : Int) : Option AV :=
  match op with
  | .add => some (.lit k (k.wrap (n + m)))
  | .sub => some (.lit k (k.wrap (n - m)))
  | .mul => some (.lit k (k.wrap (n * m)))
  | .quo => if m != 0 then some (.lit k (k.wrap (n.tdiv m))) else none
  | .rem => if m != 0 then some (.lit k (n.tmod m)) else none
  | .and => some (.lit k (k.wrap (BitVec.ofInt k.bits n &&& BitVec.ofInt k.bits m).toNat))
  | .or => some (.lit k (k.wrap (BitVec.ofInt k.bits n ||| BitVec.ofInt k.bits m).toNat))
  | .xor => some (.lit k (k.wrap (BitVec.ofInt k.bits n ^^^ BitVec.ofInt k.bits m).toNat))
  | .andNot => some (.lit k (k.wrap (BitVec.ofInt k.bits n &&& ~~~BitVec.ofInt k.bits m).toNat))
  | .eql => some (.blit (n == m))
  | .neq => some (.blit (n != m))
  | .lss => some (.blit (decide (n < m)))
  | .leq => some (.blit (decide (n ≤ m)))
  | .gtr => some (.blit (decide (m < n)))
  | .geq => some (.blit (decide (m ≤ n)))
  | _ => none

/-- Of numbers in bits; b: the second one as it stood. -/
def genOp (op : BinOp) (k : IntKind) (x y : Ix → BitVec k.bits) (nz : Bool) : Option (AV × Ob) :=
  match op with
  | .add => some (.int k fun ix => x ix + y ix, .tt)
  | .sub => some (.int k fun ix => x ix - y ix, .tt)
  | .mul => some (.int k fun ix => x ix * y ix, .tt)
  | .and => some (.int k fun ix => x ix &&& y ix, .tt)
  | .or => some (.int k fun ix => x ix ||| y ix, .tt)
  | .xor => some (.int k fun ix => x ix ^^^ y ix, .tt)
  | .andNot => some (.int k fun ix => x ix &&& ~~~(y ix), .tt)
  | .quo => some (.int k fun ix => quoB k (x ix) (y ix), if nz then .tt else .pr (y [] ≠ 0#_))
  | .rem => some (.int k fun ix => remB k (x ix) (y ix), if nz then .tt else .pr (y [] ≠ 0#_))
  | .eql => some (.bool fun ix => x ix == y ix, .tt)
  | .neq => some (.bool fun ix => x ix != y ix, .tt)
  | .lss => some (.bool fun ix => ltB k (x ix) (y ix), .tt)
  | .leq => some (.bool fun ix => leB k (x ix) (y ix), .tt)
  | .gtr => some (.bool fun ix => ltB k (y ix) (x ix), .tt)
  | .geq => some (.bool fun ix => leB k (y ix) (x ix), .tt)
  | _ => none

/-- A literal that is not nought. -/
def nzLit (k : IntKind) : AV → Bool
  | .lit _ m => toZ k (BitVec.ofInt k.bits m) != 0
  | _ => false

def litShift (op : BinOp) (k : IntKind) (n m : Int) : Option AV :=
  if 0 ≤ m then match op with
    | .shl => some (.lit k (k.wrap (n * 2 ^ (min m.toNat k.bits))))
    | _ => some (.lit k (n.fdiv (2 ^ (min m.toNat k.bits))))
  else none

def genShift (op : BinOp) (k k' : IntKind) (x : Ix → BitVec k.bits) (y : Ix → BitVec k'.bits) : AV × Ob :=
  (match op with
    | .shl => .int k fun ix => x ix <<< amt k' (y ix)
    | _ => .int k fun ix => shrB k (x ix) (amt k' (y ix)),
   if k'.signed then .pr (0 ≤ toZ k' (y [])) else .tt)

def isShift : BinOp → Bool
  | .shl | .shr => true
  | _ => false

def bothLit : AV → AV → Option ((IntKind × Int) × (IntKind × Int))
  | .lit k n, .lit k' m => some ((k, n), (k', m))
  | _, _ => none

/-- Of two numbers: an operation's answer, and what it asks. -/
def binInt (op : BinOp) (a b : AV) : Option (AV × Ob) :=
  match bothLit a b with
  | some ((k, n), (k', m)) =>
    if isShift op then (litShift op k n m).map (·, .tt)
    else if k == k' then (litOp op k n m).map (·, .tt) else none
  | none => match kindOf a, kindOf b with
    | some k, some k' => match toBV k a with
      | some x =>
        if isShift op then match toBV k' b with
          | some y => some (genShift op k k' x y)
          | none => none
        else match toBV k b with
          | some y => genOp op k x y (nzLit k b)
          | none => none
      | none => none
    | _, _ => none

theorem val_toBV {k : IntKind} {v : AV} {x : Ix → BitVec k.bits} (h : toBV k v = some x) (E : Env) : val E v = .int k (toZ k (x [])) := by
  have := toBV_cells h E []
  cases v <;> simp [toBV] at h <;> simp [val, this]
theorem val_toBl {v : AV} {x : Ix → Bool} (h : toBl v = some x) (E : Env) : val E v = .bool (x []) := by
  have := toBl_cells h E []
  cases v <;> simp [toBl] at h <;> simp [val, this]
theorem ok_toBV {k : IntKind} {v : AV} {x : Ix → BitVec k.bits} (h : toBV k v = some x) (E : Env) : ok E v := by
  cases v <;> simp [toBV] at h <;> trivial

theorem run_shl {P : Program} (k k' : IntKind) (n m : Int) (t : TypeId) (w : World) (h : 0 ≤ m) :
    (binOp .shl t (.int k n) (.int k' m)).run P w = .ok (.int k (k.wrap (n * 2 ^ (min m.toNat k.bits)))) w := by
  have : ¬ m < 0 := by omega
  simp [binOp, Op.shift, this]
theorem run_shr {P : Program} (k k' : IntKind) (n m : Int) (t : TypeId) (w : World) (h : 0 ≤ m) :
    (binOp .shr t (.int k n) (.int k' m)).run P w = .ok (.int k (n.fdiv (2 ^ (min m.toNat k.bits)))) w := by
  have : ¬ m < 0 := by omega
  simp [binOp, Op.shift, this]

theorem toZ_nonneg (k : IntKind) (x : BitVec k.bits) (h : k.signed = false) : 0 ≤ toZ k x := by
  unfold toZ; simp [h]

theorem ne_zero_of {k : IntKind} {m : Int} (h : toZ k (BitVec.ofInt k.bits m) ≠ 0) : BitVec.ofInt k.bits m ≠ 0#_ := by
  intro e
  apply h
  rw [e]
  unfold toZ
  split <;> simp

theorem litOp_run {P : Program} {op : BinOp} {k : IntKind} {n m : Int} {r : AV} (h : litOp op k n m = some r) (E : Env) (t : TypeId) (w : World) :
    (binOp op t (.int k n) (.int k m)).run P w = .ok (val E r) w ∧ ok E r := by
  cases op <;> simp [litOp] at h
  case quo => obtain ⟨h1, rfl⟩ := h; exact ⟨by simp [binOp, Op.intDiv, h1, val, cells], trivial⟩
  case rem => obtain ⟨h1, rfl⟩ := h; exact ⟨by simp [binOp, Op.intDiv, h1, val, cells], trivial⟩
  all_goals (subst h; exact ⟨by simp [binOp, Op.intArith, Op.intBits, Op.intCmp, val, cells, GT.gt, GE.ge], trivial⟩)

theorem genOp_run {P : Program} {op : BinOp} {k : IntKind} {x y : Ix → BitVec k.bits} {nz : Bool} {r : AV} {o : Ob} (h : genOp op k x y nz = some (r, o)) (ho : o.holds)
    (hz : nz = true → y [] ≠ 0#_) (E : Env) (t : TypeId) (w : World) :
    (binOp op t (.int k (toZ k (x []))) (.int k (toZ k (y [])))).run P w = .ok (val E r) w ∧ ok E r := by
  have dv : (if nz then Ob.tt else .pr (y [] ≠ 0#_)).holds → y [] ≠ 0#_ := by
    intro hq
    cases nz
    · simpa [Ob.holds] using hq
    · exact hz rfl
  cases op <;> simp only [genOp, Option.some.injEq, Prod.mk.injEq, reduceCtorEq] at h <;> obtain ⟨rfl, rfl⟩ := h <;> refine ⟨?_, trivial⟩
  case add => exact run_ari t (by simp [ari]) (by simp [divs]) w
  case sub => exact run_ari t (by simp [ari]) (by simp [divs]) w
  case mul => exact run_ari t (by simp [ari]) (by simp [divs]) w
  case quo => exact run_ari t (by simp [ari]) (fun _ => dv ho) w
  case rem => exact run_ari t (by simp [ari]) (fun _ => dv ho) w
  case and => exact run_ari t (by simp [ari]) (by simp [divs]) w
  case or => exact run_ari t (by simp [ari]) (by simp [divs]) w
  case xor => exact run_ari t (by simp [ari]) (by simp [divs]) w
  case andNot => exact run_ari t (by simp [ari]) (by simp [divs]) w
  all_goals exact run_cmp t (by simp [cmpB]) w

theorem binInt_run {P : Program} {op : BinOp} {a b r : AV} {o : Ob} (h : binInt op a b = some (r, o)) (ho : o.holds) (E : Env) (t : TypeId) (w : World) :
    (binOp op t (val E a) (val E b)).run P w = .ok (val E r) w ∧ ok E r := by
  unfold binInt at h
  split at h
  · rename_i k n k' m hl
    obtain ⟨rfl, rfl⟩ : a = .lit k n ∧ b = .lit k' m := by
      cases a <;> cases b <;> simp [bothLit] at hl
      simp_all
    simp only [val, cells, List.headD_cons]
    split at h
    · simp only [Option.map_eq_some_iff, Prod.mk.injEq] at h
      obtain ⟨r', h1, rfl, rfl⟩ := h
      unfold litShift at h1
      split at h1
      · rename_i h0
        have h0' : ¬ m < 0 := by omega
        split at h1 <;> simp at h1 <;> subst h1
        · exact ⟨by simp [binOp, Op.shift, h0', cells], trivial⟩
        · rename_i hs hne
          have : op = .shr := by cases op <;> simp_all [isShift]
          subst this
          exact ⟨by simp [binOp, Op.shift, h0', cells], trivial⟩
      · simp at h1
    · split at h
      · rename_i hk
        obtain rfl : k = k' := by simpa using hk
        simp only [Option.map_eq_some_iff, Prod.mk.injEq] at h
        obtain ⟨r', h1, rfl, rfl⟩ := h
        exact litOp_run h1 E t w
      · simp at h
  · split at h <;> try (simp at h; done)
    rename_i k k' _ _
    split at h <;> try (simp at h; done)
    rename_i x hx
    split at h
    · rename_i hs
      split at h <;> try (simp at h; done)
      rename_i y hy
      have hn : 0 ≤ toZ k' (y []) := by
        simp only [genShift, Option.some.injEq, Prod.mk.injEq] at h
        obtain ⟨_, rfl⟩ := h
        by_cases hs : k'.signed = true
        · simpa [hs, Ob.holds] using ho
        · exact toZ_nonneg _ _ (by simpa using hs)
      have hn' : ¬ toZ k' (y []) < 0 := by omega
      rw [val_toBV hx, val_toBV hy]
      simp only [genShift, Option.some.injEq, Prod.mk.injEq] at h
      obtain ⟨rfl, rfl⟩ := h
      split
      · exact ⟨by simp [binOp, Op.shift, hn', shl_toZ, val, cells], trivial⟩
      · have : op = .shr := by cases op <;> simp_all [isShift]
        subst this
        exact ⟨by simp [binOp, Op.shift, hn', shr_toZ, val, cells], trivial⟩
    · split at h <;> try (simp at h; done)
      rename_i y hy
      rw [val_toBV hx, val_toBV hy]
      refine genOp_run h ho (fun hz => ?_) E t w
      cases b <;> simp [nzLit] at hz
      simp [toBV] at hy
      obtain ⟨_, rfl⟩ := hy
      exact ne_zero_of hz

end Go.Rf

/- Types: a part of a value; whether two values are one; conversions; zero values. -/
namespace Go.Rf

/-- The value at an index. -/
def valAt (E : Env) (ix : Ix) : AV → Value
  | .agg fs => .agg (cells E ix fs).toArray
  | .arr n b => .agg (cells E ix (.arr n b)).toArray
  | v => (cells E ix v).headD undef

theorem val_eq (E : Env) (v : AV) : val E v = valAt E [] v := by cases v <;> rfl

theorem valAt_inst (E : Env) (i : Nat) (ix : Ix) (v : AV) : valAt E ix (inst i v) = valAt E (i :: ix) v := by
  cases v <;> simp [inst, valAt, cells_inst] <;> first
    | rfl
    | (have := cells_inst E i (AV.arr _ _) ix; simpa [inst] using this)
    | (have := cells_inst E i (AV.fn _ _) ix; simp [inst] at this; rw [this])
    | (simp [cells, cells_inst]; done)
    | (rename_i n p len cap; cases len <;> rfl)
    | (simp only [cells]; rename_i n p len cap; cases len <;> rfl)

theorem cells_sca_at {E : Env} {ix : Ix} {v : AV} (h : sca v = true) : cells E ix v = [valAt E ix v] := by
  cases v <;> simp [sca] at h <;> simp [cells, valAt]

theorem valAt_big {E : Env} {ix : Ix} {v : AV} (h : big v = true) : valAt E ix v = .agg (cells E ix v).toArray := by
  cases v <;> simp [big] at h <;> simp [valAt, cells]

def bigT (P : Program) (T : TypeId) : Bool :=
  match P.underlying T with
  | some (.struct _) | some (.array _ _) => true
  | _ => false

/-- The value has the type's size, and is one cell or many as the type says. -/
def fits (P : Program) (T : TypeId) (v : AV) : Bool :=
  (P.info? T).map (·.size) == some (sz v) && (P.underlying T).isSome && (if bigT P T then big v else sca v)

theorem run_isAgg {P : Program} {T : TypeId} (h : (P.underlying T).isSome = true) (w : World) : (isAgg T).run P w = .ok (bigT P T) w := by
  cases hu : P.underlying T with
  | none => simp [hu] at h
  | some d =>
    unfold isAgg bigT
    rw [Sem.run_bind, run_underlying hu w]
    cases d <;> simp [hu]

theorem run_sizeOf {P : Program} {T : TypeId} {n : Nat} (h : (P.info? T).map (·.size) = some n) (w : World) : (sizeOf T).run P w = .ok n w := by
  cases hq : P.info? T with
  | none => simp [hq] at h
  | some i =>
    simp [hq] at h
    simp [sizeOf, typeInfo, hq, h]

theorem part_run {P : Program} {T : TypeId} {v : AV} (h : fits P T v = true) (E : Env) (ix : Ix) (cs : Array Value) (off : Nat) (pre post : List Value)
    (hc : cs.toList = pre ++ cells E ix v ++ post) (hl : pre.length = off) (w : World) : (part T cs off).run P w = .ok (valAt E ix v) w := by
  simp only [fits, Bool.and_eq_true, beq_iff_eq] at h
  obtain ⟨⟨h1, h2⟩, h3⟩ := h
  unfold part
  rw [Sem.run_bind, run_isAgg h2 w]
  simp only [Result.andThen_ok]
  split at h3
  · rename_i hb
    rw [if_pos hb, Sem.run_bind, run_sizeOf h1 w]
    simp only [Result.andThen_ok, Sem.run_pure]
    rw [valAt_big h3]
    congr 2
    apply Array.ext'
    rw [Array.toList_extract, hc]
    simp [List.extract_eq_take_drop, ← hl, ← length_cells E v ix]
  · rename_i hb
    rw [if_neg hb, cells_sca_at h3] at *
    have : cs[off]? = some (valAt E ix v) := by
      rw [← Array.getElem?_toList, hc]
      simp [hl]
    simp [this]

/-! ### Equality -/

def andAV : AV → AV → AV
  | .blit true, y => y
  | .blit false, _ => .blit false
  | .bool f, .blit true => .bool f
  | .bool _, .blit false => .blit false
  | .bool f, .bool g => .bool fun ix => f ix && g ix
  | _, _ => .un

def bv : AV → Ix → Bool
  | .blit b, _ => b
  | .bool f, ix => f ix
  | _, _ => false

def isBl : AV → Bool
  | .blit _ | .bool _ => true
  | _ => false

theorem andAV_bv {x y : AV} (hx : isBl x = true) (hy : isBl y = true) (ix : Ix) : bv (andAV x y) ix = (bv x ix && bv y ix) ∧ isBl (andAV x y) = true := by
  cases x <;> simp [isBl] at hx <;> cases y <;> simp [isBl] at hy <;> rename_i a b <;> first
    | (cases a <;> simp [andAV, bv, isBl]; done)
    | (cases b <;> simp [andAV, bv, isBl]; done)
    | simp [andAV, bv, isBl]

def eqAV : AV → AV → Option AV
  | .lit k n, .lit k' m => if k == k' then some (.blit (n == m)) else none
  | .lit k n, .int k' y => if k == k' then match toBV k' (.lit k n) with
    | some x => some (.bool fun ix => x ix == y ix)
    | none => none
    else none
  | .int k x, .lit k' m => if k == k' then match toBV k (.lit k' m) with
    | some y => some (.bool fun ix => x ix == y ix)
    | none => none
    else none
  | .int k x, .int k' y => if h : k' = k then some (.bool fun ix => x ix == (h ▸ y) ix) else none
  | .blit a, .blit b => some (.blit (a == b))
  | .blit a, .bool g => some (.bool fun ix => a == g ix)
  | .bool f, .blit b => some (.bool fun ix => f ix == b)
  | .bool f, .bool g => some (.bool fun ix => f ix == g ix)
  | .nil, .nil => some (.blit true)
  | .cons h t, .cons h' t' => match eqAV h h', eqAV t t' with
    | some x, some y => some (andAV x y)
    | _, _ => none
  | .agg fs, .agg fs' => eqAV fs fs'
  | .arr n b, .arr n' b' => if n == n' then match eqAV b b' with
    | some (.blit true) => some (.blit true)
    | some (.blit false) => some (.blit (n == 0))
    | some (.bool f) => some (.bool fun ix => (List.range n).all fun i => f (ix ++ [i]))
    | _ => none
    else none
  | _, _ => none

theorem eqAV_isBl : ∀ (a b r : AV), eqAV a b = some r → isBl r = true := by
  intro a
  induction a with
  | lit k n =>
    intro b r h
    cases b <;> simp [eqAV] at h
    · obtain ⟨_, rfl⟩ := h; rfl
    · obtain ⟨_, h⟩ := h
      split at h <;> simp at h
      subst h; rfl
  | int k x =>
    intro b r h
    cases b <;> simp [eqAV] at h
    · obtain ⟨_, h⟩ := h
      split at h <;> simp at h
      subst h; rfl
    · obtain ⟨_, rfl⟩ := h; rfl
  | blit x => intro b r h; cases b <;> simp [eqAV] at h <;> subst h <;> rfl
  | bool x => intro b r h; cases b <;> simp [eqAV] at h <;> subst h <;> rfl
  | nil => intro b r h; cases b <;> simp [eqAV] at h; subst h; rfl
  | cons x y ih1 ih2 =>
    intro b r h
    cases b <;> simp [eqAV] at h
    split at h <;> simp at h
    subst h
    exact (andAV_bv (ih1 _ _ (by assumption)) (ih2 _ _ (by assumption)) []).2
  | agg fs ih =>
    intro b r h
    cases b <;> simp [eqAV] at h
    exact ih _ _ h
  | arr n x ih =>
    intro b r h
    cases b <;> simp [eqAV] at h
    obtain ⟨_, h⟩ := h
    split at h <;> simp at h <;> subst h <;> rfl
  | _ => intro b r h; cases b <;> simp [eqAV] at h

/-- The value is laid out as the type says (numbers, bools, structs and arrays of these). -/
def tyFs (P : Program) (chk : TypeId → AV → Bool) : List Field → Nat → AV → Bool
  | [], _, .nil => true
  | f :: fs, o, .cons h t => f.name != "_" && f.offset == o && chk f.type h && fits P f.type h && tyFs P chk fs (o + sz h) t
  | _, _, _ => false

def tyOk (P : Program) : Nat → TypeId → AV → Bool
  | 0, _, _ => false
  | d + 1, T, v =>
    match P.underlying T, v with
    | some .bool, .blit _ => true
    | some .bool, .bool _ => true
    | some (.int k), .lit k' _ => k == k'
    | some (.int k), .int k' _ => k == k'
    | some (.struct fs), .agg vs => !P.stoodInHeld T && tyFs P (tyOk P d) fs.toList 0 vs
    | some (.array n e), .arr m b => n == m && tyOk P d e b && fits P e b
    | _, _ => false

theorem eqFields_run {P : Program} {d D : Nat} (E : Env) (ix : Ix)
    (hchk : ∀ T a b r, tyOk P d T a = true → tyOk P d T b = true → eqAV a b = some r → ∀ w, (Op.equalIn D T (valAt E ix a) (valAt E ix b)).run P w = .ok (bv r ix) w)
    (xs ys : Array Value) : ∀ (fs : List Field) (o : Nat) (a b r : AV), tyFs P (tyOk P d) fs o a = true → tyFs P (tyOk P d) fs o b = true → eqAV a b = some r →
      ∀ (px py : List Value), xs.toList = px ++ cells E ix a → ys.toList = py ++ cells E ix b → px.length = o → py.length = o →
      ∀ w, (Op.eqFields D xs ys fs).run P w = .ok (bv r ix) w := by
  intro fs
  induction fs with
  | nil =>
    intro o a b r ha hb hr px py hx hy hpx hpy w
    cases a <;> simp [tyFs] at ha
    cases b <;> simp [tyFs] at hb
    simp [eqAV] at hr
    subst hr
    simp [Op.eqFields, bv]
  | cons f fs ih =>
    intro o a b r ha hb hr px py hx hy hpx hpy w
    cases a <;> simp only [tyFs, Bool.false_eq_true] at ha
    cases b <;> simp only [tyFs, Bool.false_eq_true] at hb
    rename_i h t h' t'
    simp only [Bool.and_eq_true, bne_iff_ne, beq_iff_eq] at ha hb
    obtain ⟨⟨⟨⟨hn, ho⟩, hc⟩, hf⟩, ht⟩ := ha
    obtain ⟨⟨⟨⟨_, _⟩, hc'⟩, hf'⟩, ht'⟩ := hb
    simp only [eqAV] at hr
    cases h1 : eqAV h h' with
    | none => simp [h1] at hr
    | some r1 =>
      cases h2 : eqAV t t' with
      | none => simp [h1, h2] at hr
      | some r2 =>
        simp [h1, h2] at hr
        subst hr
        have hb := andAV_bv (eqAV_isBl _ _ _ h1) (eqAV_isBl _ _ _ h2) ix
        rw [hb.1]
        have hsz : sz h = sz h' := by
          simp only [fits, Bool.and_eq_true, beq_iff_eq] at hf hf'
          have := hf.1.1.symm.trans hf'.1.1
          simpa using this
        have p1 := part_run hf E ix xs f.offset px (cells E ix t) (by rw [hx]; simp [cells]) (by rw [hpx, ho])
        have p2 := part_run hf' E ix ys f.offset py (cells E ix t') (by rw [hy]; simp [cells]) (by rw [hpy, ho])
        have ih' := ih (o + sz h) t t' r2 ht (by rw [hsz]; exact ht') h2 (px ++ cells E ix h) (py ++ cells E ix h') (by rw [hx]; simp [cells]) (by rw [hy]; simp [cells])
          (by simp [length_cells, hpx]) (by simp [length_cells, hpy, hsz])
        simp only [Op.eqFields]
        rw [if_pos hn]
        simp only [Sem.run_bind, p1, Result.andThen_ok, p2, hchk f.type h h' r1 hc hc' h1]
        cases bv r1 ix
        · simp
        · simp [ih']

theorem forIn_range_all {P : Program} (f : Nat → Sem Bool) (g : Nat → Bool) (w : World) : ∀ (l : List Nat), (∀ i ∈ l, (f i).run P w = .ok (g i) w) →
    (forIn (m := Sem) l ((none, ()) : Option Bool × Unit) (fun i _ => do
      if (!(← f i)) = true then pure (ForInStep.done (some false, ())) else pure (ForInStep.yield (none, ())))).run P w = .ok (if l.all g then (none, ()) else (some false, ())) w := by
  intro l
  induction l with
  | nil => intro _; simp
  | cons i l ih =>
    intro h
    simp only [List.forIn_cons, Sem.run_bind, h i (by simp), Result.andThen_ok, Sem.run_ite]
    cases hg : g i
    · simp [hg]
    · have h2 := ih (fun j hj => h j (by simp [hj]))
      simp [hg]
      simpa using h2

theorem equalIn_run {P : Program} (E : Env) : ∀ (d : Nat) (T : TypeId) (a b r : AV), tyOk P d T a = true → tyOk P d T b = true → eqAV a b = some r →
    ∀ (D : Nat), d ≤ D → ∀ ix w, (Op.equalIn D T (valAt E ix a) (valAt E ix b)).run P w = .ok (bv r ix) w := by
  intro d
  induction d with
  | zero => intro T a b r ha; simp [tyOk] at ha
  | succ d ih =>
    intro T a b r ha hb hr D hD ix w
    obtain ⟨D, rfl⟩ : ∃ D', D = D' + 1 := ⟨D - 1, by omega⟩
    simp only [tyOk] at ha hb
    cases hu : P.underlying T with
    | none => simp [hu] at ha
    | some desc =>
      simp only [hu] at ha hb
      cases desc <;> try (simp at ha; done)
      case bool =>
        cases a <;> simp only [Bool.false_eq_true] at ha <;> cases b <;> simp only [Bool.false_eq_true] at hb <;> simp only [eqAV, Option.some.injEq] at hr <;> subst hr <;>
          simp only [valAt, cells, List.headD_cons, bv] <;> exact run_equalIn_bool w D T _ _ hu
      case int k =>
        have key : ∀ (k : IntKind) (x y : BitVec k.bits) (h : P.underlying T = some (.int k)), (Op.equalIn (D + 1) T (.int k (toZ k x)) (.int k (toZ k y))).run P w = .ok (x == y) w := by
          intro k x y h
          rw [run_equalIn_int w D T k k _ _ h, eq_toZ]
        cases a <;> simp only [Bool.false_eq_true, beq_iff_eq] at ha <;> cases b <;> simp only [Bool.false_eq_true, beq_iff_eq] at hb
        · subst ha; subst hb
          simp [eqAV] at hr
          subst hr
          simp only [valAt, cells, List.headD_cons, bv]
          exact run_equalIn_int w D T k k _ _ hu
        · subst ha; subst hb
          simp only [eqAV, beq_self_eq_true, if_true] at hr
          split at hr <;> simp at hr
          rename_i x hx
          subst hr
          have h3 := toBV_cells hx E ix
          simp only [cells, List.cons.injEq, and_true] at h3
          simp only [valAt, h3, cells, List.headD_cons, bv]
          exact key k _ _ hu
        · subst ha; subst hb
          simp only [eqAV, beq_self_eq_true, if_true] at hr
          split at hr <;> simp at hr
          rename_i y hy
          subst hr
          have h3 := toBV_cells hy E ix
          simp only [cells, List.cons.injEq, and_true] at h3
          simp only [valAt, h3, cells, List.headD_cons, bv]
          exact key k _ _ hu
        · subst ha; subst hb
          simp [eqAV] at hr
          subst hr
          simp only [valAt, cells, List.headD_cons, bv]
          exact key k _ _ hu
      case struct fs =>
        cases a <;> simp only [Bool.false_eq_true] at ha
        cases b <;> simp only [Bool.false_eq_true] at hb
        rename_i va vb
        simp only [Bool.and_eq_true, Bool.not_eq_true'] at ha hb
        simp only [eqAV] at hr
        have hfs : P.fieldsOf T = fs := by simp [Program.fieldsOf, hu]
        simp only [valAt]
        rw [run_equalIn_struct w D T _ _ (by rw [hfs]; exact hu) ha.1, hfs]
        refine eqFields_run (d := d) E ix (fun T a b r h1 h2 h3 w => ih T a b r h1 h2 h3 D (by omega) ix w) _ _ fs.toList 0 va vb r ha.2 hb.2 hr [] [] ?_ ?_ rfl rfl w
        · simp
        · simp
      case array n e =>
        cases a <;> simp only [Bool.false_eq_true] at ha
        cases b <;> simp only [Bool.false_eq_true] at hb
        rename_i m x m' y
        simp only [Bool.and_eq_true, beq_iff_eq] at ha hb
        obtain ⟨⟨rfl, hx⟩, hfx⟩ := ha
        obtain ⟨⟨rfl, hy⟩, hfy⟩ := hb
        simp only [eqAV, beq_self_eq_true, if_true] at hr
        cases h1 : eqAV x y with
        | none => simp [h1] at hr
        | some r1 =>
          have hall : bv r ix = (List.range n).all fun i => bv r1 (ix ++ [i]) := by
            simp only [h1] at hr
            split at hr <;> simp at hr
            · rename_i h2; simp at h2; subst h2; subst hr; simp [bv]
            · rename_i h2; simp at h2; subst h2; subst hr; simp only [bv]
              cases n <;> simp [List.range_succ]
            · rename_i h2; simp at h2; subst h2; subst hr; simp [bv]
          rw [hall]
          have hsx : (P.info? e).map (·.size) = some (sz x) := by
            simp only [fits, Bool.and_eq_true, beq_iff_eq] at hfx; exact hfx.1.1
          have hsy : sz y = sz x := by
            simp only [fits, Bool.and_eq_true, beq_iff_eq] at hfy
            have := hfy.1.1.symm.trans hsx
            simpa using this
          simp only [valAt]
          simp only [Op.equalIn, Sem.run_bind, run_underlying hu w, Result.andThen_ok, run_sizeOf hsx w]
          have hf := forIn_range_all (P := P) (fun i => do Op.equalIn D e (← part e (cells E ix (.arr n x)).toArray (i * sz x)) (← part e (cells E ix (.arr n y)).toArray (i * sz x))) (fun i => bv r1 (ix ++ [i])) w (List.range n) (fun i hi => by
            simp at hi
            obtain ⟨pre, post, he, hl⟩ := flatMap_split (fun i => cells E (ix ++ [i]) x) (sz x) (fun i => length_cells E x _) n i hi
            obtain ⟨pre', post', he', hl'⟩ := flatMap_split (fun i => cells E (ix ++ [i]) y) (sz y) (fun i => length_cells E y _) n i hi
            simp only [Sem.run_bind]
            rw [part_run hfx E (ix ++ [i]) _ (i * sz x) pre post (by simp only [cells]; exact he) hl w]
            simp only [Result.andThen_ok]
            rw [part_run hfy E (ix ++ [i]) _ (i * sz x) pre' post' (by simp only [cells]; exact he') (by rw [hl', hsy]) w]
            simp only [Result.andThen_ok]
            exact ih e x y r1 hx hy h1 D (by omega) (ix ++ [i]) w)
          simp only [bind_assoc] at hf
          rw [Std.Legacy.Range.forIn_eq_forIn_range', Std.Legacy.Range.size]
          have hrng : List.range' [:n].start (([:n].stop - [:n].start + [:n].step - 1) / [:n].step) [:n].step = List.range n := by
            simp [List.range_eq_range']
          rw [hrng, hf]
          cases (List.range n).all fun i => bv r1 (ix ++ [i]) <;> simp


/-! ### Conversions, unary operations, min and max -/

def convAV (P : Program) (src dst : TypeId) (v : AV) : Option AV :=
  match P.underlying dst, v with
  | some (.int k'), .lit k n => if (P.underlying src).isSome then some (.lit k' (k'.wrap n)) else none
  | some (.int k'), .int k x => if (P.underlying src).isSome then some (.int k' fun ix => convB k k' (x ix)) else none
  | _, _ => none

theorem convAV_run {P : Program} {src dst : TypeId} {v r : AV} (h : convAV P src dst v = some r) (E : Env) (w : World) :
    (convert src dst (val E v)).run P w = .ok (val E r) w ∧ ok E r := by
  unfold convAV at h
  split at h
  · rename_i k' k n hu
    split at h <;> simp at h
    rename_i hs
    subst h
    refine ⟨?_, trivial⟩
    simp only [val, cells, List.headD_cons]
    obtain ⟨d, hd⟩ := Option.isSome_iff_exists.1 hs
    cases d <;> simp [convert, run_underlying hd w, run_underlying hu w, Conv.intToInt]
  · rename_i k' k x hu
    split at h <;> simp at h
    rename_i hs
    subst h
    refine ⟨?_, trivial⟩
    simp only [val, cells, List.headD_cons]
    rw [← conv_toZ]
    obtain ⟨d, hd⟩ := Option.isSome_iff_exists.1 hs
    cases d <;> simp [convert, run_underlying hd w, run_underlying hu w, Conv.intToInt]
  · simp at h

def unAV (op : UnOp) (v : AV) : Option AV :=
  match op, v with
  | .not, .blit b => some (.blit (!b))
  | .not, .bool f => some (.bool fun ix => !(f ix))
  | .neg, .lit k n => some (.lit k (k.wrap (0 - n)))
  | .neg, .int k x => some (.int k fun ix => -(x ix))
  | .xor, .int k x => if k.signed then none else some (.int k fun ix => ~~~(x ix))
  | _, _ => none

theorem xor_max (k : IntKind) (h : k.signed = false) (x : BitVec k.bits) : BitVec.ofInt k.bits k.max ^^^ x = ~~~x := by
  have : BitVec.ofInt k.bits k.max = BitVec.allOnes k.bits := by
    cases k <;> simp [IntKind.signed] at h <;> simp [IntKind.max, IntKind.signed, IntKind.bits] <;> decide
  rw [this, BitVec.allOnes_xor]

theorem unAV_run {P : Program} {op : UnOp} {v r : AV} (h : unAV op v = some r) (E : Env) (w : World) :
    (Op.unary op (val E v)).run P w = .ok (val E r) w ∧ ok E r := by
  unfold unAV at h
  split at h <;> simp at h
  · subst h; exact ⟨by simp [val, cells, Op.unary], trivial⟩
  · subst h; exact ⟨by simp [val, cells, Op.unary], trivial⟩
  · subst h; exact ⟨by simp [val, cells, Op.unary, Op.intArith], trivial⟩
  · rename_i k x
    subst h
    have := neg_toZ k (x [])
    exact ⟨by simp only [val, cells, List.headD_cons, Op.unary, Op.intArith]; rw [this]; rfl, trivial⟩
  · rename_i k x
    obtain ⟨hs, rfl⟩ := h
    refine ⟨?_, trivial⟩
    simp only [val, cells, List.headD_cons, Op.unary, Op.intBits, hs, Bool.false_eq_true, if_false, ofInt_toZ, Sem.run_pure]
    rw [xor_max k hs, back_toZ]

/-- min (of true), max (of false). -/
def minAV (mn : Bool) (a b : AV) : Option AV :=
  match kindOf a with
  | some k => match toBV k a, toBV k b with
    | some x, some y => some (.int k fun ix => bif (bif mn then ltB k (y ix) (x ix) else ltB k (x ix) (y ix)) then y ix else x ix)
    | _, _ => none
  | none => none

theorem min_run {P : Program} {a b r : AV} (h : minAV true a b = some r) (E : Env) (w : World) :
    (Builtin.min2 (val E a) (val E b)).run P w = .ok (val E r) w ∧ ok E r := by
  unfold minAV at h
  split at h <;> try (simp at h; done)
  split at h <;> simp at h
  rename_i k _ _ _ x y hx hy
  subst h
  rw [val_toBV hx, val_toBV hy]
  refine ⟨?_, trivial⟩
  simp only [Builtin.min2, Sem.run_pure, val, cells, List.headD_cons]
  congr 2
  rw [← ltB_toZ]
  by_cases hc : toZ k (y []) < toZ k (x []) <;> simp [hc]

theorem max_run {P : Program} {a b r : AV} (h : minAV false a b = some r) (E : Env) (w : World) :
    (Builtin.max2 (val E a) (val E b)).run P w = .ok (val E r) w ∧ ok E r := by
  unfold minAV at h
  split at h <;> try (simp at h; done)
  split at h <;> simp at h
  rename_i k _ _ _ x y hx hy
  subst h
  rw [val_toBV hx, val_toBV hy]
  refine ⟨?_, trivial⟩
  simp only [Builtin.max2, Sem.run_pure, val, cells, List.headD_cons]
  congr 2
  rw [← ltB_toZ]
  by_cases hc : toZ k (x []) < toZ k (y []) <;> simp [hc, GT.gt]

/-! ### Zero values -/

def eqV : Value → Value → Bool
  | .int k n, .int k' m => k == k' && n == m
  | .bool a, .bool b => a == b
  | _, _ => false

theorem eqV_eq {a b : Value} (h : eqV a b = true) : a = b := by
  cases a <;> cases b <;> simp [eqV] at h
  · rw [h]
  · rw [h.1, h.2]

def eqVs : List Value → List Value → Bool
  | [], [] => true
  | a :: l, b :: m => eqV a b && eqVs l m
  | _, _ => false

theorem eqVs_eq : ∀ {l m : List Value}, eqVs l m = true → l = m
  | [], [], _ => rfl
  | a :: l, b :: m, h => by simp [eqVs] at h; rw [eqV_eq h.1, eqVs_eq h.2]
  | [], _ :: _, h => by simp [eqVs] at h
  | _ :: _, [], h => by simp [eqVs] at h

def zeroFs (z : TypeId → Option AV) : List Field → Option AV
  | [] => some .nil
  | f :: fs => match z f.type, zeroFs z fs with
    | some h, some t => some (.cons h t)
    | _, _ => none

def zeroOf (P : Program) : Nat → TypeId → Option AV
  | 0, _ => none
  | d + 1, T => match P.underlying T with
    | some .bool => some (.blit false)
    | some (.int k) => some (.lit k 0)
    | some (.struct fs) => (zeroFs (zeroOf P d) fs.toList).map .agg
    | some (.array n e) => (zeroOf P d e).map (.arr n)
    | _ => none

/-- The zero value of a type, held against the program's own. -/
def zeroAV (P : Program) (T : TypeId) : Option AV :=
  match zeroOf P 12 T, P.info? T with
  | some z, some i => match i.zero with
    | some v => if eqVs v.cells.toList (cells (fun _ => none) [] z) && pf z then some z else none
    | none => none
  | _, _ => none

theorem zeroAV_spec {P : Program} {T : TypeId} {z : AV} (h : zeroAV P T = some z) : ∃ v, (∀ w, (zeroValue T).run P w = .ok v w) ∧ (∀ E, v.cells = (cells E [] z).toArray) ∧ ∀ E, ok E z := by
  unfold zeroAV at h
  split at h <;> try (simp at h; done)
  rename_i z' i hz hi
  split at h <;> try (simp at h; done)
  rename_i v hv
  split at h <;> simp at h
  rename_i hc
  subst h
  simp at hc
  refine ⟨v, fun w => ?_, fun E => ?_, fun E => ok_of_pf E _ hc.2⟩
  · simp [zeroValue, typeInfo, hi, hv]
  · apply Array.ext'
    rw [eqVs_eq hc.1, cells_pf _ E _ hc.2]

end Go.Rf

/- One operation: what it comes to on symbolic data, before memory is asked; and that the machine's operation comes to just that. -/
namespace Go.Rf

theorem fold_put (off : Nat) : ∀ (l : List Value) (k : Nat) (cs : Array Value), off + k + l.length ≤ cs.size →
    (l.zipIdx k).foldl (fun cs x => cs.setIfInBounds (off + x.2) x.1) cs = (cs.toList.take (off + k) ++ l ++ cs.toList.drop (off + k + l.length)).toArray
  | [], k, cs, _ => by simp
  | v :: l, k, cs, h => by
    simp only [List.zipIdx_cons, List.foldl_cons]
    rw [fold_put off l (k + 1) _ (by simp at h ⊢; omega)]
    apply Array.ext'
    have := list_seg_step cs.toList (off + k) v l (by simp at h ⊢; omega)
    simp only [Array.toList_setIfInBounds]
    simpa [Nat.add_assoc] using this

theorem fill_cons (place : Nat → Option (Nat × Nat)) (cs : Array Value) (i : Nat) (v : Value) (rest : List (Nat × Value)) (off n : Nat) (hp : place i = some (off, n))
    (hn : v.cells.size = n) (pre mid post : List Value) (hc : cs.toList = pre ++ mid ++ post) (hl : pre.length = off) (hm : mid.length = n) :
    Instr.fill place cs ((i, v) :: rest) = Instr.fill place (pre ++ v.cells.toList ++ post).toArray rest := by
  have hs : cs.size = pre.length + mid.length + post.length := by
    rw [← Array.length_toList, hc]; simp; omega
  have hf : (v.cells.zipIdx.foldl (fun cs (c, j) => cs.setIfInBounds (off + j) c) cs) = (pre ++ v.cells.toList ++ post).toArray := by
    rw [← Array.foldl_toList, Array.toList_zipIdx]
    have := fold_put off v.cells.toList 0 cs (by simp [hs, hl, hn, hm])
    simp only [Nat.add_zero] at this
    rw [this, hc]
    congr 1
    have h1 : (pre ++ mid ++ post).take off = pre := by rw [← hl]; simp
    have h2 : (pre ++ mid ++ post).drop (off + v.cells.toList.length) = post := by
      have : off + v.cells.toList.length = (pre ++ mid).length := by simp [hl, hn, hm]
      rw [this, List.drop_left]
    rw [h1, h2]
  simp only [Instr.fill, hp]
  rw [if_neg (by simp [hn, hs, ← hl, hm]), hf]

def szT (P : Program) (T : TypeId) : Option Nat := (P.info? T).map (·.size)

/-- A struct or an array with parts put anew. -/
def putParts (P : Program) (d : TypeDesc) : AV → List (Nat × AV) → Option AV
  | z, [] => some z
  | z, (i, u) :: rest =>
    if sca u || big u then
      match d with
      | .struct fs => match fs[i]? with
        | some f => if szT P f.type == some (sz u) then match set [.fld i f.offset] z u with
          | some z' => putParts P d z' rest
          | none => none
          else none
        | none => none
      | .array n e => if i < n && szT P e == some (sz u) then match z with
        | .arr m b => if m == n then match set [.idx i (sz u)] (.arr m b) u with
          | some z' => putParts P d z' rest
          | none => none
          else none
        | _ => none
        else none
      | _ => none
    else none

def sizesOk (P : Program) (fs : Array Field) : Bool := (fs.toList.mapM (fun f => (P.info? f.type).map fun i => (f.offset, i.size))).isSome

def buildAV (P : Program) (T : TypeId) (parts : List (Nat × AV)) : Option AV :=
  match zeroAV P T, P.underlying T with
  | some z, some (.struct fs) => if sizesOk P fs && big z then putParts P (.struct fs) z parts else none
  | some z, some (.array n e) => if (P.info? e).isSome && big z then putParts P (.array n e) z parts else none
  | _, _ => none

theorem big_set {s : Stp} {p : List Stp} {z u z' : AV} (h : set (s :: p) z u = some z') : big z' = true := by
  cases s <;> cases z <;> simp only [set, reduceCtorEq] at h <;> (repeat' split at h) <;> simp only [Option.map_eq_some_iff, reduceCtorEq] at h
  · obtain ⟨_, _, rfl⟩ := h; rfl
  · obtain ⟨_, _, rfl⟩ := h; rfl

theorem putParts_fill {P : Program} (E : Env) (d : TypeDesc) (place : Nat → Option (Nat × Nat))
    (hpl : match d with
      | .struct fs => ∀ i f n, fs[i]? = some f → szT P f.type = some n → place i = some (f.offset, n)
      | .array n e => ∀ i s, szT P e = some s → place i = some (i * s, s)
      | _ => True) : ∀ (parts : List (Nat × AV)) (z r : AV), putParts P d z parts = some r → ok E z → (∀ x ∈ parts, ok E x.2) →
      Instr.fill place (cells E [] z).toArray (parts.map fun x => (x.1, val E x.2)) = some (cells E [] r).toArray ∧ ok E r ∧ (big z = true → big r = true)
  | [], z, r, h, hz, _ => by
    simp [putParts] at h
    subst h
    exact ⟨by simp [Instr.fill], hz, id⟩
  | (i, u) :: rest, z, r, h, hz, hps => by
    simp only [putParts] at h
    split at h <;> try (simp at h; done)
    rename_i hsb
    simp only [Bool.or_eq_true] at hsb
    have hcells := val_cells (E := E) hsb
    have hvs : (val E u).cells.size = sz u := by rw [hcells]; simp [length_cells]
    split at h <;> try (simp at h; done)
    · rename_i fs
      split at h <;> try (simp at h; done)
      rename_i f hf
      split at h <;> try (simp at h; done)
      rename_i hsz
      split at h <;> try (simp at h; done)
      rename_i z' hset
      simp at hsz
      have hb : getB [.fld i f.offset] z := by
        cases z <;> simp [getB]
        split <;> trivial
      obtain ⟨pre, mid, post, he, hl, hm, he'⟩ := set_cells E [.fld i f.offset] z u z' hset hb
      have ih := putParts_fill E _ place hpl rest z' r h (set_ok E _ _ _ _ hset hz (show ok E u from hps (i, u) List.mem_cons_self)) (fun x hx => hps x (by simp [hx]))
      refine ⟨?_, ih.2.1, fun _ => ih.2.2 (big_set hset)⟩
      rw [List.map_cons, fill_cons place _ i (val E u) _ f.offset (sz u) (hpl i f (sz u) hf hsz) hvs pre mid post (by simpa using he) (by simpa [offOf] using hl) hm]
      rw [hcells]
      simp only [List.toList_toArray]
      rw [← he']
      exact ih.1
    · rename_i n e
      split at h <;> try (simp at h; done)
      rename_i hi
      split at h <;> try (simp at h; done)
      rename_i m b
      split at h <;> try (simp at h; done)
      rename_i hmn
      split at h <;> try (simp at h; done)
      rename_i z' hset
      simp at hi hmn
      subst hmn
      obtain ⟨hi, hsz⟩ := hi
      have hb : getB [.idx i (sz u)] (.arr m b) := ⟨hi, by cases (inst i b) <;> trivial⟩
      obtain ⟨pre, mid, post, he, hl, hm, he'⟩ := set_cells E [.idx i (sz u)] (.arr m b) u z' hset hb
      have ih := putParts_fill E _ place hpl rest z' r h (set_ok E _ _ _ _ hset hz (show ok E u from hps (i, u) List.mem_cons_self)) (fun x hx => hps x (by simp [hx]))
      refine ⟨?_, ih.2.1, fun _ => ih.2.2 (big_set hset)⟩
      rw [List.map_cons, fill_cons place _ i (val E u) _ (i * sz u) (sz u) (hpl i _ hsz) hvs pre mid post (by simpa using he) (by simpa [offOf] using hl) hm]
      rw [hcells]
      simp only [List.toList_toArray]
      rw [← he']
      exact ih.1

theorem mapM_get {α β : Type} (f : α → Option β) : ∀ (l : List α) (r : List β), l.mapM f = some r → ∀ (i : Nat) (a : α), l[i]? = some a → r[i]? = f a
  | [], r, h, i, a, ha => by simp at ha
  | x :: l, r, h, i, a, ha => by
    simp only [List.mapM_cons, Option.bind_eq_bind, Option.pure_def] at h
    cases hx : f x with
    | none => simp [hx] at h
    | some y =>
      cases hl : l.mapM f with
      | none => simp [hx, hl] at h
      | some ys =>
        simp [hx, hl] at h
        subst h
        cases i with
        | zero => simp at ha; subst ha; simp [hx]
        | succ i => simp at ha ⊢; exact mapM_get f l ys hl i a ha

theorem buildAV_run {P : Program} {T : TypeId} {parts : List (Nat × AV)} {r : AV} (h : buildAV P T parts = some r) (E : Env) (hps : ∀ x ∈ parts, ok E x.2) (w : World) :
    (Instr.build T (parts.map fun x => (x.1, val E x.2)).toArray).run P w = .ok (val E r) w ∧ ok E r := by
  unfold buildAV at h
  split at h <;> try (simp at h; done)
  · rename_i z fs hz hu
    split at h <;> try (simp at h; done)
    rename_i hc
    simp only [Bool.and_eq_true] at hc
    obtain ⟨v, hv, hvc, hvo⟩ := zeroAV_spec hz
    obtain ⟨places, hpl⟩ := Option.isSome_iff_exists.1 hc.1
    have key := putParts_fill (P := P) E (.struct fs) (places.toArray[·]?) (by
      intro i f n hf hn
      have := mapM_get _ _ _ hpl i f (by simpa using hf)
      simp only [szT] at hn
      cases hi : P.info? f.type with
      | none => simp [hi] at hn
      | some inf =>
        simp [hi] at hn this
        simp [this, hn]) parts z r h (hvo E) hps
    have hbig := key.2.2 hc.2
    refine ⟨?_, key.2.1⟩
    rw [val_big hbig]
    refine run_build w T _ _ ?_
    unfold zeroAV at hz
    split at hz <;> try (simp at hz; done)
    rename_i z' inf _ hinf
    split at hz <;> try (simp at hz; done)
    rename_i v' hv'
    have hvv : v' = v := by
      have := hv w
      simp [zeroValue, typeInfo, hinf, hv'] at this
      exact this
    simp only [Program.built, hinf, hu, hv', hpl]
    rw [hvv, hvc E]
    exact key.1
  · rename_i z n e hz hu
    split at h <;> try (simp at h; done)
    rename_i hc
    simp only [Bool.and_eq_true] at hc
    obtain ⟨v, hv, hvc, hvo⟩ := zeroAV_spec hz
    obtain ⟨ie, hie⟩ := Option.isSome_iff_exists.1 hc.1
    have key := putParts_fill (P := P) E (.array n e) (fun i => some (i * ie.size, ie.size)) (by
      intro i s hs
      simp [szT, hie] at hs
      simp [hs]) parts z r h (hvo E) hps
    have hbig := key.2.2 hc.2
    refine ⟨?_, key.2.1⟩
    rw [val_big hbig]
    refine run_build w T _ _ ?_
    unfold zeroAV at hz
    split at hz <;> try (simp at hz; done)
    rename_i z' inf _ hinf
    split at hz <;> try (simp at hz; done)
    rename_i v' hv'
    have hvv : v' = v := by
      have := hv w
      simp [zeroValue, typeInfo, hinf, hv'] at this
      exact this
    simp only [Program.built, hinf, hu, hv', hie]
    rw [hvv, hvc E]
    exact key.1

end Go.Rf
