/- Symbolic data: numbers as bit vectors, structs and arrays as trees; how they lie in memory. -/
import Derived.Orders
import Derived.Laws.StructEq
import Derived.Laws.CopyRow
import Derived.Laws.Rows
set_option linter.unusedVariables false
set_option linter.unusedSimpArgs false
namespace Go.Rf

abbrev Ix := List Nat

/-- One step of a place inside a block: a field (its number, its cell), an element (its number, how many cells each has). -/
inductive Stp where
  | fld (i o : Nat)
  | idx (i s : Nat)

def offOf : List Stp → Nat
  | [] => 0
  | .fld _ o :: p => o + offOf p
  | .idx i s :: p => i * s + offOf p

theorem offOf_append (p q : List Stp) : offOf (p ++ q) = offOf p + offOf q := by
  induction p with
  | nil => simp [offOf]
  | cons s p ih => cases s <;> simp [offOf, ih] <;> omega

/-- Symbolic values. Leaves of an array's body are functions of the indices, the outermost first. -/
inductive AV where
  | un
  | lit (k : IntKind) (n : Int)
  | int (k : IntKind) (x : Ix → BitVec k.bits)
  | blit (b : Bool)
  | bool (b : Ix → Bool)
  | nil
  | cons (h t : AV)
  | agg (fs : AV)
  | tup (fs : AV)
  | arr (n : Nat) (b : AV)
  | ptr (n : Nat) (p : List Stp)
  | fn (f : FuncId) (cap : AV)
  | gd (p : List (Nat × Bool)) (v : AV)
  /-- A slice: where its array lies, how long it is, how long it may be. -/
  | slc (n : Nat) (p : List Stp) (len : AV) (cap : Nat)

instance : Inhabited AV := ⟨.un⟩

/-- The number that bits of a kind stand for. -/
def toZ (k : IntKind) (x : BitVec k.bits) : Int := if k.signed then x.toInt else (x.toNat : Int)

abbrev Env := Nat → Option Nat

/-- A slice's length. -/
def lenZ (ix : Ix) : AV → Int
  | .lit _ n => n
  | .int k x => toZ k (x ix)
  | _ => 0

def cells (E : Env) : Ix → AV → List Value
  | _, .lit k n => [.int k n]
  | ix, .int k x => [.int k (toZ k (x ix))]
  | _, .blit b => [.bool b]
  | ix, .bool b => [.bool (b ix)]
  | _, .nil => []
  | ix, .cons h t => cells E ix h ++ cells E ix t
  | ix, .agg fs => cells E ix fs
  | ix, .arr n b => (List.range n).flatMap fun i => cells E (ix ++ [i]) b
  | _, .ptr n p => [.pointer ((E n).map fun b => ⟨b, offOf p, none⟩)]
  | ix, .fn f cap => [.func (.func f) #[] (cells E ix cap).toArray]
  | ix, .slc n p len cap => [.slice ((E n).map fun b => ⟨b, offOf p, none⟩) (lenZ ix len).toNat cap]
  | _, .un => [undef]
  | _, .tup _ => [undef]
  | _, .gd _ _ => [undef]

/-- How many cells. -/
def sz : AV → Nat
  | .nil => 0
  | .cons h t => sz h + sz t
  | .agg fs => sz fs
  | .arr n b => n * sz b
  | _ => 1

theorem length_cells (E : Env) (v : AV) : ∀ ix, (cells E ix v).length = sz v := by
  induction v with
  | cons h t ih1 ih2 => intro ix; simp [cells, sz, ih1, ih2]
  | agg fs ih => intro ix; simp [cells, sz, ih]
  | arr n b ih =>
    intro ix
    simp only [cells, sz, List.length_flatMap, ih]
    have : ∀ l : List Nat, (l.map fun _ => sz b).sum = l.length * sz b := by
      intro l
      induction l with
      | nil => simp
      | cons a l ih => simp [ih, Nat.succ_mul]; omega
    rw [this]; simp
  | _ => intro ix; simp [cells, sz]

/-- Element i of an array's body. -/
def inst (i : Nat) : AV → AV
  | .int k x => .int k fun ix => x (i :: ix)
  | .bool b => .bool fun ix => b (i :: ix)
  | .cons h t => .cons (inst i h) (inst i t)
  | .agg fs => .agg (inst i fs)
  | .arr n b => .arr n (inst i b)
  | .fn f cap => .fn f (inst i cap)
  | .slc n p len cap => .slc n p (inst i len) cap
  | v => v

theorem sz_inst (i : Nat) (v : AV) : sz (inst i v) = sz v := by
  induction v with
  | cons h t ih1 ih2 => simp [inst, sz, ih1, ih2]
  | agg fs ih => simp [inst, sz, ih]
  | arr n b ih => simp [inst, sz, ih]
  | _ => simp [inst, sz]

theorem cells_inst (E : Env) (i : Nat) (v : AV) : ∀ ix, cells E ix (inst i v) = cells E (i :: ix) v := by
  induction v with
  | cons h t ih1 ih2 => intro ix; simp [inst, cells, ih1, ih2]
  | agg fs ih => intro ix; simp [inst, cells, ih]
  | arr n b ih => intro ix; simp [inst, cells, ih]
  | fn f cap ih => intro ix; simp [inst, cells, ih]
  | slc n p len cap _ => intro ix; cases len <;> rfl
  | _ => intro ix; simp [inst, cells]

/-- All that a value names is known. -/
def ok (E : Env) : AV → Prop
  | .lit _ _ | .int _ _ | .blit _ | .bool _ | .nil => True
  | .cons h t => ok E h ∧ ok E t
  | .agg fs => ok E fs
  | .arr _ b => ok E b
  | .ptr n _ => (E n).isSome = true
  | .slc n _ _ _ => (E n).isSome = true
  | .fn _ cap => ok E cap
  | .un | .tup _ | .gd _ _ => False

/-- Names nothing. -/
def pf : AV → Bool
  | .lit _ _ | .int _ _ | .blit _ | .bool _ | .nil => true
  | .cons h t => pf h && pf t
  | .agg fs => pf fs
  | .arr _ b => pf b
  | .ptr _ _ | .fn _ _ | .un | .tup _ | .gd _ _ | .slc _ _ _ _ => false

theorem ok_of_pf (E : Env) (v : AV) (h : pf v = true) : ok E v := by
  induction v with
  | cons a b iha ihb => simp [pf] at h; exact ⟨iha h.1, ihb h.2⟩
  | agg fs ih => exact ih h
  | arr n b ih => exact ih h
  | _ => first | trivial | simp [pf] at h

theorem cells_pf (E E' : Env) (v : AV) (h : pf v = true) : ∀ ix, cells E ix v = cells E' ix v := by
  induction v with
  | cons a b iha ihb => intro ix; simp [pf] at h; simp [cells, iha h.1, ihb h.2]
  | agg fs ih => intro ix; exact ih h ix
  | arr n b ih => intro ix; simp [cells, ih h]
  | ptr n p => simp [pf] at h
  | fn n p => simp [pf] at h
  | slc n p len cap => simp [pf] at h
  | _ => intro ix; rfl

def Sub (E E' : Env) : Prop := ∀ n b, E n = some b → E' n = some b
theorem Sub.refl (E : Env) : Sub E E := fun _ _ h => h
theorem Sub.trans {E E' E'' : Env} (h : Sub E E') (h' : Sub E' E'') : Sub E E'' := fun n b e => h' n b (h n b e)

theorem ok_mono {E E' : Env} (hs : Sub E E') {v : AV} (h : ok E v) : ok E' v := by
  induction v with
  | cons a b iha ihb => exact ⟨iha h.1, ihb h.2⟩
  | agg fs ih => exact ih h
  | arr n b ih => exact ih h
  | fn f cap ih => exact ih h
  | ptr n p =>
    simp only [ok] at h ⊢
    cases he : E n with
    | none => simp [he] at h
    | some b => simp [hs n b he]
  | slc n p len cap =>
    simp only [ok] at h ⊢
    cases he : E n with
    | none => simp [he] at h
    | some b => simp [hs n b he]
  | _ => exact h

theorem cells_mono {E E' : Env} (hs : Sub E E') {v : AV} (h : ok E v) : ∀ ix, cells E' ix v = cells E ix v := by
  induction v with
  | cons a b iha ihb => intro ix; simp [cells, iha h.1, ihb h.2]
  | agg fs ih => intro ix; exact ih h ix
  | arr n b ih => intro ix; simp only [cells, ih h]
  | fn f cap ih => intro ix; simp only [cells, ih h]
  | ptr n p =>
    intro ix
    simp only [ok] at h
    cases he : E n with
    | none => simp [he] at h
    | some b => simp [cells, he, hs n b he]
  | slc n p len cap =>
    intro ix
    simp only [ok] at h
    cases he : E n with
    | none => simp [he] at h
    | some b => simp [cells, he, hs n b he]
  | un => exact h.elim
  | tup _ => exact h.elim
  | gd _ _ => exact h.elim
  | _ => intro ix; rfl

/-- The value, as the machine has it. -/
def val (E : Env) : AV → Value
  | .agg fs => .agg (cells E [] fs).toArray
  | .arr n b => .agg (cells E [] (.arr n b)).toArray
  | v => (cells E [] v).headD undef

def vals (E : Env) : AV → List Value
  | .cons h t => val E h :: vals E t
  | _ => []

def valT (E : Env) : AV → Value
  | .tup fs => .tuple (vals E fs).toArray
  | v => val E v

/-- A value that may lie in a variable. -/
def okl (E : Env) : AV → Prop
  | .cons h t => ok E h ∧ okl E t
  | .nil => True
  | _ => False

def okT (E : Env) : AV → Prop
  | .tup fs => okl E fs
  | v => ok E v

theorem val_mono {E E' : Env} (hs : Sub E E') {v : AV} (h : ok E v) : val E' v = val E v := by
  cases v <;> simp only [val] <;> first
    | rw [cells_mono hs h]
    | (have := cells_mono hs (v := AV.agg _) h []; simp only [cells] at this; rw [this])

theorem vals_mono {E E' : Env} (hs : Sub E E') {v : AV} (h : okl E v) : vals E' v = vals E v := by
  induction v with
  | cons a b _ ih => simp only [vals]; rw [val_mono hs h.1, ih h.2]
  | _ => rfl

theorem okl_mono {E E' : Env} (hs : Sub E E') {v : AV} (h : okl E v) : okl E' v := by
  induction v with
  | cons a b _ ih => exact ⟨ok_mono hs h.1, ih h.2⟩
  | _ => exact h

theorem okT_mono {E E' : Env} (hs : Sub E E') {v : AV} (h : okT E v) : okT E' v := by
  cases v <;> first | exact okl_mono hs h | exact ok_mono hs h

theorem valT_mono {E E' : Env} (hs : Sub E E') {v : AV} (h : okT E v) : valT E' v = valT E v := by
  cases v <;> simp only [valT] <;> first | rw [vals_mono hs h] | exact val_mono hs h

/-- One cell, and no struct, array or list of fields. -/
def sca : AV → Bool
  | .lit _ _ | .int _ _ | .blit _ | .bool _ | .ptr _ _ | .fn _ _ | .slc _ _ _ _ => true
  | _ => false
/-- A struct or an array. -/
def big : AV → Bool
  | .agg _ | .arr _ _ => true
  | _ => false

theorem cells_sca {E : Env} {v : AV} (h : sca v = true) : cells E [] v = [val E v] := by
  cases v <;> simp [sca] at h <;> simp [cells, val]

theorem val_big {E : Env} {v : AV} (h : big v = true) : val E v = .agg (cells E [] v).toArray := by
  cases v <;> simp [big] at h <;> simp [val, cells]

/-- The cells of a value that is no tuple. -/
theorem val_cells {E : Env} {v : AV} (h : sca v = true ∨ big v = true) : (val E v).cells = (cells E [] v).toArray := by
  rcases h with h | h
  · rw [cells_sca h]
    cases v <;> simp [sca] at h <;> simp [val, cells, Value.cells]
  · rw [val_big h]; rfl

/-! ### A place inside a value -/

/-- Field i of a row of fields, and at which cell it begins. -/
def nth : Nat → AV → Option (AV × Nat)
  | 0, .cons h _ => some (h, 0)
  | i + 1, .cons h t => (nth i t).map fun x => (x.1, x.2 + sz h)
  | _, _ => none

theorem nth_cells (E : Env) (ix : Ix) : ∀ (i : Nat) (fs u : AV) (o : Nat), nth i fs = some (u, o) →
    ∃ pre post, cells E ix fs = pre ++ cells E ix u ++ post ∧ pre.length = o := by
  intro i
  induction i with
  | zero =>
    intro fs u o h
    cases fs <;> simp [nth] at h
    obtain ⟨rfl, rfl⟩ := h
    exact ⟨[], _, by simp [cells]; rfl, rfl⟩
  | succ i ih =>
    intro fs u o h
    cases fs <;> simp [nth] at h
    rename_i hd tl
    obtain ⟨x, o', hx, rfl, rfl⟩ := h
    obtain ⟨pre, post, he, hl⟩ := ih tl x o' hx
    exact ⟨cells E ix hd ++ pre, post, by simp [cells, he], by simp [length_cells, hl]; omega⟩

theorem nth_ok (E : Env) : ∀ (i : Nat) (fs u : AV) (o : Nat), nth i fs = some (u, o) → ok E fs → ok E u := by
  intro i
  induction i with
  | zero =>
    intro fs u o h hk
    cases fs <;> simp [nth] at h
    obtain ⟨rfl, rfl⟩ := h
    exact hk.1
  | succ i ih =>
    intro fs u o h hk
    cases fs <;> simp [nth] at h
    obtain ⟨x, o', hx, rfl, rfl⟩ := h
    exact ih _ _ _ hx hk.2

theorem ok_inst (E : Env) (i : Nat) (v : AV) (h : ok E v) : ok E (inst i v) := by
  induction v with
  | cons a b iha ihb => exact ⟨iha h.1, ihb h.2⟩
  | agg fs ih => exact ih h
  | arr n b ih => exact ih h
  | fn f cap ih => exact ih h
  | _ => exact h

/-- What lies at a place; and the bounds of the indices on the way. -/
def get : List Stp → AV → Option AV
  | [], v => some v
  | .fld i o :: p, .agg fs => match nth i fs with
    | some (u, o') => if o' == o then get p u else none
    | none => none
  | .idx i s :: p, .arr n b => if s == sz b then get p (inst i b) else none
  | _, _ => none

def getB : List Stp → AV → Prop
  | .fld i _ :: p, .agg fs => match nth i fs with
    | some (u, _) => getB p u
    | none => True
  | .idx i _ :: p, .arr n b => i < n ∧ getB p (inst i b)
  | _, _ => True

theorem range_split (n i : Nat) (hi : i < n) : List.range n = List.range i ++ [i] ++ (List.range (n - (i + 1))).map (fun k => i + 1 + k) := by
  have h : n = i + 1 + (n - (i + 1)) := by omega
  conv => lhs; rw [h]
  rw [List.range_add, List.range_succ]

theorem sum_const {α : Type} (m : Nat) (l : List α) : (l.map fun _ => m).sum = l.length * m := by
  induction l with
  | nil => simp
  | cons a l ih => simp [ih, Nat.succ_mul]; omega

theorem flatMap_len {α : Type} (f : Nat → List α) (m : Nat) (hf : ∀ i, (f i).length = m) (l : List Nat) : (l.flatMap f).length = l.length * m := by
  rw [List.length_flatMap]
  simp only [hf]
  exact sum_const m l

theorem flatMap_split {α : Type} (f : Nat → List α) (m : Nat) (hf : ∀ i, (f i).length = m) (n i : Nat) (hi : i < n) :
    ∃ pre post, (List.range n).flatMap f = pre ++ f i ++ post ∧ pre.length = i * m := by
  refine ⟨(List.range i).flatMap f, ((List.range (n - (i + 1))).map (fun k => i + 1 + k)).flatMap f, ?_, ?_⟩
  · rw [range_split n i hi]
    simp
  · rw [flatMap_len f m hf]
    simp

theorem get_cells (E : Env) : ∀ (p : List Stp) (v u : AV), get p v = some u → getB p v →
    ∃ pre post, cells E [] v = pre ++ cells E [] u ++ post ∧ pre.length = offOf p := by
  intro p
  induction p with
  | nil =>
    intro v u h _
    cases v <;> simp [get] at h <;> subst h <;> exact ⟨[], [], by simp, rfl⟩
  | cons s p ih =>
    intro v u h hb
    cases s with
    | fld i o =>
      cases v <;> simp [get] at h
      rename_i fs
      simp only [getB] at hb
      cases hn : nth i fs with
      | none => simp [hn] at h
      | some x =>
        obtain ⟨x, o'⟩ := x
        simp [hn] at h hb
        obtain ⟨ho, hg⟩ := h
        subst ho
        obtain ⟨pre, post, he, hl⟩ := nth_cells E [] i fs x o' hn
        obtain ⟨pre', post', he', hl'⟩ := ih x u hg hb
        exact ⟨pre ++ pre', post' ++ post, by simp [cells, he, he'], by simp [offOf, hl, hl']⟩
    | idx i sl =>
      cases v <;> simp [get] at h
      rename_i n b
      obtain ⟨rfl, hg⟩ := h
      simp only [getB] at hb
      obtain ⟨hi, hb⟩ := hb
      obtain ⟨pre', post', he', hl'⟩ := ih _ u hg hb
      obtain ⟨pre, post, he, hl⟩ := flatMap_split (fun i => cells E [i] b) (sz b) (fun i => length_cells E b [i]) n i hi
      rw [cells_inst] at he'
      refine ⟨pre ++ pre', post' ++ post, ?_, by simp [offOf, hl, hl']⟩
      simp only [cells, List.nil_append]
      rw [he]
      simp [he']

theorem get_ok (E : Env) : ∀ (p : List Stp) (v u : AV), get p v = some u → ok E v → ok E u := by
  intro p
  induction p with
  | nil => intro v u h hk; cases v <;> simp [get] at h <;> subst h <;> exact hk
  | cons s p ih =>
    intro v u h hk
    cases s with
    | fld i o =>
      cases v <;> simp [get] at h
      rename_i fs
      cases hn : nth i fs with
      | none => simp [hn] at h
      | some x =>
        obtain ⟨x, o'⟩ := x
        simp [hn] at h
        exact ih x u h.2 (nth_ok E i fs x o' hn hk)
    | idx i sl =>
      cases v <;> simp [get] at h
      exact ih _ u h.2 (ok_inst E i _ hk)

/-! ### Numbers as bits -/

theorem wrap_toZ (k : IntKind) (n : Int) : k.wrap n = toZ k (BitVec.ofInt k.bits n) := by
  cases k <;> simp [IntKind.wrap, toZ, IntKind.signed, IntKind.bits, BitVec.toInt_ofInt, Int.bmod_def] <;> omega

theorem ofInt_toZ (k : IntKind) (x : BitVec k.bits) : BitVec.ofInt k.bits (toZ k x) = x := by
  unfold toZ
  split
  · exact BitVec.ofInt_toInt
  · simp

theorem toZ_inj (k : IntKind) (x y : BitVec k.bits) (h : toZ k x = toZ k y) : x = y := by
  rw [← ofInt_toZ k x, h, ofInt_toZ]

/-- A number in bits: of a literal, if it is in its kind's range. -/
def toBV (k : IntKind) : AV → Option (Ix → BitVec k.bits)
  | .lit k' n => if k' == k && toZ k (BitVec.ofInt k.bits n) == n then some fun _ => BitVec.ofInt k.bits n else none
  | .int k' x => if h : k' = k then some (h ▸ x) else none
  | _ => none

theorem toBV_cells {k : IntKind} {v : AV} {x : Ix → BitVec k.bits} (h : toBV k v = some x) (E : Env) (ix : Ix) : cells E ix v = [.int k (toZ k (x ix))] := by
  cases v <;> simp [toBV] at h
  · obtain ⟨⟨rfl, h1⟩, rfl⟩ := h
    simp [cells, h1]
  · obtain ⟨rfl, rfl⟩ := h
    simp [cells]

def toBl : AV → Option (Ix → Bool)
  | .blit b => some fun _ => b
  | .bool b => some b
  | _ => none

theorem toBl_cells {v : AV} {x : Ix → Bool} (h : toBl v = some x) (E : Env) (ix : Ix) : cells E ix v = [.bool (x ix)] := by
  cases v <;> simp [toBl] at h <;> subst h <;> simp [cells]

def kindOf : AV → Option IntKind
  | .lit k _ => some k
  | .int k _ => some k
  | _ => none

/-! ### Writing one element of an array -/

/-- Of every leaf: at index i what u says, elsewhere what b says. -/
def mergeAt (i : Nat) : AV → AV → Option AV
  | .lit k n, u => match toBV k (.lit k n), toBV k u with
    | some x, some y => some (.int k fun
      | j :: r => if j = i then y r else x (j :: r)
      | [] => x [])
    | _, _ => none
  | .int k x, u => match toBV k u with
    | some y => some (.int k fun
      | j :: r => if j = i then y r else x (j :: r)
      | [] => x [])
    | none => none
  | .blit b, u => match toBl u with
    | some y => some (.bool fun
      | j :: r => if j = i then y r else b
      | [] => b)
    | none => none
  | .bool x, u => match toBl u with
    | some y => some (.bool fun
      | j :: r => if j = i then y r else x (j :: r)
      | [] => x [])
    | none => none
  | .nil, .nil => some .nil
  | .cons h t, .cons h' t' => match mergeAt i h h', mergeAt i t t' with
    | some a, some b => some (.cons a b)
    | _, _ => none
  | .agg fs, .agg fs' => (mergeAt i fs fs').map .agg
  | .arr n b, .arr n' b' => if n == n' then (mergeAt i b b').map (.arr n) else none
  | _, _ => none

theorem mergeAt_cells (E : Env) (i : Nat) : ∀ (b u m : AV), mergeAt i b u = some m → ∀ j ix, cells E (j :: ix) m = if j = i then cells E ix u else cells E (j :: ix) b := by
  intro b
  induction b with
  | lit k n =>
    intro u m h j ix
    simp only [mergeAt] at h
    cases hx : toBV k (.lit k n) with
    | none => simp [hx] at h
    | some x =>
      cases hy : toBV k u with
      | none => simp [hx, hy] at h
      | some y =>
        simp [hx, hy] at h
        subst h
        rw [toBV_cells hy, toBV_cells hx]
        simp only [cells]
        split <;> rfl
  | int k x =>
    intro u m h j ix
    simp only [mergeAt] at h
    cases hy : toBV k u with
    | none => simp [hy] at h
    | some y =>
      simp [hy] at h
      subst h
      rw [toBV_cells hy]
      simp only [cells]
      split <;> rfl
  | blit x =>
    intro u m h j ix
    simp only [mergeAt] at h
    cases hy : toBl u with
    | none => simp [hy] at h
    | some y =>
      simp [hy] at h
      subst h
      rw [toBl_cells hy]
      simp only [cells]
      split <;> rfl
  | bool x =>
    intro u m h j ix
    simp only [mergeAt] at h
    cases hy : toBl u with
    | none => simp [hy] at h
    | some y =>
      simp [hy] at h
      subst h
      rw [toBl_cells hy]
      simp only [cells]
      split <;> rfl
  | nil =>
    intro u m h j ix
    cases u <;> simp [mergeAt] at h
    subst h
    simp [cells]
  | cons a b iha ihb =>
    intro u m h j ix
    cases u <;> simp [mergeAt] at h
    rename_i a' b'
    cases ha : mergeAt i a a' with
    | none => simp [ha] at h
    | some x =>
      cases hb : mergeAt i b b' with
      | none => simp [ha, hb] at h
      | some y =>
        simp [ha, hb] at h
        subst h
        simp only [cells, iha _ _ ha j ix, ihb _ _ hb j ix]
        split <;> rfl
  | agg fs ih =>
    intro u m h j ix
    cases u <;> simp [mergeAt] at h
    obtain ⟨x, hx, rfl⟩ := h
    simp only [cells]
    exact ih _ _ hx j ix
  | arr n b ih =>
    intro u m h j ix
    cases u <;> simp [mergeAt] at h
    obtain ⟨rfl, x, hx, rfl⟩ := h
    simp only [cells, List.cons_append, ih _ _ hx]
    split <;> rfl
  | _ => intro u m h; cases u <;> simp [mergeAt] at h

theorem mergeAt_sz (i : Nat) : ∀ (b u m : AV), mergeAt i b u = some m → sz m = sz b := by
  intro b u m h
  have h1 := mergeAt_cells (fun _ => none) i b u m h (i + 1) []
  have h2 := length_cells (fun _ => none) m [i + 1]
  have h3 := length_cells (fun _ => none) b [i + 1]
  simp at h1
  rw [← h2, ← h3, h1]

theorem mergeAt_pf (i : Nat) : ∀ (b u m : AV), mergeAt i b u = some m → pf m = true := by
  intro b
  induction b with
  | lit k n =>
    intro u m h
    simp only [mergeAt] at h
    split at h <;> simp at h
    subst h; rfl
  | int k x =>
    intro u m h
    simp only [mergeAt] at h
    split at h <;> simp at h
    subst h; rfl
  | blit x =>
    intro u m h
    simp only [mergeAt] at h
    split at h <;> simp at h
    subst h; rfl
  | bool x =>
    intro u m h
    simp only [mergeAt] at h
    split at h <;> simp at h
    subst h; rfl
  | nil => intro u m h; cases u <;> simp [mergeAt] at h; subst h; rfl
  | cons a b iha ihb =>
    intro u m h
    cases u <;> simp [mergeAt] at h
    rename_i a' b'
    cases ha : mergeAt i a a' with
    | none => simp [ha] at h
    | some x =>
      cases hb : mergeAt i b b' with
      | none => simp [ha, hb] at h
      | some y =>
        simp [ha, hb] at h
        subst h
        simp [pf, iha _ _ ha, ihb _ _ hb]
  | agg fs ih =>
    intro u m h
    cases u <;> simp [mergeAt] at h
    obtain ⟨x, hx, rfl⟩ := h
    exact (ih _ x hx : pf x = true)
  | arr n b ih =>
    intro u m h
    cases u <;> simp [mergeAt] at h
    obtain ⟨rfl, x, hx, rfl⟩ := h
    exact (ih _ x hx : pf x = true)
  | _ => intro u m h; cases u <;> simp [mergeAt] at h

/-- A row of fields with one put anew. -/
def setNth : Nat → AV → AV → Option AV
  | 0, .cons h t, u => if sz u == sz h then some (.cons u t) else none
  | i + 1, .cons h t, u => (setNth i t u).map (.cons h)
  | _, _, _ => none

/-- A value with a place put anew. -/
def set : List Stp → AV → AV → Option AV
  | [], v, u => if sz u == sz v then some u else none
  | .fld i o :: p, .agg fs, u => match nth i fs with
    | some (x, o') => if o' == o then match set p x u with
      | some y => (setNth i fs y).map .agg
      | none => none
      else none
    | none => none
  | .idx i s :: p, .arr n b, u => if s == sz b then match set p (inst i b) u with
      | some y => (mergeAt i b y).map (.arr n)
      | none => none
      else none
  | _, _, _ => none

theorem setNth_cells (E : Env) (ix : Ix) : ∀ (i : Nat) (fs u fs' : AV), setNth i fs u = some fs' → ∀ (x : AV) (o : Nat), nth i fs = some (x, o) →
    ∀ pre post, cells E ix fs = pre ++ cells E ix x ++ post → pre.length = o → cells E ix fs' = pre ++ cells E ix u ++ post := by
  intro i
  induction i with
  | zero =>
    intro fs u fs' h x o hn pre post he hl
    cases fs <;> simp [setNth, nth] at h hn
    obtain ⟨rfl, rfl⟩ := hn
    obtain ⟨hs, rfl⟩ := h
    have : pre = [] := List.length_eq_zero_iff.1 hl
    subst this
    simp [cells] at he ⊢
    exact he
  | succ i ih =>
    intro fs u fs' h x o hn pre post he hl
    cases fs <;> simp [setNth, nth] at h hn
    rename_i hd tl
    obtain ⟨y, o', hy, rfl, rfl⟩ := hn
    obtain ⟨tl', ht, rfl⟩ := h
    obtain ⟨pre0, post0, he0, hl0⟩ := nth_cells E ix i tl y o' hy
    have h2 := ih tl u tl' ht y o' hy pre0 post0 he0 hl0
    simp only [cells, he0] at he
    have hlen : (cells E ix hd ++ pre0).length = pre.length := by simp [length_cells, hl0, hl]; omega
    have h3 : cells E ix hd ++ pre0 = pre ∧ cells E ix y ++ post0 = cells E ix y ++ post := by
      apply List.append_inj _ hlen
      simpa using he
    obtain ⟨rfl, h4⟩ := h3
    have h5 : post0 = post := List.append_cancel_left h4
    subst h5
    simp [cells, h2]

theorem flatMap_put {α : Type} (f g : Nat → List α) (m : Nat) (hf : ∀ i, (f i).length = m) (n i : Nat) (hi : i < n) (hg : ∀ j, j ≠ i → g j = f j)
    (pre post : List α) (he : (List.range n).flatMap f = pre ++ f i ++ post) (hl : pre.length = i * m) : (List.range n).flatMap g = pre ++ g i ++ post := by
  have h1 := range_split n i hi
  rw [h1] at he ⊢
  simp only [List.flatMap_append, List.flatMap_singleton] at he ⊢
  have e1 : (List.range i).flatMap g = (List.range i).flatMap f := by
    simp only [List.flatMap_def]
    rw [List.map_congr_left (fun j hj => hg j (by simp at hj; omega))]
  have e2 : ((List.range (n - (i + 1))).map (fun k => i + 1 + k)).flatMap g = ((List.range (n - (i + 1))).map (fun k => i + 1 + k)).flatMap f := by
    simp only [List.flatMap_def]
    rw [List.map_congr_left (fun j hj => hg j (by simp at hj; omega))]
  rw [e1, e2]
  have hlen : ((List.range i).flatMap f).length = pre.length := by
    rw [flatMap_len f m hf, hl]
    simp
  have h3 : (List.range i).flatMap f = pre ∧ f i ++ ((List.range (n - (i + 1))).map (fun k => i + 1 + k)).flatMap f = f i ++ post := by
    apply List.append_inj _ hlen
    simpa using he
  obtain ⟨h4, h5⟩ := h3
  rw [h4, List.append_cancel_left h5]

theorem set_sz : ∀ (p : List Stp) (v u v' : AV), set p v u = some v' → sz v' = sz v := by
  intro p
  induction p with
  | nil => intro v u v' h; cases v <;> simp [set] at h <;> (obtain ⟨h1, rfl⟩ := h; exact h1)
  | cons s p ih =>
    intro v u v' h
    cases s with
    | fld i o =>
      cases v <;> simp [set] at h
      rename_i fs
      cases hn : nth i fs with
      | none => simp [hn] at h
      | some x =>
        obtain ⟨x, o'⟩ := x
        simp [hn] at h
        obtain ⟨_, h⟩ := h
        cases hs : set p x u with
        | none => simp [hs] at h
        | some y =>
          simp [hs] at h
          obtain ⟨fs', hfs, rfl⟩ := h
          have hsy := ih x u y hs
          obtain ⟨pre, post, he, hl⟩ := nth_cells (fun _ => none) [] i fs x o' hn
          have h2 := setNth_cells (fun _ => none) [] i fs y fs' hfs x o' hn pre post he hl
          have a1 := length_cells (fun _ => none) fs' []
          have a2 := length_cells (fun _ => none) fs []
          rw [h2] at a1
          rw [he] at a2
          simp [length_cells] at a1 a2
          simp only [sz]
          omega
    | idx i sl =>
      cases v <;> simp [set] at h
      rename_i n b
      obtain ⟨rfl, h⟩ := h
      cases hs : set p (inst i b) u with
      | none => simp [hs] at h
      | some y =>
        simp [hs] at h
        obtain ⟨b', hb, rfl⟩ := h
        simp [sz, mergeAt_sz i b y b' hb]

theorem set_cells (E : Env) : ∀ (p : List Stp) (v u v' : AV), set p v u = some v' → getB p v →
    ∃ pre mid post, cells E [] v = pre ++ mid ++ post ∧ pre.length = offOf p ∧ mid.length = sz u ∧ cells E [] v' = pre ++ cells E [] u ++ post := by
  intro p
  induction p with
  | nil =>
    intro v u v' h _
    refine ⟨[], cells E [] v, [], by simp, rfl, ?_, ?_⟩
    · rw [length_cells]; cases v <;> simp [set] at h <;> (obtain ⟨h1, rfl⟩ := h; exact h1.symm)
    · cases v <;> simp [set] at h <;> simp [h]
  | cons s p ih =>
    intro v u v' h hb
    cases s with
    | fld i o =>
      cases v <;> simp [set] at h
      rename_i fs
      simp only [getB] at hb
      cases hn : nth i fs with
      | none => simp [hn] at h
      | some x =>
        obtain ⟨x, o'⟩ := x
        simp [hn] at h hb
        obtain ⟨ho, h⟩ := h
        subst ho
        cases hs : set p x u with
        | none => simp [hs] at h
        | some y =>
          simp [hs] at h
          obtain ⟨fs', hfs, rfl⟩ := h
          obtain ⟨pre, mid, post, he, hl, hm, he'⟩ := ih x u y hs hb
          obtain ⟨pre0, post0, he0, hl0⟩ := nth_cells E [] i fs x o' hn
          have h2 := setNth_cells E [] i fs y fs' hfs x o' hn pre0 post0 he0 hl0
          exact ⟨pre0 ++ pre, mid, post ++ post0, by simp [cells, he0, he], by simp [offOf, hl, hl0], hm, by simp [cells, h2, he']⟩
    | idx i sl =>
      cases v <;> simp [set] at h
      rename_i n b
      obtain ⟨rfl, h⟩ := h
      simp only [getB] at hb
      obtain ⟨hi, hb⟩ := hb
      cases hs : set p (inst i b) u with
      | none => simp [hs] at h
      | some y =>
        simp [hs] at h
        obtain ⟨b', hbm, rfl⟩ := h
        obtain ⟨pre, mid, post, he, hl, hm, he'⟩ := ih _ u y hs hb
        obtain ⟨pre0, post0, he0, hl0⟩ := flatMap_split (fun i => cells E [i] b) (sz b) (fun i => length_cells E b [i]) n i hi
        have hc := mergeAt_cells E i b y b' hbm
        have h2 := flatMap_put (fun i => cells E [i] b) (fun i => cells E [i] b') (sz b) (fun i => length_cells E b [i]) n i hi
          (fun j hj => by simp [hc, hj]) pre0 post0 he0 hl0
        rw [cells_inst] at he
        refine ⟨pre0 ++ pre, mid, post ++ post0, ?_, by simp [offOf, hl, hl0], hm, ?_⟩
        · simp only [cells, List.nil_append]
          rw [he0]
          simp [he]
        · simp only [cells, List.nil_append]
          rw [h2, hc]
          simp [he']

theorem setNth_ok (E : Env) : ∀ (i : Nat) (fs u fs' : AV), setNth i fs u = some fs' → ok E fs → ok E u → ok E fs' := by
  intro i
  induction i with
  | zero =>
    intro fs u fs' h hk hu
    cases fs <;> simp [setNth] at h
    obtain ⟨_, rfl⟩ := h
    exact ⟨hu, hk.2⟩
  | succ i ih =>
    intro fs u fs' h hk hu
    cases fs <;> simp [setNth] at h
    obtain ⟨x, hx, rfl⟩ := h
    exact ⟨hk.1, ih _ _ _ hx hk.2 hu⟩

theorem set_ok (E : Env) : ∀ (p : List Stp) (v u v' : AV), set p v u = some v' → ok E v → ok E u → ok E v' := by
  intro p
  induction p with
  | nil => intro v u v' h hk hu; cases v <;> simp [set] at h <;> (obtain ⟨_, rfl⟩ := h; exact hu)
  | cons s p ih =>
    intro v u v' h hk hu
    cases s with
    | fld i o =>
      cases v <;> simp [set] at h
      rename_i fs
      cases hn : nth i fs with
      | none => simp [hn] at h
      | some x =>
        obtain ⟨x, o'⟩ := x
        simp [hn] at h
        obtain ⟨_, h⟩ := h
        cases hs : set p x u with
        | none => simp [hs] at h
        | some y =>
          simp [hs] at h
          obtain ⟨fs', hfs, rfl⟩ := h
          exact setNth_ok E i fs y fs' hfs hk (ih x u y hs (nth_ok E i fs x o' hn hk) hu)
    | idx i sl =>
      cases v <;> simp [set] at h
      rename_i n b
      obtain ⟨rfl, h⟩ := h
      cases hs : set p (inst i b) u with
      | none => simp [hs] at h
      | some y =>
        simp [hs] at h
        obtain ⟨b', hbm, rfl⟩ := h
        exact ok_of_pf E _ (mergeAt_pf i b y b' hbm)

end Go.Rf
