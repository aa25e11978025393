/- One operation, before memory is asked. -/
import Derived.Test.YtigiedlngfkfbaaGreatRfA
import Derived.Laws.Externs
import Derived.KernelRfl
import Derived.Great.BuildSlice
import Derived.Laws.BytesString
import Derived.Laws.Strings
set_option linter.unusedVariables false
set_option linter.unusedSimpArgs false
namespace Go.Rf

inductive Eff where
  | val (v : AV) (o : Ob)
  | ld (n : Nat) (p : List Stp) (T : TypeId)
  | st (n : Nat) (p : List Stp) (T : TypeId) (u : AV)
  | new (T : TypeId) (v : AV) (s : Option Nat)
  | call (f : FuncId) (args : List AV)
  /-- The bytes of a slice, as a string. -/
  | cv (n : Nat) (p : List Stp) (len : AV)

/-- A string. -/
def strV (s : ByteArray) : AV := .raw [.string s] .nil [] (0, 0)
def strVal : AV → Option ByteArray
  | .raw [.string s] .nil [] _ => some s
  | _ => none
def strCmp : BinOp → ByteArray → ByteArray → Option Bool
  | .eql, s, t => some (s.toList == t.toList)
  | .neq, s, t => some !(s.toList == t.toList)
  | _, _, _ => none
def bytesStr (P : Program) (s d : TypeId) : Bool := match P.underlying s, P.underlying d with
  | some (.slice e), some .string => match P.underlying e with
    | some (.int .u8) => true
    | _ => false
  | _, _ => false
def cvOf (P : Program) (s d : TypeId) : AV → Option Eff
  | .slc n p len _ => if bytesStr P s d then some (.cv n p len) else none
  | .vsl _ _ => if bytesStr P s d then some (.val (strV ByteArray.empty) .tt) else none
  | _ => none

/-- What is known of a temporary. -/
def TRel (E : Env) (v : AV) (x : Value) : Prop :=
  match v with
  | .un | .gd _ _ => True
  | v => okT E v ∧ valT E v = x

theorem TRel_mono {E E' : Env} (hs : Sub E E') {v : AV} {x : Value} (h : TRel E v x) : TRel E' v x := by
  cases v <;> first
    | trivial
    | exact ⟨okT_mono hs h.1, (valT_mono hs h.1).trans h.2⟩

theorem TRel_of {E : Env} {v : AV} (h : ok E v) : TRel E v (val E v) := by
  cases v <;> first
    | exact h.elim
    | exact ⟨h, rfl⟩

/-- Of a plain value (no tuple). -/
theorem TRel_ok {E : Env} {v : AV} {x : Value} (h : TRel E v x) (hs : sca v = true ∨ big v = true) : ok E v ∧ val E v = x := by
  cases v <;> simp [sca, big] at hs <;> exact h

/-- What names a new block: a pointer, or a slice of all of it. -/
def newAV (n : Nat) : Option Nat → AV
  | none => .ptr n []
  | some c => .slc n [] (.lit .i64 c) c
def newVal (k : Nat) : Option Nat → Value
  | none => .pointer (some ⟨k, 0, none⟩)
  | some c => .slice (some ⟨k, 0, none⟩) c c
theorem newAV_rel {E : Env} {n k : Nat} (h : E n = some k) (s : Option Nat) : TRel E (newAV n s) (newVal k s) := by
  cases s with
  | none => exact ⟨by simp [newAV, okT, ok, h], by simp [newAV, valT, val, cells, h, offOf, newVal]⟩
  | some c => exact ⟨by simp [newAV, okT, ok, h], by simp [newAV, valT, val, cells, h, offOf, newVal, lenZ]⟩

def opd (look : Nat → AV) : Operand → AV
  | .tmp t => look t
  | .const (.int k n) => .lit k n
  | .const (.bool b) => .blit b
  | .const (.string s) => strV s
  | .const _ => .un
  | .func f => .fn f .nil
  | .global _ => .un

def caps : List AV → Option AV
  | [] => some .nil
  | v :: l => if sca v then (caps l).map (.cons v) else none

theorem caps_spec (E : Env) : ∀ (l : List AV) (c : AV), caps l = some c → (∀ v ∈ l, ok E v) → ok E c ∧ cells E [] c = l.map (val E) ∧ ∀ v ∈ l, sca v = true
  | [], c, h, _ => by simp [caps] at h; subst h; exact ⟨trivial, rfl, by simp⟩
  | v :: l, c, h, hk => by
    simp only [caps] at h
    split at h <;> simp at h
    rename_i hs
    obtain ⟨c', hc, rfl⟩ := h
    obtain ⟨h1, h2, h3⟩ := caps_spec E l c' hc (fun x hx => hk x (by simp [hx]))
    refine ⟨⟨hk v (by simp), h1⟩, ?_, ?_⟩
    · simp only [cells, cells_sca hs, h2, List.map_cons, List.singleton_append]
    · intro x hx
      simp at hx
      rcases hx with rfl | hx
      · exact hs
      · exact h3 x hx

/-- A row of one-cell values, as a list. -/
def lst : AV → Option (List AV)
  | .nil => some []
  | .cons h t => if sca h then (lst t).map (h :: ·) else none
  | _ => none

theorem lst_spec (E : Env) : ∀ (c : AV) (l : List AV), lst c = some l → ok E c → (∀ v ∈ l, ok E v ∧ sca v = true) ∧ cells E [] c = l.map (val E) := by
  intro c
  induction c with
  | nil => intro l h _; simp [lst] at h; subst h; exact ⟨by simp, rfl⟩
  | cons a b _ ih =>
    intro l h hk
    simp only [lst] at h
    split at h <;> simp at h
    rename_i hs
    obtain ⟨l', hl, rfl⟩ := h
    obtain ⟨h1, h2⟩ := ih l' hl hk.2
    refine ⟨?_, ?_⟩
    · intro x hx
      simp at hx
      rcases hx with rfl | hx
      · exact ⟨hk.1, hs⟩
      · exact h1 x hx
    · simp only [cells, cells_sca hs, h2, List.map_cons, List.singleton_append]
  | _ => intro l h; simp [lst] at h

def callable (P : Program) (f : FuncId) : Bool :=
  match P.funcs[f]? with
  | some fn => !(fn.name == "runtime.NumGoroutine") && fn.body.isSome
  | none => false

theorem callFunc_run {P : Program} {f : FuncId} (h : callable P f = true) (args : Array Value) (w : World) : (callFunc f args).run P w = .ok (.enter f args) w := by
  unfold callable at h
  split at h <;> try (simp at h; done)
  rename_i fn hf
  simp only [Bool.and_eq_true, Bool.not_eq_true'] at h
  obtain ⟨h1, h2⟩ := h
  have h3 : fn.body.isNone = false := by cases hb : fn.body <;> simp_all
  simp only [callFunc, Sem.run_bind, run_program, Result.andThen_ok, hf, h1, h3, Bool.false_eq_true, if_false, Sem.run_pure]

def nthV : Nat → AV → Option AV
  | 0, .cons h _ => some h
  | i + 1, .cons _ t => nthV i t
  | _, _ => none

theorem nthV_spec (E : Env) : ∀ (i : Nat) (fs u : AV), nthV i fs = some u → okl E fs → ok E u ∧ (vals E fs)[i]? = some (val E u) := by
  intro i
  induction i with
  | zero =>
    intro fs u h hk
    cases fs <;> simp [nthV] at h
    subst h
    exact ⟨hk.1, by simp [vals]⟩
  | succ i ih =>
    intro fs u h hk
    cases fs <;> simp [nthV] at h
    obtain ⟨h1, h2⟩ := ih _ u h hk.2
    exact ⟨h1, by simp [vals, h2]⟩

def fieldOf (P : Program) (S : TypeId) (i : Nat) : Option Field :=
  match P.underlying S with
  | some (.struct fs) => fs[i]?
  | _ => none

/-- An index: how it is told, and that it is below n. -/
def idxAV (n : Nat) : AV → Option (Nat × Ob)
  | .lit k i => if 0 ≤ i && i < n then some (i.toNat, .tt) else none
  | .int k x => some ((toZ k (x [])).toNat, .pr (0 ≤ toZ k (x []) ∧ toZ k (x []) < n))
  | _ => none

theorem idxAV_spec {n : Nat} {v : AV} {i : Nat} {o : Ob} (h : idxAV n v = some (i, o)) (ho : o.holds) (E : Env) : ∃ k z, val E v = .int k z ∧ 0 ≤ z ∧ z < n ∧ z.toNat = i ∧ i < n := by
  cases v <;> simp [idxAV] at h
  · obtain ⟨⟨h1, h2⟩, rfl, rfl⟩ := h
    exact ⟨_, _, rfl, h1, h2, rfl, by omega⟩
  · obtain ⟨rfl, rfl⟩ := h
    simp only [Ob.holds] at ho
    exact ⟨_, _, rfl, ho.1, ho.2, rfl, by omega⟩

/-- An index of a slice. -/
def idxS : AV → AV → Option (Nat × Ob)
  | .lit .i64 L, v => if 0 ≤ L then idxAV L.toNat v else none
  | .int .i64 f, v => match kindOf v with
    | some k => match toBV k v with
      | some x => some ((toZ k (x [])).toNat, .pr (0 ≤ toZ k (x []) ∧ toZ k (x []) < toZ .i64 (f [])))
      | none => none
    | none => none
  | _, _ => none

theorem idxS_spec {len v : AV} {i : Nat} {o : Ob} (h : idxS len v = some (i, o)) (ho : o.holds) (E : Env) : ∃ k z, val E v = .int k z ∧ 0 ≤ z ∧ z < ((lenZ [] len).toNat : Int) ∧ z.toNat = i ∧ sca v = true := by
  unfold idxS at h
  split at h <;> try (simp at h; done)
  · rename_i L
    split at h <;> try (simp at h; done)
    obtain ⟨k, z, h1, h2, h3, h4, _⟩ := idxAV_spec h ho E
    refine ⟨k, z, h1, h2, ?_, h4, ?_⟩
    · simpa [lenZ] using h3
    · cases v <;> simp [idxAV] at h <;> rfl
  · rename_i f
    split at h <;> try (simp at h; done)
    rename_i k hk
    split at h <;> try (simp at h; done)
    rename_i x hx
    simp at h
    obtain ⟨rfl, rfl⟩ := h
    simp only [Ob.holds] at ho
    refine ⟨k, toZ k (x []), val_toBV hx E, ho.1, ?_, rfl, ?_⟩
    · simp only [lenZ]; omega
    · cases v <;> simp [kindOf] at hk <;> rfl

/-- How long a slice is told to be. -/
def lenAV : AV → Option (AV × Ob)
  | .lit .i64 n => if 0 ≤ n && n < 9223372036854775808 then some (.lit .i64 n, .tt) else none
  | .int .i64 f => some (.int .i64 f, .pr (0 ≤ toZ .i64 (f [])))
  | _ => none
theorem lenAV_spec {len r : AV} {o : Ob} (h : lenAV len = some (r, o)) (ho : o.holds) (E : Env) : ok E r ∧ val E r = goInt ((lenZ [] len).toNat) := by
  unfold lenAV at h
  split at h <;> try (simp at h; done)
  · rename_i n
    split at h <;> simp at h
    rename_i hc
    obtain ⟨rfl, rfl⟩ := h
    simp at hc
    refine ⟨trivial, ?_⟩
    show Value.int .i64 n = Value.int .i64 _
    have : (((lenZ [] (.lit .i64 n)).toNat : Nat) : Int) = n := by simp only [lenZ]; omega
    rw [this]
  · rename_i f
    simp at h
    obtain ⟨rfl, rfl⟩ := h
    refine ⟨trivial, ?_⟩
    show Value.int .i64 (toZ .i64 (f [])) = Value.int .i64 _
    have : (((lenZ [] (.int .i64 f)).toNat : Nat) : Int) = toZ .i64 (f []) := by
      simp only [lenZ]
      simp only [Ob.holds] at ho
      omega
    rw [this]

/-- Nothing but literals. -/
def clos : AV → Bool
  | .lit _ _ | .blit _ | .nil => true
  | .cons h t => clos h && clos t
  | .agg fs => clos fs
  | .arr _ b => clos b
  | _ => false
theorem clos_ix (E : Env) : ∀ (v : AV), clos v = true → ∀ ix ix', cells E ix v = cells E ix' v := by
  intro v
  induction v with
  | cons a b iha ihb => intro h ix ix'; simp [clos] at h; simp only [cells, iha h.1 ix ix', ihb h.2 ix ix']
  | agg fs ih => intro h ix ix'; exact ih h ix ix'
  | arr n b ih => intro h ix ix'; simp only [cells]; congr 1; funext i; exact ih h _ _
  | _ => intro h ix ix'; first | rfl | (simp [clos] at h)

/-- A row of so many, of which these are said. -/
def rowAV (P : Program) (e : TypeId) (len : Nat) (parts : List (Nat × AV)) : Option AV :=
  match zeroAV P e with
  | some z => if (P.info? e).map (·.size) == some (sz z) && (P.info? e).isSome && !(sz z == 0) && !(len == 0) && len * sz z ≤ 16777216 && clos z then putParts P (.array len e) (.arr len z) parts else none
  | none => none

theorem range_rep {α : Type} [Inhabited α] (l : List α) (h : 0 < l.length) : ∀ n, (List.range (n * l.length)).map (fun i => l[i % l.length]!) = (List.range n).flatMap fun _ => l := by
  intro n
  induction n with
  | zero => simp
  | succ n ih =>
    rw [Nat.succ_mul, List.range_add, List.map_append, ih, List.range_succ, List.flatMap_append]
    congr 1
    rw [List.map_map]
    simp only [List.flatMap_cons, List.flatMap_nil, List.append_nil]
    apply List.ext_getElem
    · simp
    · intro i h1 h2
      simp only [List.length_map, List.length_range] at h1
      simp [Nat.mod_eq_of_lt h1, h1]

theorem rowAV_run {P : Program} {T e : TypeId} {len : Nat} {parts : List (Nat × AV)} {r : AV} (hu : P.underlying T = some (.slice e)) (h : rowAV P e len parts = some r) (E : Env) (hps : ∀ x ∈ parts, ok E x.2) (w : World) :
    (Instr.buildSlice T len (parts.map fun x => (x.1, val E x.2)).toArray).run P w = .ok (newVal w.heap.size (some len)) (w.alloc (.cells (cells E [] r).toArray e)) ∧ ok E r := by
  unfold rowAV at h
  split at h <;> try (simp at h; done)
  rename_i z hz
  split at h <;> try (simp at h; done)
  rename_i hc
  simp only [Bool.and_eq_true, Bool.not_eq_true', beq_eq_false_iff_ne, decide_eq_true_eq, beq_iff_eq] at hc
  obtain ⟨⟨⟨⟨⟨hsz, hi⟩, hz0⟩, hl0⟩, hsm⟩, hcl⟩ := hc
  obtain ⟨v, hv, hvc, hvo⟩ := zeroAV_spec hz
  obtain ⟨ie, hie⟩ := Option.isSome_iff_exists.1 hi
  have hsz' : ie.size = sz z := by simpa [hie] using hsz
  have key := putParts_fill (P := P) E (.array len e) (fun i => some (i * ie.size, ie.size)) (by
    intro i s hs
    simp [szT, hie] at hs
    simp [hs]) parts (.arr len z) r h (show ok E z from hvo E) hps
  refine ⟨?_, key.2.1⟩
  have hzero : ∃ v', ie.zero = some v' ∧ v' = v := by
    have := hv w
    cases hq : ie.zero with
    | none => simp [zeroValue, typeInfo, hie, hq] at this
    | some v' => simp [zeroValue, typeInfo, hie, hq] at this; exact ⟨v', rfl, this⟩
  obtain ⟨v', hv', rfl⟩ := hzero
  refine run_buildSlice w T e len _ (cells E [] r).toArray ie v' hu hie hv' (by rw [hsz']; omega) (by rw [hsz']; exact Nat.mul_ne_zero hl0 hz0) ?_
  have hlen : (cells E [] z).length = sz z := length_cells E z []
  have e2 : ((Array.range (len * ie.size)).map fun i => v'.cells[i % v'.cells.size]!) = (cells E [] (.arr len z)).toArray := by
    apply Array.ext'
    rw [hvc E, hsz']
    have := range_rep (cells E [] z) (by rw [hlen]; omega) len
    rw [hlen] at this
    simp only [Array.toList_map, Array.toList_range, List.size_toArray, hlen, List.getElem!_toArray]
    rw [this]
    simp only [cells, List.nil_append]
    have same : ∀ i, cells E [i] z = cells E [] z := fun i => clos_ix E z hcl _ _
    simp only [same]
  rw [e2]
  simpa using key.1

def foldMin (mn : Bool) : AV → List AV → Option AV
  | v, [] => some v
  | v, u :: l => match minAV mn v u with
    | some r => foldMin mn r l
    | none => none

/-- A test's answer out of two, symbolic or not. -/
def pickAV (c x y : AV) : AV :=
  match c with
  | .blit true => x
  | .blit false => y
  | .bool b => match x, y with
    | .blit true, .blit true => .blit true
    | .blit true, .bool g => .bool fun ix => b ix || g ix
    | .blit true, .blit false => .bool b
    | .bool g, .blit false => .bool fun ix => b ix && g ix
    | .blit false, .blit false => .blit false
    | x, y => match toBl x, toBl y with
      | some f, some g => .bool fun ix => bif b ix then f ix else g ix
      | _, _ => .un
  | _ => .un

def isBool (P : Program) (T : TypeId) : Bool := match P.underlying T with | some .bool => true | _ => false

def boolEq (op : BinOp) (a b : AV) : Option AV :=
  match op with
  | .eql => match a, b with
    | .blit x, .blit y => some (.blit (x == y))
    | _, _ => match toBl a, toBl b with
      | some f, some g => some (.bool fun ix => f ix == g ix)
      | _, _ => none
  | .neq => match a, b with
    | .blit x, .blit y => some (.blit (x != y))
    | _, _ => match toBl a, toBl b with
      | some f, some g => some (.bool fun ix => f ix != g ix)
      | _, _ => none
  | _ => none

def notAV : AV → AV
  | .blit b => .blit (!b)
  | .bool f => .bool fun ix => !(f ix)
  | _ => .un

def bigEq (P : Program) (op : BinOp) (T : TypeId) (a b : AV) : Option AV :=
  if tyOk P 12 T a && tyOk P 12 T b && !P.eqGuardType P.depth T then
    match op with
    | .eql => eqAV a b
    | .neq => (eqAV a b).map notAV
    | _ => none
  else none

def strOf : Operand → Option ByteArray
  | .const (.string s) => some s
  | _ => none
def byteAt (s : ByteArray) (n : Nat) : Nat := match s[n]? with
  | some b => b.toNat
  | none => 0

/-- Go's two sums with a carry, of which the model has entries: with no carry handed in. -/
def lo0 : AV → Bool
  | .lit .u64 0 => true
  | _ => false
def carryB (x y : BitVec 64) : BitVec 64 := bif (x + y).ult x then 1#64 else 0#64
def borrowB (x y : BitVec 64) : BitVec 64 := bif x.ult y then 1#64 else 0#64
def extKind (P : Program) (g : FuncId) : Nat :=
  match P.funcs[g]? with
  | some fn => if fn.body.isNone && (Extern.findNext fn).isNone then (if fn.name == "math/bits.Add64" then 1 else if fn.name == "math/bits.Sub64" then 2 else 0) else 0
  | none => 0
def extAV (P : Program) (g : FuncId) : List AV → Option AV
  | [x, y, c] => if lo0 c then match toBV .u64 x, toBV .u64 y with
    | some x, some y => match extKind P g with
      | 1 => some (.tup (.cons (.int .u64 fun ix => x ix + y ix) (.cons (.int .u64 fun ix => carryB (x ix) (y ix)) .nil)))
      | 2 => some (.tup (.cons (.int .u64 fun ix => x ix - y ix) (.cons (.int .u64 fun ix => borrowB (x ix) (y ix)) .nil)))
      | _ => none
    | _, _ => none
    else none
  | _ => none

/-- The model's entry for Sub64. -/
def subEntry : Array Value → Sem Value := (Extern.MathBitsCarry.rows.getD 1 ("", fun _ => pure .nilIface)).2

theorem run_sub {P : Program} (x y : Nat) (w : World) : (subEntry #[.int .u64 x, .int .u64 y, .int .u64 0]).run P w =
    .ok (.tuple #[.int .u64 (((x + 18446744073709551616 - y - 0) % 18446744073709551616 : Nat) : Int), .int .u64 ((if x < y + 0 then 1 else 0 : Nat) : Int)]) w := rfl

theorem find_add {fn : Func} (h : fn.name = "math/bits.Add64") : Extern.find fn = some add64Entry := by
  unfold Extern.find
  rw [h]
  kernel_rfl
theorem find_sub {fn : Func} (h : fn.name = "math/bits.Sub64") : Extern.find fn = some subEntry := by
  unfold Extern.find
  rw [h]
  kernel_rfl

theorem extKind_run {P : Program} {g : FuncId} {k : Nat} (h : extKind P g = k) (hk : k ≠ 0) (args : Array Value) (w : World) :
    (k = 1 ∧ (callFunc g args).run P w = ((add64Entry args).run P w).andThen fun v w' => .ok (.value v) w') ∨
    (k = 2 ∧ (callFunc g args).run P w = ((subEntry args).run P w).andThen fun v w' => .ok (.value v) w') := by
  unfold extKind at h
  split at h
  · rename_i fn hf
    split at h
    · rename_i hc
      simp only [Bool.and_eq_true, Option.isNone_iff_eq_none] at hc
      split at h
      · rename_i hn
        simp at hn
        left
        refine ⟨h.symm, run_callFunc_extern hf (by rw [hn]; rfl) (by simp [hc.1]) hc.2 (find_add hn) args w⟩
      · split at h
        · rename_i hn
          simp at hn
          right
          refine ⟨h.symm, run_callFunc_extern hf (by rw [hn]; rfl) (by simp [hc.1]) hc.2 (find_sub hn) args w⟩
        · exact absurd h.symm hk
    · exact absurd h.symm hk
  · exact absurd h.symm hk

theorem carry_nat (x y : BitVec 64) : ((carryB x y).toNat : Int) = ((x.toNat : Int) + y.toNat + 0) / 18446744073709551616 := by
  unfold carryB
  have hx := x.isLt
  have hy := y.isLt
  have e : (x + y).ult x = decide (2 ^ 64 ≤ x.toNat + y.toNat) := by
    rw [Bool.eq_iff_iff]
    simp only [BitVec.ult, BitVec.toNat_add, decide_eq_true_eq]
    omega
  rw [e]
  by_cases h : 2 ^ 64 ≤ x.toNat + y.toNat
  · rw [decide_eq_true h]
    show ((1 : Nat) : Int) = _
    omega
  · rw [decide_eq_false h]
    show ((0 : Nat) : Int) = _
    omega

theorem addc_nat (x y : BitVec 64) : (((x + y).toNat : Nat) : Int) = ((x.toNat : Int) + y.toNat + 0) % 18446744073709551616 := by
  rw [BitVec.toNat_add]
  omega
theorem subc_nat (x y : BitVec 64) : (((x - y).toNat : Nat) : Int) = (((x.toNat + 18446744073709551616 - y.toNat - 0) % 18446744073709551616 : Nat) : Int) := by
  rw [BitVec.toNat_sub]
  have := y.isLt
  congr 1
  omega
theorem borrow_nat (x y : BitVec 64) : (((borrowB x y).toNat : Nat) : Int) = ((if x.toNat < y.toNat + 0 then 1 else 0 : Nat) : Int) := by
  unfold borrowB BitVec.ult
  by_cases hlt : x.toNat < y.toNat
  · rw [decide_eq_true hlt, if_pos (by omega)]; rfl
  · rw [decide_eq_false hlt, if_neg (by omega)]; rfl

theorem extAV_run {P : Program} {g : FuncId} {l : List AV} {v : AV} (h : extAV P g l = some v) (E : Env) (w : World) :
    (callFunc g (l.map (val E)).toArray).run P w = .ok (.value (valT E v)) w ∧ TRel E v (valT E v) ∧ (∀ x ∈ l, sca x = true) := by
  unfold extAV at h
  split at h <;> try (simp at h; done)
  rename_i x y c
  split at h <;> try (simp at h; done)
  rename_i hc
  split at h <;> try (simp at h; done)
  rename_i p q hp hq
  have ec : c = .lit .u64 0 := by
    cases c <;> simp only [lo0] at hc <;> first | exact absurd hc (by decide) | skip
    rename_i k n
    split at hc <;> simp_all
  subst ec
  have hs : ∀ z ∈ [x, y, AV.lit .u64 0], sca z = true := by
    intro z hz
    simp at hz
    rcases hz with rfl | rfl | rfl
    · cases z <;> simp [toBV] at hp <;> rfl
    · cases z <;> simp [toBV] at hq <;> rfl
    · rfl
  have e3 : ([x, y, AV.lit .u64 0].map (val E)).toArray = #[.int .u64 ((p []).toNat : Int), .int .u64 ((q []).toNat : Int), .int .u64 0] := by
    simp only [List.map_cons, List.map_nil, val_toBV hp, val_toBV hq]
    rfl
  have px := (p []).isLt
  have qx := (q []).isLt
  split at h
  · rename_i hk
    simp at h
    subst h
    refine ⟨?_, ⟨⟨trivial, trivial, trivial⟩, rfl⟩, hs⟩
    rcases extKind_run hk (by decide) ([x, y, AV.lit .u64 0].map (val E)).toArray w with ⟨_, hr⟩ | ⟨h2, _⟩
    · rw [hr, e3, run_add64 _ _ 0 (by omega) (by omega) (by decide) (by decide)]
      simp only [Result.andThen, valT, vals, val, cells, List.headD_cons]
      have e1 : toZ .u64 (p [] + q []) = (((p []).toNat : Int) + (q []).toNat + 0) % 18446744073709551616 := addc_nat (p []) (q [])
      have e2 : toZ .u64 (carryB (p []) (q [])) = (((p []).toNat : Int) + (q []).toNat + 0) / 18446744073709551616 := carry_nat _ _
      rw [e1, e2]
    · exact absurd h2 (by decide)
  · rename_i hk
    simp at h
    subst h
    refine ⟨?_, ⟨⟨trivial, trivial, trivial⟩, rfl⟩, hs⟩
    rcases extKind_run hk (by decide) ([x, y, AV.lit .u64 0].map (val E)).toArray w with ⟨h2, _⟩ | ⟨_, hr⟩
    · exact absurd h2 (by decide)
    · rw [hr, e3]
      rw [run_sub (P := P) (p []).toNat (q []).toNat w]
      simp only [Result.andThen, valT, vals, val, cells, List.headD_cons]
      have e1 : toZ .u64 (p [] - q []) = ((((p []).toNat + 18446744073709551616 - (q []).toNat - 0) % 18446744073709551616 : Nat) : Int) := subc_nat (p []) (q [])
      have e2 : toZ .u64 (borrowB (p []) (q [])) = ((if (p []).toNat < (q []).toNat + 0 then 1 else 0 : Nat) : Int) := borrow_nat (p []) (q [])
      rw [e1, e2]
  · simp at h

def eff (P : Program) (ρ : Operand → AV) (op : Op) : Option Eff :=
  match op with
  | .move x | .assign x => some (.val (ρ x) .tt)
  | .alloc T => (zeroAV P T).map fun v => .new T v none
  | .box T x => if sca (ρ x) || big (ρ x) then some (.new T (ρ x) none) else none
  | .buildSlice T len parts => match P.underlying T with
    | some (.slice e) => (rowAV P e len (parts.toList.map fun x => (x.1, ρ x.2))).map fun v => .new e v (some len)
    | _ => none
  | .slice T x lo hi mx => match lo, hi, mx with
    | none, none, none => match ρ x, P.underlying T with
      | .ptr n p, some (.array len e) => match szT P e with
        | some _ => some (.val (.slc n p (.lit .i64 len) len) .tt)
        | none => none
      | _, _ => none
    | _, _, _ => none
  | .build T parts => (buildAV P T (parts.toList.map fun x => (x.1, ρ x.2))).map (.val · .tt)
  | .load T x => match ρ x with
    | .ptr n p => some (.ld n p T)
    | _ => none
  | .store T x y => if sca (ρ y) || big (ρ y) then match ρ x with
    | .ptr n p => some (.st n p T (ρ y))
    | _ => none
    else none
  | .nilCheck x => match ρ x with
    | .ptr n p => some (.val (.ptr n p) .tt)
    | _ => none
  | .binOp op T x y _ =>
    if big (ρ x) then (bigEq P op T (ρ x) (ρ y)).map (.val · .tt)
    else if isBool P T then (boolEq op (ρ x) (ρ y)).map (.val · .tt)
    else match strVal (ρ x), strVal (ρ y) with
      | some s, some t => (strCmp op s t).map fun b => .val (.bool fun _ => b) .tt
      | _, _ => (binInt op (ρ x) (ρ y)).map fun r => .val r.1 r.2
  | .unOp op _ x => (unAV op (ρ x)).map (.val · .tt)
  | .convert s d x => match cvOf P s d (ρ x) with
    | some e => some e
    | none => (convAV P s d (ρ x)).map (.val · .tt)
  | .makeFunc (.func f) first cap => if first.isEmpty then (caps (cap.toList.map ρ)).map fun c => .val (.fn f c) .tt else none
  | .fieldAddr S x i => match ρ x, fieldOf P S i with
    | .ptr n p, some f => match szT P f.type with
      | some s => if s == 0 then none else some (.val (.ptr n (p ++ [.fld i f.offset])) .tt)
      | none => none
    | _, _ => none
  | .field S x i => match ρ x, fieldOf P S i with
    | .agg fs, some f => match nth i fs with
      | some (u, o) => if o == f.offset && fits P f.type u then some (.val u .tt) else none
      | none => none
    | _, _ => none
  | .indexAddr T x i => match ρ x, P.underlying T with
    | .ptr n p, some (.array len e) => match idxAV len (ρ i), szT P e with
      | some (j, o), some s => some (.val (.ptr n (p ++ [.idx j s])) o)
      | _, _ => none
    | .slc n p len _, some (.slice e) => match idxS len (ρ i), szT P e with
      | some (j, o), some s => some (.val (.ptr n (p ++ [.idx j s])) o)
      | _, _ => none
    | _, _ => none
  | .index T x i => match strOf x with
    | some s => match P.underlying T, ρ i with
      | some .string, .int k y => some (.val (.int .u8 fun ix => BitVec.ofNat 8 (byteAt s (toZ k (y ix)).toNat)) (.pr (0 ≤ toZ k (y []) ∧ toZ k (y []) < (s.size : Int))))
      | _, _ => none
    | none => match ρ x, P.underlying T with
      | .arr m b, some (.array len e) => if m == len && fits P e b then match idxAV len (ρ i) with
        | some (j, o) => some (.val (inst j b) o)
        | none => none
        else none
      | _, _ => none
  | .extract t i => match ρ t with
    | .tup fs => (nthV i fs).map (.val · .tt)
    | _ => none
  | .call c => match c.callee with
    | .value f => match ρ f with
      | .fn g cap => match lst cap with
        | some l => if callable P g && (c.args.toList.all fun x => sca (ρ x) || big (ρ x)) then some (.call g (c.args.toList.map ρ ++ l))
          else if l.isEmpty then (extAV P g (c.args.toList.map ρ)).map (.val · .tt) else none
        | none => none
      | _ => none
    | .builtin .min => match c.args.toList.map ρ with
      | v :: l => if sca v && !l.isEmpty then (foldMin true v l).map (.val · .tt) else none
      | [] => none
    | .builtin .max => match c.args.toList.map ρ with
      | v :: l => if sca v && !l.isEmpty then (foldMin false v l).map (.val · .tt) else none
      | [] => none
    | .builtin .len => match c.args.toList, c.argTypes.toList with
      | [x], [T] => match ρ x, P.underlying T with
        | .slc _ _ len _, some (.slice _) => (lenAV len).map fun r => .val r.1 r.2
        | .vsl _ _, some (.slice _) => some (.val (.lit .i64 0) .tt)
        | _, _ => none
      | _, _ => none
    | _ => none
  | _ => none

/-- What a run of the operation is, for an effect. -/
def EffRun (P : Program) (E : Env) (a : Act) (o : Oper) : Eff → Prop
  | .val v ob => ob.holds → ∃ x, TRel E v x ∧ ∀ w, (execOp a.eval o).run P w = .ok (.value x) w
  | .ld n p T => ∃ b, E n = some b ∧ ∀ w, (execOp a.eval o).run P w = ((loadVar T ⟨b, offOf p, none⟩).run P w).andThen fun v w' => .ok (.value v) w'
  | .st n p T u => ∃ b, E n = some b ∧ ok E u ∧ (sca u = true ∨ big u = true) ∧
      ∀ w, (execOp a.eval o).run P w = ((storeVar T ⟨b, offOf p, none⟩ (val E u)).run P w).andThen fun _ w' => .ok .skip w'
  | .new T v s => ok E v ∧ ∀ w, (execOp a.eval o).run P w = .ok (.value (newVal w.heap.size s)) (w.alloc (.cells (cells E [] v).toArray T))
  | .call f args => (∀ v ∈ args, ok E v) ∧ ∀ w, (execOp a.eval o).run P w = .ok (.enter f (args.map (val E)).toArray) w
  | .cv n p len => ∃ b cap, E n = some b ∧ ∀ w, (execOp a.eval o).run P w = ((Conv.bytesToString (.slice (some ⟨b, offOf p, none⟩) (lenZ [] len).toNat cap)).run P w).andThen fun v w' => .ok (.value v) w'

theorem sca_big {v : AV} (h : (sca v || big v) = true) : sca v = true ∨ big v = true := by simpa using h

theorem val_ptr_run {E : Env} {n : Nat} {p : List Stp} {x : Value} (h : TRel E (.ptr n p) x) : ∃ b, E n = some b ∧ x = .pointer (some ⟨b, offOf p, none⟩) := by
  obtain ⟨h1, h2⟩ := h
  simp only [okT, ok] at h1
  cases hE : E n with
  | none => simp [hE] at h1
  | some b =>
    refine ⟨b, rfl, ?_⟩
    rw [← h2]
    simp [valT, val, cells, hE]

theorem val_slc_run {E : Env} {n : Nat} {p : List Stp} {len : AV} {cap : Nat} {x : Value} (h : TRel E (.slc n p len cap) x) : ∃ b, E n = some b ∧ x = .slice (some ⟨b, offOf p, none⟩) (lenZ [] len).toNat cap := by
  obtain ⟨h1, h2⟩ := h
  simp only [okT, ok] at h1
  cases hE : E n with
  | none => simp [hE] at h1
  | some b =>
    refine ⟨b, rfl, ?_⟩
    rw [← h2]
    simp [valT, val, cells, hE]

theorem binInt_sca {op : BinOp} {a b : AV} {r : AV × Ob} (h : binInt op a b = some r) : sca a = true ∧ sca b = true := by
  unfold binInt at h
  split at h
  · rename_i hl
    cases a <;> cases b <;> simp [bothLit] at hl
    simp [sca]
  · split at h <;> try (simp at h; done)
    rename_i ha hb
    constructor
    · cases a <;> simp [kindOf] at ha <;> rfl
    · cases b <;> simp [kindOf] at hb <;> rfl

theorem toBl_sca {v : AV} {f : Ix → Bool} (h : toBl v = some f) : sca v = true := by
  cases v <;> simp [toBl] at h <;> rfl

theorem boolEq_run {P : Program} {op : BinOp} {T : TypeId} {a b r : AV} (h : boolEq op a b = some r) (hT : isBool P T = true) (E : Env) (w : World) :
    (binOp op T (val E a) (val E b)).run P w = .ok (val E r) w ∧ ok E r := by
  have hu : P.underlying T = some .bool := by
    unfold isBool at hT
    split at hT <;> simp_all
  have he : ∀ x y : Bool, (binOp .eql T (.bool x) (.bool y)).run P w = .ok (.bool (x == y)) w := by
    intro x y
    simp [binOp, run_equal_bool w T x y hu]
  have hn : ∀ x y : Bool, (binOp .neq T (.bool x) (.bool y)).run P w = .ok (.bool (x != y)) w := by
    intro x y
    simp [binOp, run_equal_bool w T x y hu, bne]
  unfold boolEq at h
  split at h <;> try (simp at h; done)
  · split at h
    · simp at h; subst h
      exact ⟨he _ _, trivial⟩
    · split at h <;> simp at h
      rename_i f g hf hg
      subst h
      rw [val_toBl hf, val_toBl hg]
      exact ⟨he _ _, trivial⟩
  · split at h
    · simp at h; subst h
      exact ⟨hn _ _, trivial⟩
    · split at h <;> simp at h
      rename_i f g hf hg
      subst h
      rw [val_toBl hf, val_toBl hg]
      exact ⟨hn _ _, trivial⟩

theorem boolEq_sca {op : BinOp} {a b r : AV} (h : boolEq op a b = some r) : sca a = true ∧ sca b = true := by
  unfold boolEq at h
  split at h <;> try (simp at h; done)
  all_goals (split at h; · simp [sca])
  all_goals (split at h <;> simp at h; rename_i f g hf hg; exact ⟨toBl_sca hf, toBl_sca hg⟩)

theorem tyOk_big {P : Program} {d : Nat} {T : TypeId} {v : AV} (h : tyOk P d T v = true) : sca v = true ∨ big v = true := by
  cases d with
  | zero => simp [tyOk] at h
  | succ d =>
    simp only [tyOk] at h
    split at h <;> simp_all [sca, big]

theorem eqAV_big {a b r : AV} (h : eqAV a b = some r) (ha : big a = true) : big b = true := by
  cases a <;> simp [big] at ha <;> cases b <;> simp [eqAV] at h <;> rfl

theorem bv_val {r : AV} (h : isBl r = true) (E : Env) : val E r = .bool (bv r []) ∧ ok E r := by
  cases r <;> simp [isBl] at h <;> exact ⟨rfl, trivial⟩

theorem bigEq_run {P : Program} {op : BinOp} {T : TypeId} {a b r : AV} (h : bigEq P op T a b = some r) (ha : big a = true) (E : Env) (x y : Operand) (w : World) :
    ((do eqGuard op T x y (val E a) (val E b); binOp op T (val E a) (val E b)) : Sem Value).run P w = .ok (val E r) w ∧ ok E r := by
  unfold bigEq at h
  split at h <;> try (simp at h; done)
  rename_i hc
  simp only [Bool.and_eq_true, Bool.not_eq_true'] at hc
  obtain ⟨⟨h1, h2⟩, h3⟩ := hc
  split at h <;> try (simp at h; done)
  · have hb := eqAV_big h ha
    have hr := eqAV_isBl _ _ _ h
    have := equalIn_run E 12 T a b r h1 h2 h 10000 (by omega) [] w
    rw [← val_eq, ← val_eq] at this
    rw [(bv_val hr E).1]
    refine ⟨?_, (bv_val hr E).2⟩
    rw [val_big ha, val_big hb] at this ⊢
    rw [Sem.run_bind, run_eqGuard_agg w _ T x y _ _ h3]
    simp only [Result.andThen_ok]
    rw [run_eql_struct, this]
    rfl
  · simp only [Option.map_eq_some_iff] at h
    obtain ⟨r', h, rfl⟩ := h
    have hb := eqAV_big h ha
    have hr := eqAV_isBl _ _ _ h
    have := equalIn_run E 12 T a b r' h1 h2 h 10000 (by omega) [] w
    rw [← val_eq, ← val_eq] at this
    have hn : val E (notAV r') = .bool (!(bv r' [])) ∧ ok E (notAV r') := by
      cases r' <;> simp [isBl] at hr <;> exact ⟨rfl, trivial⟩
    rw [hn.1]
    refine ⟨?_, hn.2⟩
    rw [val_big ha, val_big hb] at this ⊢
    rw [Sem.run_bind, run_eqGuard_agg w _ T x y _ _ h3]
    simp only [Result.andThen_ok]
    rw [run_neq_struct, this]
    rfl

theorem eqGuard_sca {P : Program} {E : Env} {op : BinOp} {T : TypeId} {x y : Operand} {a b : AV} (ha : sca a = true) (hb : sca b = true) (w : World) :
    (eqGuard op T x y (val E a) (val E b)).run P w = .ok () w := by
  cases op <;> simp [eqGuard] <;> cases a <;> simp [sca] at ha <;> cases b <;> simp [sca] at hb <;> simp [val, cells]

theorem foldMin_run {P : Program} (E : Env) (w : World) : ∀ (l : List AV) (v r : AV), foldMin true v l = some r → ok E v →
    ((l.map (val E)).foldlM Builtin.min2 (val E v)).run P w = .ok (val E r) w ∧ ok E r
  | [], v, r, h, hv => by simp [foldMin] at h; subst h; exact ⟨by simp, hv⟩
  | u :: l, v, r, h, hv => by
    simp only [foldMin] at h
    split at h <;> try (simp at h; done)
    rename_i r' hr
    obtain ⟨h1, h2⟩ := min_run (P := P) hr E w
    have ih := foldMin_run (P := P) E w l r' r h h2
    simp only [List.map_cons, List.foldlM_cons, Sem.run_bind, h1, Result.andThen_ok]
    exact ih

theorem foldMax_run {P : Program} (E : Env) (w : World) : ∀ (l : List AV) (v r : AV), foldMin false v l = some r → ok E v →
    ((l.map (val E)).foldlM Builtin.max2 (val E v)).run P w = .ok (val E r) w ∧ ok E r
  | [], v, r, h, hv => by simp [foldMin] at h; subst h; exact ⟨by simp, hv⟩
  | u :: l, v, r, h, hv => by
    simp only [foldMin] at h
    split at h <;> try (simp at h; done)
    rename_i r' hr
    obtain ⟨h1, h2⟩ := max_run (P := P) hr E w
    have ih := foldMax_run (P := P) E w l r' r h h2
    simp only [List.map_cons, List.foldlM_cons, Sem.run_bind, h1, Result.andThen_ok]
    exact ih

theorem minAV_sca {mn : Bool} {a b r : AV} (h : minAV mn a b = some r) : sca b = true := by
  unfold minAV at h
  split at h <;> try (simp at h; done)
  split at h <;> try (simp at h; done)
  rename_i hy
  cases b <;> simp [toBV] at hy <;> rfl

theorem foldMin_sca {mn : Bool} : ∀ (l : List AV) (v r : AV), foldMin mn v l = some r → ∀ u ∈ l, sca u = true
  | [], _, _, _, u, hu => by simp at hu
  | x :: l, v, r, h, u, hu => by
    simp only [foldMin] at h
    split at h <;> try (simp at h; done)
    rename_i r' hr
    simp at hu
    rcases hu with rfl | hu
    · exact minAV_sca hr
    · exact foldMin_sca l r' r h u hu

theorem pick_bl (f : Ix → Bool) (x y : AV) :
    (isBl x = true ∧ isBl y = true ∧ isBl (pickAV (.bool f) x y) = true ∧ bv (pickAV (.bool f) x y) [] = if f [] then bv x [] else bv y []) ∨ pickAV (.bool f) x y = .un := by
  cases x <;> cases y <;> first
    | (right; rfl)
    | (left
       refine ⟨rfl, rfl, ?_⟩
       rename_i p q
       first
         | (simp only [pickAV, toBl, isBl, bv, true_and]; cases f [] <;> rfl)
         | (cases p <;> cases q <;> simp only [pickAV, toBl, isBl, bv, true_and] <;> cases f [] <;> rfl)
         | (cases p <;> simp only [pickAV, toBl, isBl, bv, true_and] <;> cases f [] <;> simp)
         | (cases q <;> simp only [pickAV, toBl, isBl, bv, true_and] <;> cases f [] <;> simp))
    | (rename_i p; cases p <;> right <;> rfl)
    | (rename_i p q; cases p <;> right <;> rfl)
    | (rename_i p q; cases q <;> right <;> rfl)
    | (rename_i b n p l c; cases b <;> right <;> rfl)
    | (rename_i n p l c b; cases b <;> right <;> rfl)
    | (rename_i p q r; first | (cases p <;> right <;> rfl) | (cases q <;> right <;> rfl) | (cases r <;> right <;> rfl))
    | (rename_i p q r s; first | (cases p <;> right <;> rfl) | (cases q <;> right <;> rfl) | (cases r <;> right <;> rfl) | (cases s <;> right <;> rfl))

theorem TRel_bl {E : Env} {v : AV} (h : isBl v = true) (z : Value) : TRel E v z ↔ z = .bool (bv v []) := by
  cases v <;> simp [isBl] at h <;> simp [TRel, okT, ok, valT, val, cells, bv] <;> exact eq_comm

/-- A test's answer out of two: only the one that is taken need be known. -/
theorem TRel_pick {E : Env} {c x y : AV} {cv xv yv : Value} (hc : TRel E c cv) (hx : cv = .bool true → TRel E x xv) (hy : cv = .bool false → TRel E y yv) :
    (∃ b, cv = .bool b ∧ TRel E (pickAV c x y) (if b then xv else yv)) ∨ isBl c = false := by
  cases c with
  | blit b =>
    left
    have e := (TRel_bl rfl cv).1 hc
    refine ⟨b, e, ?_⟩
    cases b
    · simpa [pickAV] using hy e
    · simpa [pickAV] using hx e
  | bool f =>
    left
    have e := (TRel_bl rfl cv).1 hc
    refine ⟨f [], e, ?_⟩
    rcases pick_bl f x y with ⟨h1, h2, h3, h4⟩ | h
    · rw [TRel_bl h3, h4]
      cases hf : f []
      · simp [bv, hf] at e
        simpa using (TRel_bl h2 yv).1 (hy e)
      · simp [bv, hf] at e
        simpa using (TRel_bl h1 xv).1 (hx e)
    · rw [h]; trivial
  | _ => right; rfl

theorem strVal_rel {E : Env} {v : AV} {s : ByteArray} {x : Value} (h : strVal v = some s) (hx : TRel E v x) : x = .string s := by
  unfold strVal at h
  split at h
  · simp only [Option.some.injEq] at h
    subst h
    exact hx.2.symm
  · simp at h
theorem eqGuard_str {P : Program} {op : BinOp} {T : TypeId} {x y : Operand} {s t : ByteArray} (w : World) : (eqGuard op T x y (.string s) (.string t)).run P w = .ok () w := by
  cases op <;> simp [eqGuard]
theorem strCmp_run {P : Program} {op : BinOp} {s t : ByteArray} {r : Bool} (h : strCmp op s t = some r) (T : TypeId) (w : World) : (binOp op T (.string s) (.string t)).run P w = .ok (.bool r) w := by
  cases op <;> simp only [strCmp, Option.some.injEq, reduceCtorEq] at h
  · subst h; rw [binOp_string_eql]; rfl
  · subst h; rw [binOp_string_neq]; rfl
theorem bytesStr_spec {P : Program} {s d : TypeId} (h : bytesStr P s d = true) : ∃ e, P.underlying s = some (.slice e) ∧ P.underlying e = some (.int .u8) ∧ P.underlying d = some .string := by
  unfold bytesStr at h
  split at h
  · rename_i e h1 h2
    split at h
    · rename_i h3
      exact ⟨e, h1, h3, h2⟩
    · simp at h
  · simp at h
theorem eff_run {P : Program} {ρ : Operand → AV} {o : Oper} {e : Eff} (h : eff P ρ o.op = some e) (E : Env) (a : Act) (hρ : ∀ x ∈ o.op.operands, TRel E (ρ x) (a.eval x)) :
    EffRun P E a o e := by
  obtain ⟨dst, op, type, pos, after, guard⟩ := o
  simp only at h hρ
  cases op <;> simp only [eff, reduceCtorEq] at h
  case move x =>
    simp at h; subst h
    intro _
    exact ⟨a.eval x, hρ x (by simp [Op.operands]), fun w => rfl⟩
  case assign x =>
    simp at h; subst h
    intro _
    exact ⟨a.eval x, hρ x (by simp [Op.operands]), fun w => rfl⟩
  case alloc T =>
    simp only [Option.map_eq_some_iff] at h
    obtain ⟨z, hz, rfl⟩ := h
    obtain ⟨v, hv, hc, ho⟩ := zeroAV_spec hz
    refine ⟨ho E, fun w => ?_⟩
    simp only [execOp, Instr.alloc, newVar, newRow, Sem.run_bind, hv, Result.andThen_ok, Sem.run_pure, run_newObj, hc E]
    rfl
  case box T x =>
    split at h <;> simp at h
    subst h
    rename_i hs
    have hs := sca_big hs
    obtain ⟨h1, h2⟩ := TRel_ok (hρ x (by simp [Op.operands])) hs
    refine ⟨h1, fun w => ?_⟩
    simp only [execOp, Instr.box, newVar, newRow, Sem.run_bind, Result.andThen_ok, Sem.run_pure, run_newObj, ← h2, val_cells hs]
    rfl
  case buildSlice T len parts =>
    split at h <;> try (simp at h; done)
    rename_i e hu
    simp only [Option.map_eq_some_iff] at h
    obtain ⟨r, hr, rfl⟩ := h
    have hall : ∀ x ∈ parts.toList, TRel E (ρ x.2) (a.eval x.2) := fun x hx => hρ x.2 (by
      simp only [Op.operands, List.mem_toArray, List.mem_map]
      exact ⟨x, hx, rfl⟩)
    have hsb : ∀ x ∈ parts.toList, sca (ρ x.2) = true ∨ big (ρ x.2) = true := by
      have key : ∀ (d : TypeDesc) (l : List (Nat × AV)) (z r : AV), putParts P d z l = some r → ∀ x ∈ l, sca x.2 = true ∨ big x.2 = true := by
        intro d l
        induction l with
        | nil => intro z r _ x hx; simp at hx
        | cons y l ih =>
          obtain ⟨i, u⟩ := y
          intro z r h x hx
          simp only [putParts] at h
          split at h <;> try (simp at h; done)
          rename_i hs
          simp at hx
          rcases hx with rfl | hx
          · exact sca_big hs
          · (repeat' split at h) <;> first
              | (simp at h; done)
              | exact ih _ _ h x hx
      intro x hx
      have hm : (x.1, ρ x.2) ∈ parts.toList.map fun x => (x.1, ρ x.2) := List.mem_map.2 ⟨x, hx, rfl⟩
      unfold rowAV at hr
      split at hr <;> try (simp at hr; done)
      split at hr <;> try (simp at hr; done)
      exact key _ _ _ _ hr _ hm
    have hok : ∀ x ∈ parts.toList.map (fun x => (x.1, ρ x.2)), ok E x.2 := by
      intro x hx
      obtain ⟨y, hy, rfl⟩ := List.mem_map.1 hx
      exact (TRel_ok (hall y hy) (hsb y hy)).1
    refine ⟨(rowAV_run hu hr E hok (default : World)).2, fun w => ?_⟩
    have h3 := (rowAV_run hu hr E hok w).1
    have e : (parts.map fun (i, x) => (i, a.eval x)) = ((parts.toList.map (fun x => (x.1, ρ x.2))).map fun x => (x.1, val E x.2)).toArray := by
      apply Array.ext'
      simp only [Array.toList_map, List.map_map]
      apply List.map_congr_left
      intro x hx
      simp [(TRel_ok (hall x hx) (hsb x hx)).2]
    simp only [execOp, e, Sem.run_bind, h3, Result.andThen_ok]
    rfl
  case slice T x lo hi mx =>
    split at h <;> try (simp at h; done)
    split at h <;> try (simp at h; done)
    rename_i n p len e hx hu
    split at h <;> simp at h
    subst h
    rename_i s hs
    intro _
    have h1 := hρ x (by simp [Op.operands])
    rw [hx] at h1
    obtain ⟨b, hb, hv⟩ := val_ptr_run h1
    refine ⟨.slice (some ⟨b, offOf p, none⟩) len len, ⟨by simp [okT, ok, hb], by simp [valT, val, cells, hb, lenZ]⟩, fun w => ?_⟩
    simp only [execOp, hv, Instr.sliceAt, Sem.run_bind, Sem.run_pure, run_underlying hu w, Result.andThen_ok, Instr.sureAddr, Instr.sliceBounds, Option.map_none, run_sizeOf (P := P) (T := e) hs w]
    simp [Addr.add]
  case build T parts =>
    simp only [Option.map_eq_some_iff] at h
    obtain ⟨r, hr, rfl⟩ := h
    intro _
    have hall : ∀ x ∈ parts.toList, TRel E (ρ x.2) (a.eval x.2) := fun x hx => hρ x.2 (by
      simp only [Op.operands, List.mem_toArray, List.mem_map]
      exact ⟨x, hx, rfl⟩)
    have hsb : ∀ x ∈ parts.toList, sca (ρ x.2) = true ∨ big (ρ x.2) = true := by
      have key : ∀ (d : TypeDesc) (l : List (Nat × AV)) (z r : AV), putParts P d z l = some r → ∀ x ∈ l, sca x.2 = true ∨ big x.2 = true := by
        intro d l
        induction l with
        | nil => intro z r _ x hx; simp at hx
        | cons y l ih =>
          obtain ⟨i, u⟩ := y
          intro z r h x hx
          simp only [putParts] at h
          split at h <;> try (simp at h; done)
          rename_i hs
          simp at hx
          rcases hx with rfl | hx
          · exact sca_big hs
          · (repeat' split at h) <;> first
              | (simp at h; done)
              | exact ih _ _ h x hx
      intro x hx
      have hm : (x.1, ρ x.2) ∈ parts.toList.map fun x => (x.1, ρ x.2) := List.mem_map.2 ⟨x, hx, rfl⟩
      unfold buildAV at hr
      split at hr <;> try (simp at hr; done)
      · split at hr <;> try (simp at hr; done)
        exact key _ _ _ _ hr _ hm
      · split at hr <;> try (simp at hr; done)
        exact key _ _ _ _ hr _ hm
    have hok : ∀ x ∈ parts.toList.map (fun x => (x.1, ρ x.2)), ok E x.2 := by
      intro x hx
      obtain ⟨y, hy, rfl⟩ := List.mem_map.1 hx
      exact (TRel_ok (hall y hy) (hsb y hy)).1
    refine ⟨_, TRel_of (buildAV_run hr E hok (default : World)).2, fun w => ?_⟩
    have h3 := (buildAV_run hr E hok w).1
    have e : (parts.map fun (i, x) => (i, a.eval x)) = ((parts.toList.map (fun x => (x.1, ρ x.2))).map fun x => (x.1, val E x.2)).toArray := by
      apply Array.ext'
      simp only [Array.toList_map, List.map_map]
      apply List.map_congr_left
      intro x hx
      simp [(TRel_ok (hall x hx) (hsb x hx)).2]
    simp only [execOp, e, Sem.run_bind, h3, Result.andThen_ok]
    rfl
  case load T x =>
    split at h <;> simp at h
    subst h
    rename_i n p hx
    have := hρ x (by simp [Op.operands])
    rw [hx] at this
    obtain ⟨b, hb, hv⟩ := val_ptr_run this
    refine ⟨b, hb, fun w => ?_⟩
    simp only [execOp, hv, Instr.loadAt, Instr.sureAddr, Sem.run_bind, Sem.run_pure, Result.andThen_ok]
  case store T x y =>
    split at h <;> try (simp at h; done)
    rename_i hs
    have hs := sca_big hs
    split at h <;> simp at h
    subst h
    rename_i n p hx
    have h1 := hρ x (by simp [Op.operands])
    rw [hx] at h1
    obtain ⟨b, hb, hv⟩ := val_ptr_run h1
    obtain ⟨h2, h3⟩ := TRel_ok (hρ y (by simp [Op.operands])) hs
    refine ⟨b, hb, h2, hs, fun w => ?_⟩
    simp only [execOp, hv, Instr.storeAt, Instr.sureAddr, Sem.run_bind, Sem.run_pure, Result.andThen_ok, ← h3]
  case nilCheck x =>
    split at h <;> simp at h
    subst h
    rename_i n p hx
    have h1 := hρ x (by simp [Op.operands])
    rw [hx] at h1
    intro _
    refine ⟨_, h1, fun w => ?_⟩
    obtain ⟨b, hb, hv⟩ := val_ptr_run h1
    simp [execOp, hv]
  case binOp op T x y yT =>
    have hx := hρ x (by simp [Op.operands])
    have hy := hρ y (by simp [Op.operands])
    split at h
    · rename_i hb
      simp only [Option.map_eq_some_iff] at h
      obtain ⟨r, hr, rfl⟩ := h
      intro _
      have hb2 : big (ρ y) = true := by
        unfold bigEq at hr
        split at hr <;> try (simp at hr; done)
        split at hr <;> try (simp at hr; done)
        · exact eqAV_big hr hb
        · simp only [Option.map_eq_some_iff] at hr
          obtain ⟨_, hr, _⟩ := hr
          exact eqAV_big hr hb
      obtain ⟨_, h1⟩ := TRel_ok hx (.inr hb)
      obtain ⟨_, h2⟩ := TRel_ok hy (.inr hb2)
      refine ⟨_, TRel_of (bigEq_run hr hb E x y (default : World)).2, fun w => ?_⟩
      have h3 := (bigEq_run hr hb E x y w).1
      rw [h1, h2] at h3
      simp only [execOp]
      rw [Sem.run_bind, h3]
      rfl
    · split at h
      · rename_i hT
        simp only [Option.map_eq_some_iff] at h
        obtain ⟨r, hr, rfl⟩ := h
        intro _
        obtain ⟨s1, s2⟩ := boolEq_sca hr
        obtain ⟨_, h1⟩ := TRel_ok hx (.inl s1)
        obtain ⟨_, h2⟩ := TRel_ok hy (.inl s2)
        refine ⟨_, TRel_of (boolEq_run hr hT E (default : World)).2, fun w => ?_⟩
        have h3 := (boolEq_run hr hT E w).1
        simp only [execOp, ← h1, ← h2, Sem.run_bind, eqGuard_sca s1 s2, Result.andThen_ok, h3]
        rfl
      · split at h
        · rename_i s t e1 e2
          simp only [Option.map_eq_some_iff] at h
          obtain ⟨r, hr, rfl⟩ := h
          intro _
          have h1 := strVal_rel e1 hx
          have h2 := strVal_rel e2 hy
          refine ⟨.bool r, ⟨trivial, rfl⟩, fun w => ?_⟩
          have h3 := strCmp_run (P := P) hr T w
          simp only [execOp, h1, h2, Sem.run_bind, eqGuard_str, Result.andThen_ok, h3]
          rfl
        · simp only [Option.map_eq_some_iff] at h
          obtain ⟨r, hr, rfl⟩ := h
          intro ho
          obtain ⟨s1, s2⟩ := binInt_sca hr
          obtain ⟨_, h1⟩ := TRel_ok hx (.inl s1)
          obtain ⟨_, h2⟩ := TRel_ok hy (.inl s2)
          refine ⟨_, TRel_of (binInt_run (P := P) hr ho E T (default : World)).2, fun w => ?_⟩
          have h3 := (binInt_run (P := P) hr ho E T w).1
          simp only [execOp, ← h1, ← h2, Sem.run_bind, eqGuard_sca s1 s2, Result.andThen_ok, h3]
          rfl
  case unOp op T x =>
    simp only [Option.map_eq_some_iff] at h
    obtain ⟨r, hr, rfl⟩ := h
    intro _
    have hs : sca (ρ x) = true := by
      unfold unAV at hr
      split at hr <;> first
        | (simp at hr; done)
        | (rename_i hh; rw [hh]; rfl)
        | simp_all [sca]
    obtain ⟨_, h1⟩ := TRel_ok (hρ x (by simp [Op.operands])) (.inl hs)
    refine ⟨_, TRel_of (unAV_run (P := P) hr E (default : World)).2, fun w => ?_⟩
    have h3 := (unAV_run (P := P) hr E w).1
    simp only [execOp, ← h1, Sem.run_bind, h3, Result.andThen_ok]
    rfl
  case convert s d x =>
    split at h
    · rename_i e0 hcv
      simp only [Option.some.injEq] at h
      subst h
      have hx := hρ x (by simp [Op.operands])
      unfold cvOf at hcv
      split at hcv
      · rename_i n p len cap hv
        split at hcv <;> simp at hcv
        rename_i hbs
        subst hcv
        rw [hv] at hx
        obtain ⟨b, b1, b2⟩ := val_slc_run hx
        obtain ⟨e, k1, k2, k3⟩ := bytesStr_spec hbs
        refine ⟨b, cap, b1, fun w => ?_⟩
        simp only [execOp, b2, Sem.run_bind, run_convert_bytes_string w s d e _ _ _ k1 k2 k3]
        rfl
      · rename_i ao cap hv
        split at hcv <;> simp at hcv
        rename_i hbs
        subst hcv
        rw [hv] at hx
        obtain ⟨e, k1, k2, k3⟩ := bytesStr_spec hbs
        intro _
        have hvx : a.eval x = .slice ao 0 cap := hx.2.symm
        refine ⟨.string ByteArray.empty, ⟨trivial, rfl⟩, fun w => ?_⟩
        simp only [execOp, hvx, Sem.run_bind, run_convert_bytes_string w s d e _ _ _ k1 k2 k3]
        cases ao with
        | none => rfl
        | some ad =>
          rw [run_bytesToString (P := P) w ad 0 cap [] (by simp [loadCells, loadCellsFrom])]
          rfl
      · simp at hcv
    · simp only [Option.map_eq_some_iff] at h
      obtain ⟨r, hr, rfl⟩ := h
      intro _
      have hs : sca (ρ x) = true := by
        unfold convAV at hr
        split at hr <;> first
          | (simp at hr; done)
          | simp_all [sca]
      obtain ⟨_, h1⟩ := TRel_ok (hρ x (by simp [Op.operands])) (.inl hs)
      refine ⟨_, TRel_of (convAV_run hr E (default : World)).2, fun w => ?_⟩
      have h3 := (convAV_run hr E w).1
      simp only [execOp, ← h1, Sem.run_bind, h3, Result.andThen_ok]
      rfl
  case makeFunc fn first cap =>
    cases fn <;> simp only [reduceCtorEq] at h
    rename_i f
    split at h <;> try (simp at h; done)
    rename_i hf
    simp only [Option.map_eq_some_iff] at h
    obtain ⟨c, hc, rfl⟩ := h
    intro _
    have hsc : ∀ (l : List AV) (c : AV), caps l = some c → ∀ v ∈ l, sca v = true := by
      intro l
      induction l with
      | nil => intro c _ v hv; simp at hv
      | cons x l ih =>
        intro c hc v hv
        simp only [caps] at hc
        split at hc <;> simp at hc
        rename_i hs
        obtain ⟨c', hc, _⟩ := hc
        simp at hv
        rcases hv with rfl | hv
        · exact hs
        · exact ih c' hc v hv
    have hall : ∀ x ∈ cap.toList, ok E (ρ x) ∧ val E (ρ x) = a.eval x := fun x hx =>
      TRel_ok (hρ x (by simp [Op.operands]; right; simpa using hx)) (.inl (hsc _ _ hc _ (List.mem_map.2 ⟨x, hx, rfl⟩)))
    obtain ⟨h1, h2, _⟩ := caps_spec E _ _ hc (by
      intro v hv
      obtain ⟨x, hx, rfl⟩ := List.mem_map.1 hv
      exact (hall x hx).1)
    refine ⟨_, TRel_of (v := .fn f c) h1, fun w => ?_⟩
    have e : cap.map a.eval = (cells E [] c).toArray := by
      apply Array.ext'
      rw [h2]
      simp only [Array.toList_map, List.map_map]
      apply List.map_congr_left
      intro x hx
      exact (hall x hx).2.symm
    have e0 : first.map a.eval = #[] := by
      have : first = #[] := by simpa using hf
      rw [this]; simp
    simp only [execOp, Instr.makeFunc, e, e0, Sem.run_bind, Sem.run_pure, Result.andThen_ok, val, cells, List.headD_cons]
  case fieldAddr S x i =>
    split at h <;> try (simp at h; done)
    rename_i n p f hx hf
    split at h <;> try (simp at h; done)
    rename_i s hs
    split at h <;> simp at h
    subst h
    rename_i hne
    intro _
    have h1 := hρ x (by simp [Op.operands])
    rw [hx] at h1
    obtain ⟨b, hb, hv⟩ := val_ptr_run h1
    have h2 : TRel E (.ptr n (p ++ [.fld i f.offset])) (.pointer (some ⟨b, offOf p + f.offset, none⟩)) := by
      refine ⟨by simp [okT, ok, hb], ?_⟩
      simp [valT, val, cells, hb, offOf_append, offOf]
    refine ⟨_, h2, fun w => ?_⟩
    unfold fieldOf at hf
    split at hf <;> try (simp at hf; done)
    rename_i fs hu
    simp only [execOp, hv, Instr.fieldAt, Sem.run_bind, run_underlying hu w, Result.andThen_ok, hf, Instr.sureAddr, Sem.run_pure, fieldPlace, run_sizeOf (P := P) (T := f.type) hs w]
    simp at hne
    simp [hne, Addr.add]
  case field S x i =>
    split at h <;> try (simp at h; done)
    rename_i fs f hx hf
    split at h <;> try (simp at h; done)
    rename_i u ofs hn
    split at h <;> simp at h
    subst h
    rename_i hc
    simp only [Bool.and_eq_true, beq_iff_eq] at hc
    intro _
    have h1 := hρ x (by simp [Op.operands])
    rw [hx] at h1
    have hok : ok E fs := h1.1
    refine ⟨_, TRel_of (nth_ok E i fs u ofs hn hok), fun w => ?_⟩
    unfold fieldOf at hf
    split at hf <;> try (simp at hf; done)
    rename_i fds hu
    obtain ⟨pre, post, he, hl⟩ := nth_cells E [] i fs u ofs hn
    have hv := h1.2
    simp only [valT, val] at hv
    have hp := part_run hc.2 E [] (cells E [] fs).toArray f.offset pre post (by simpa using he) (by rw [hl, hc.1]) w
    rw [← val_eq] at hp
    simp only [execOp, ← hv, Instr.field, Sem.run_bind, run_underlying hu w, Result.andThen_ok, hf, asAgg, Sem.run_pure, hp]
  case indexAddr T x i =>
    split at h <;> try (simp at h; done)
    rename_i n p len e hx hu
    split at h <;> simp at h
    subst h
    rename_i j ob s hj hs
    intro ho
    have h1 := hρ x (by simp [Op.operands])
    rw [hx] at h1
    obtain ⟨b, hb, hv⟩ := val_ptr_run h1
    obtain ⟨k, z, hz, z0, zl, zj, jl⟩ := idxAV_spec hj ho E
    have hsi : sca (ρ i) = true := by
      cases hri : ρ i <;> rw [hri] at hj <;> simp [idxAV] at hj <;> rfl
    obtain ⟨_, h2⟩ := TRel_ok (hρ i (by simp [Op.operands])) (.inl hsi)
    rw [hz] at h2
    have h3 : TRel E (.ptr n (p ++ [.idx j s])) (.pointer (some ⟨b, offOf p + j * s, none⟩)) := by
      refine ⟨by simp [okT, ok, hb], ?_⟩
      simp [valT, val, cells, hb, offOf_append, offOf]
    refine ⟨_, h3, fun w => ?_⟩
    simp only [execOp, hv, ← h2, Instr.indexAt, asIntOf, Sem.run_bind, Sem.run_pure, run_underlying hu w, Result.andThen_ok, Instr.sureAddr]
    have hzl : 0 ≤ z ∧ z < (len : Int) := ⟨z0, zl⟩
    simp [hzl, run_sizeOf (P := P) (T := e) hs w, zj, Addr.add, z0, zl]
    rename_i n p len cap e hx hu
    split at h <;> simp at h
    subst h
    rename_i j ob s hj hs
    intro ho
    have h1 := hρ x (by simp [Op.operands])
    rw [hx] at h1
    obtain ⟨b, hb, hv⟩ := val_slc_run h1
    obtain ⟨k, z, hz, z0, zl, zj, hsi⟩ := idxS_spec hj ho E
    obtain ⟨_, h2⟩ := TRel_ok (hρ i (by simp [Op.operands])) (.inl hsi)
    rw [hz] at h2
    have h3 : TRel E (.ptr n (p ++ [.idx j s])) (.pointer (some ⟨b, offOf p + j * s, none⟩)) := by
      refine ⟨by simp [okT, ok, hb], ?_⟩
      simp [valT, val, cells, hb, offOf_append, offOf]
    refine ⟨_, h3, fun w => ?_⟩
    simp only [execOp, hv, ← h2, Instr.indexAt, asIntOf, Sem.run_bind, Sem.run_pure, run_underlying hu w, Result.andThen_ok, Instr.sureAddr]
    have hzl : 0 ≤ z ∧ z < ((lenZ [] len).toNat : Int) := ⟨z0, zl⟩
    simp only [if_pos hzl, Sem.run_bind, run_sizeOf (P := P) (T := e) hs w, Result.andThen_ok, Sem.run_pure, zj]
    have ea : Addr.add ⟨b, offOf p, none⟩ (j * s) = ⟨b, offOf p + j * s, none⟩ := by
      unfold Addr.add
      split <;> simp_all
    rw [ea]
  case index T x i =>
    split at h
    · rename_i s hs
      split at h <;> simp at h
      subst h
      rename_i k y hu hy
      intro ho
      obtain ⟨h0, h1⟩ := ho
      have hsi : sca (ρ i) = true := by rw [hy]; rfl
      obtain ⟨_, h2⟩ := TRel_ok (hρ i (by simp [Op.operands])) (.inl hsi)
      rw [hy] at h2
      have hx : a.eval x = .string s := by
        cases x <;> simp [strOf] at hs
        rename_i v
        cases v <;> simp [strOf] at hs
        subst hs
        rfl
      have hlt : (toZ k (y [])).toNat < s.size := by omega
      have hb : s[(toZ k (y [])).toNat]? = some s[(toZ k (y [])).toNat] := getElem?_pos s _ hlt
      refine ⟨.int .u8 (s[(toZ k (y [])).toNat]).toNat, ⟨trivial, ?_⟩, fun w => ?_⟩
      · simp only [valT, val, cells, List.headD_cons, byteAt, hb]
        have hlt2 := (s[(toZ k (y [])).toNat]).toNat_lt
        have : toZ .u8 (BitVec.ofNat 8 (s[(toZ k (y [])).toNat]).toNat) = ((s[(toZ k (y [])).toNat]).toNat : Int) := by
          show (((BitVec.ofNat 8 (s[(toZ k (y [])).toNat]).toNat).toNat : Nat) : Int) = _
          simp
        rw [this]
      · have h2' : a.eval i = .int k (toZ k (y [])) := h2.symm
        simp only [execOp, hx, h2', Instr.index, asIntOf, Sem.run_bind, Sem.run_pure, run_underlying hu w, Result.andThen_ok, if_pos h0, hb]
    split at h <;> try (simp at h; done)
    rename_i m bd len e hx hu
    split at h <;> try (simp at h; done)
    rename_i hc
    simp only [Bool.and_eq_true, beq_iff_eq] at hc
    obtain ⟨rfl, hfit⟩ := hc
    split at h <;> simp at h
    subst h
    rename_i j ob hj
    intro ho
    have h1 := hρ x (by simp [Op.operands])
    rw [hx] at h1
    obtain ⟨k, z, hz, z0, zl, zj, jl⟩ := idxAV_spec hj ho E
    have hsi : sca (ρ i) = true := by
      cases hri : ρ i <;> rw [hri] at hj <;> simp [idxAV] at hj <;> rfl
    obtain ⟨_, h2⟩ := TRel_ok (hρ i (by simp [Op.operands])) (.inl hsi)
    rw [hz] at h2
    have hok : ok E bd := h1.1
    refine ⟨_, TRel_of (ok_inst E j bd hok), fun w => ?_⟩
    have hv := h1.2
    simp only [valT, val] at hv
    have hsz : (P.info? e).map (·.size) = some (sz bd) := by
      simp only [fits, Bool.and_eq_true, beq_iff_eq] at hfit; exact hfit.1.1
    obtain ⟨pre, post, he, hl⟩ := flatMap_split (fun i => cells E [i] bd) (sz bd) (fun i => length_cells E bd [i]) m j jl
    have hp := part_run hfit E [j] (cells E [] (.arr m bd)).toArray (j * sz bd) pre post (by simp only [cells, List.nil_append]; exact he) hl w
    rw [val_eq, valAt_inst]
    simp only [execOp, ← hv, ← h2, Instr.index, asIntOf, Sem.run_bind, Sem.run_pure, run_underlying hu w, Result.andThen_ok]
    simp [z0, zl, run_sizeOf hsz w, zj, hp]
  case extract t i =>
    split at h <;> try (simp at h; done)
    rename_i fs hx
    simp only [Option.map_eq_some_iff] at h
    obtain ⟨u, hu, rfl⟩ := h
    intro _
    have h1 := hρ t (by simp [Op.operands])
    rw [hx] at h1
    obtain ⟨h2, h3⟩ := nthV_spec E i fs u hu h1.1
    refine ⟨_, TRel_of h2, fun w => ?_⟩
    have hv := h1.2
    simp only [valT] at hv
    simp only [execOp, ← hv, Instr.extract, Sem.run_bind]
    simp [h3]
  case call c =>
    split at h
    · -- a function
      rename_i f hcal
      split at h <;> try (simp at h; done)
      rename_i g cap hf
      split at h <;> try (simp at h; done)
      rename_i l hl
      split at h
      · rename_i hc
        simp at h
        subst h
        simp only [Bool.and_eq_true, List.all_eq_true] at hc
        obtain ⟨hcall, hargs⟩ := hc
        have h1 := hρ f (by simp [Op.operands, Call.operands, hcal])
        rw [hf] at h1
        obtain ⟨l1, l2⟩ := lst_spec E cap l hl h1.1
        have hall : ∀ x ∈ c.args.toList, ok E (ρ x) ∧ val E (ρ x) = a.eval x := fun x hx =>
          TRel_ok (hρ x (by simp [Op.operands, Call.operands]; right; simpa using hx)) (sca_big (hargs x hx))
        refine ⟨?_, fun w => ?_⟩
        · intro v hv
          simp at hv
          rcases hv with ⟨x, hx, rfl⟩ | hv
          · exact (hall x (by simpa using hx)).1
          · exact (l1 v hv).1
        · have hv := h1.2
          simp only [valT, val, cells, List.headD_cons] at hv
          have e : c.args.map a.eval ++ (cells E [] cap).toArray = (((c.args.toList.map ρ) ++ l).map (val E)).toArray := by
            apply Array.ext'
            simp only [Array.toList_append, Array.toList_map, l2, List.map_append, List.map_map]
            congr 1
            apply List.map_congr_left
            intro x hx
            exact (hall x hx).2.symm
          simp only [execOp, Sem.run_bind, resolve, hcal, ← hv, Deferred.ofValue, Sem.run_pure, Result.andThen_ok, invoke, Array.empty_append]
          rw [callFunc_run hcall, e]
      · split at h <;> try (simp at h; done)
        rename_i hle
        simp only [Option.map_eq_some_iff] at h
        obtain ⟨v, hv, rfl⟩ := h
        intro _
        have h1 := hρ f (by simp [Op.operands, Call.operands, hcal])
        rw [hf] at h1
        have hl0 : l = [] := by simpa using hle
        subst hl0
        obtain ⟨l1, l2⟩ := lst_spec E cap [] hl h1.1
        have hx3 := extAV_run hv E (default : World)
        have hall : ∀ x ∈ c.args.toList, ok E (ρ x) ∧ val E (ρ x) = a.eval x := fun x hx =>
          TRel_ok (hρ x (by simp [Op.operands, Call.operands]; right; simpa using hx)) (.inl (hx3.2.2 _ (List.mem_map.2 ⟨x, hx, rfl⟩)))
        refine ⟨valT E v, hx3.2.1, fun w => ?_⟩
        have hv2 := h1.2
        simp only [valT, val, cells, List.headD_cons] at hv2
        have e : c.args.map a.eval ++ (cells E [] cap).toArray = ((c.args.toList.map ρ).map (val E)).toArray := by
          apply Array.ext'
          simp only [Array.toList_append, Array.toList_map, l2, List.map_nil, List.append_nil, List.map_map]
          apply List.map_congr_left
          intro x hx
          exact (hall x hx).2.symm
        simp only [execOp, Sem.run_bind, resolve, hcal, ← hv2, Deferred.ofValue, Sem.run_pure, Result.andThen_ok, invoke, Array.empty_append]
        rw [e, (extAV_run hv E w).1]
    · rename_i hcal
      split at h <;> try (simp at h; done)
      rename_i v l hvl
      split at h <;> try (simp at h; done)
      rename_i hc
      simp only [Bool.and_eq_true] at hc
      simp only [Option.map_eq_some_iff] at h
      obtain ⟨r, hr, rfl⟩ := h
      intro _
      have hsc := foldMin_sca l v r hr
      have hops : ∀ x ∈ c.args.toList, ok E (ρ x) ∧ val E (ρ x) = a.eval x := fun x hx =>
        TRel_ok (hρ x (by simp [Op.operands, Call.operands, hcal]; simpa using hx)) (.inl (by
          have : ρ x ∈ v :: l := by rw [← hvl]; exact List.mem_map.2 ⟨x, hx, rfl⟩
          simp at this
          rcases this with h | h
          · rw [h]; exact hc.1
          · exact hsc _ h))
      have e : (c.args.map a.eval).toList = val E v :: l.map (val E) := by
        rw [← List.map_cons, ← hvl]
        simp only [Array.toList_map, List.map_map]
        apply List.map_congr_left
        intro x hx
        exact (hops x hx).2.symm
      have hvok : ok E v := by
        have : v ∈ c.args.toList.map ρ := by rw [hvl]; simp
        obtain ⟨x, hx, rfl⟩ := List.mem_map.1 this
        exact (hops x hx).1
      refine ⟨_, TRel_of (foldMin_run (P := P) E (default : World) l v r hr hvok).2, fun w => ?_⟩
      have h3 := (foldMin_run (P := P) E w l v r hr hvok).1
      simp only [execOp, Sem.run_bind, resolve, hcal, Sem.run_pure, Result.andThen_ok, invoke, builtin, Builtin.min_, e, h3]
    · rename_i hcal
      split at h <;> try (simp at h; done)
      rename_i v l hvl
      split at h <;> try (simp at h; done)
      rename_i hc
      simp only [Bool.and_eq_true] at hc
      simp only [Option.map_eq_some_iff] at h
      obtain ⟨r, hr, rfl⟩ := h
      intro _
      have hsc := foldMin_sca l v r hr
      have hops : ∀ x ∈ c.args.toList, ok E (ρ x) ∧ val E (ρ x) = a.eval x := fun x hx =>
        TRel_ok (hρ x (by simp [Op.operands, Call.operands, hcal]; simpa using hx)) (.inl (by
          have : ρ x ∈ v :: l := by rw [← hvl]; exact List.mem_map.2 ⟨x, hx, rfl⟩
          simp at this
          rcases this with h | h
          · rw [h]; exact hc.1
          · exact hsc _ h))
      have e : (c.args.map a.eval).toList = val E v :: l.map (val E) := by
        rw [← List.map_cons, ← hvl]
        simp only [Array.toList_map, List.map_map]
        apply List.map_congr_left
        intro x hx
        exact (hops x hx).2.symm
      have hvok : ok E v := by
        have : v ∈ c.args.toList.map ρ := by rw [hvl]; simp
        obtain ⟨x, hx, rfl⟩ := List.mem_map.1 this
        exact (hops x hx).1
      refine ⟨_, TRel_of (foldMax_run (P := P) E (default : World) l v r hr hvok).2, fun w => ?_⟩
      have h3 := (foldMax_run (P := P) E w l v r hr hvok).1
      simp only [execOp, Sem.run_bind, resolve, hcal, Sem.run_pure, Result.andThen_ok, invoke, builtin, Builtin.max_, e, h3]
    · rename_i hcal
      split at h <;> try (simp at h; done)
      rename_i x T hx hT
      split at h <;> try (simp at h; done)
      rename_i n p len cap e hv hu
      simp only [Option.map_eq_some_iff] at h
      obtain ⟨r, hr, rfl⟩ := h
      intro ho
      have hmem : x ∈ c.args.toList := by rw [hx]; simp
      have h1 := hρ x (by simp [Op.operands, Call.operands, hcal]; simpa using hmem)
      rw [hv] at h1
      obtain ⟨b, hb, hval⟩ := val_slc_run h1
      obtain ⟨h2, h3⟩ := lenAV_spec hr ho E
      refine ⟨_, TRel_of h2, fun w => ?_⟩
      have e1 : c.argTypes = #[T] := Array.ext' hT
      have e2 : c.args.map a.eval = #[.slice (some ⟨b, offOf p, none⟩) (lenZ [] len).toNat cap] := by
        apply Array.ext'
        simp only [Array.toList_map, hx, List.map_cons, List.map_nil, hval]
      simp only [execOp, Sem.run_bind, resolve, hcal, Sem.run_pure, Result.andThen_ok, invoke, builtin, Builtin.len_, e1, e2]
      simp [run_underlying hu w, h3]
      rename_i ao cap e hv hu
      simp at h
      subst h
      intro _
      have hmem : x ∈ c.args.toList := by rw [hx]; simp
      have h1 := hρ x (by simp [Op.operands, Call.operands, hcal]; simpa using hmem)
      rw [hv] at h1
      have hval : a.eval x = .slice ao 0 cap := h1.2.symm
      refine ⟨_, TRel_of (v := .lit .i64 0) trivial, fun w => ?_⟩
      have e1 : c.argTypes = #[T] := Array.ext' hT
      have e2 : c.args.map a.eval = #[.slice ao 0 cap] := by
        apply Array.ext'
        simp only [Array.toList_map, hx, List.map_cons, List.map_nil, hval]
      simp only [execOp, Sem.run_bind, resolve, hcal, Sem.run_pure, Result.andThen_ok, invoke, builtin, Builtin.len_, e1, e2]
      simp [run_underlying hu w]
      rfl
    · simp at h

end Go.Rf
