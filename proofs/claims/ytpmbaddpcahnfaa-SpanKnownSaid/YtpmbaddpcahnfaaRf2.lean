/- What operations make of symbolic data, and that the machine's operations make just that. -/
import Derived.Test.YtpmbaddpcahnfaaRf1
set_option linter.unusedVariables false
set_option linter.unusedSimpArgs false
namespace Go.Rf

/-- What must hold for a walk to be one: gathered on the way. -/
inductive Ob where
  | tt
  | pr (p : Prop)
  | two (a b : Ob)
  | imp (b w : Bool) (a : Ob)

def Ob.holds : Ob → Prop
  | .tt => True
  | .pr p => p
  | .two a b => a.holds ∧ b.holds
  | .imp b w a => b = w → a.holds

def Ob.and : Ob → Ob → Ob
  | .tt, b => b
  | a, .tt => a
  | a, b => .two a b

theorem Ob.and_holds (a b : Ob) : (a.and b).holds ↔ a.holds ∧ b.holds := by
  cases a <;> cases b <;> simp [Ob.and, Ob.holds]

def Ob.under (b w : Bool) : Ob → Ob
  | .tt => .tt
  | a => .imp b w a

theorem Ob.under_holds (b w : Bool) (a : Ob) : (a.under b w).holds ↔ (b = w → a.holds) := by
  cases a <;> simp [Ob.under, Ob.holds]

/-! ### Numbers -/

def ltB (k : IntKind) (x y : BitVec k.bits) : Bool := if k.signed then x.slt y else x.ult y
def leB (k : IntKind) (x y : BitVec k.bits) : Bool := if k.signed then x.sle y else x.ule y
def amt (k : IntKind) (x : BitVec k.bits) : Nat := if k.signed then x.toInt.toNat else x.toNat
def shrB (k : IntKind) (x : BitVec k.bits) (n : Nat) : BitVec k.bits := if k.signed then x.sshiftRight n else x >>> n
def quoB (k : IntKind) (x y : BitVec k.bits) : BitVec k.bits := if k.signed then x.sdiv y else x / y
def remB (k : IntKind) (x y : BitVec k.bits) : BitVec k.bits := if k.signed then x.srem y else x % y
def convB (k k' : IntKind) (x : BitVec k.bits) : BitVec k'.bits := if k.signed then x.signExtend k'.bits else x.setWidth k'.bits

theorem ltB_toZ (k : IntKind) (x y : BitVec k.bits) : decide (toZ k x < toZ k y) = ltB k x y := by
  unfold toZ ltB
  split
  · simp [BitVec.slt]
  · simp only [BitVec.ult]
    congr 1
    simp

theorem leB_toZ (k : IntKind) (x y : BitVec k.bits) : decide (toZ k x ≤ toZ k y) = leB k x y := by
  unfold toZ leB
  split
  · simp [BitVec.sle]
  · simp only [BitVec.ule]
    congr 1
    simp

theorem eq_toZ (k : IntKind) (x y : BitVec k.bits) : (toZ k x == toZ k y) = (x == y) := by
  rw [Bool.eq_iff_iff, beq_iff_eq, beq_iff_eq]
  exact ⟨toZ_inj k x y, fun h => h ▸ rfl⟩

theorem toZ_of (k : IntKind) (n : Int) (x : BitVec k.bits) (h : BitVec.ofInt k.bits n = x) : k.wrap n = toZ k x := by
  rw [wrap_toZ, h]

theorem ofInt_natCast' (w : Nat) (n : Nat) : BitVec.ofInt w (n : Int) = BitVec.ofNat w n := by simp

theorem add_toZ (k : IntKind) (x y : BitVec k.bits) : k.wrap (toZ k x + toZ k y) = toZ k (x + y) :=
  toZ_of _ _ _ (by rw [BitVec.ofInt_add, ofInt_toZ, ofInt_toZ])
theorem mul_toZ (k : IntKind) (x y : BitVec k.bits) : k.wrap (toZ k x * toZ k y) = toZ k (x * y) :=
  toZ_of _ _ _ (by rw [BitVec.ofInt_mul, ofInt_toZ, ofInt_toZ])
theorem neg_ofInt (w : Nat) (n : Int) : BitVec.ofInt w (-n) = -BitVec.ofInt w n := by
  apply BitVec.eq_of_toInt_eq
  simp only [BitVec.toInt_ofInt, BitVec.toInt_neg]
  simp
theorem sub_toZ (k : IntKind) (x y : BitVec k.bits) : k.wrap (toZ k x - toZ k y) = toZ k (x - y) :=
  toZ_of _ _ _ (by rw [Int.sub_eq_add_neg, BitVec.ofInt_add, neg_ofInt, ofInt_toZ, ofInt_toZ, BitVec.sub_eq_add_neg])
theorem neg_toZ (k : IntKind) (x : BitVec k.bits) : k.wrap (0 - toZ k x) = toZ k (-x) :=
  toZ_of _ _ _ (by rw [Int.zero_sub, neg_ofInt, ofInt_toZ])
theorem back_toZ (k : IntKind) (x : BitVec k.bits) : k.wrap (x.toNat : Int) = toZ k x :=
  toZ_of _ _ _ (by simp)
theorem quo_toZ (k : IntKind) (x y : BitVec k.bits) : k.wrap ((toZ k x).tdiv (toZ k y)) = toZ k (quoB k x y) := by
  apply toZ_of
  unfold toZ quoB
  split
  · apply BitVec.eq_of_toInt_eq
    rw [BitVec.toInt_ofInt, BitVec.toInt_sdiv]
  · rw [← Int.ofNat_tdiv, ofInt_natCast']
    apply BitVec.eq_of_toNat_eq
    simp only [BitVec.toNat_ofNat, BitVec.toNat_udiv]
    exact Nat.mod_eq_of_lt (Nat.lt_of_le_of_lt (Nat.div_le_self _ _) x.isLt)
theorem rem_toZ (k : IntKind) (x y : BitVec k.bits) : (toZ k x).tmod (toZ k y) = toZ k (remB k x y) := by
  unfold toZ remB
  split
  · rw [BitVec.toInt_srem]
  · rw [← Int.ofNat_tmod]; simp

theorem shl_min (w : Nat) (x : BitVec w) (n : Nat) : x <<< (min n w) = x <<< n := by
  rcases Nat.le_total n w with h | h
  · rw [Nat.min_eq_left h]
  · rw [Nat.min_eq_right h]
    apply BitVec.eq_of_getLsbD_eq
    intro i hi
    simp
    omega
theorem ushr_min (w : Nat) (x : BitVec w) (n : Nat) : x >>> (min n w) = x >>> n := by
  rcases Nat.le_total n w with h | h
  · rw [Nat.min_eq_left h]
  · rw [Nat.min_eq_right h]
    apply BitVec.eq_of_getLsbD_eq
    intro i hi
    simp only [BitVec.getLsbD_ushiftRight]
    rw [BitVec.getLsbD_of_ge _ _ (by omega), BitVec.getLsbD_of_ge _ _ (by omega)]
theorem sshr_min (w : Nat) (x : BitVec w) (n : Nat) : x.sshiftRight (min n w) = x.sshiftRight n := by
  rcases Nat.le_total n w with h | h
  · rw [Nat.min_eq_left h]
  · rw [Nat.min_eq_right h]
    apply BitVec.eq_of_getLsbD_eq
    intro i hi
    simp only [BitVec.getLsbD_sshiftRight]
    have h1 : ¬ (w + i < w) := by omega
    have h2 : ¬ (n + i < w) := by omega
    simp [h1, h2]

theorem shl_toZ (k k' : IntKind) (x : BitVec k.bits) (y : BitVec k'.bits) : k.wrap (toZ k x * 2 ^ (min (toZ k' y).toNat k.bits)) = toZ k (x <<< amt k' y) := by
  apply toZ_of
  have e : (toZ k' y).toNat = amt k' y := by
    unfold toZ amt
    split <;> simp
  rw [e, BitVec.ofInt_mul, ofInt_toZ, ← shl_min]
  generalize min (amt k' y) k.bits = n
  rw [show ((2 : Int) ^ n) = ((2 ^ n : Nat) : Int) from by simp, ofInt_natCast']
  rw [BitVec.shiftLeft_eq_mul_twoPow]
  congr 1
  apply BitVec.eq_of_toNat_eq
  simp [BitVec.toNat_twoPow]

theorem shr_toZ (k k' : IntKind) (x : BitVec k.bits) (y : BitVec k'.bits) : (toZ k x).fdiv (2 ^ (min (toZ k' y).toNat k.bits)) = toZ k (shrB k x (amt k' y)) := by
  have e : (toZ k' y).toNat = amt k' y := by
    unfold toZ amt
    split <;> simp
  rw [e, Int.fdiv_eq_ediv_of_nonneg _ (Int.pow_nonneg (by decide))]
  unfold shrB toZ
  split
  · rw [← sshr_min, BitVec.toInt_sshiftRight, Int.shiftRight_eq_div_pow]
    simp
  · rw [← ushr_min, BitVec.toNat_ushiftRight, Nat.shiftRight_eq_div_pow]
    simp

theorem conv_toZ (k k' : IntKind) (x : BitVec k.bits) : k'.wrap (toZ k x) = toZ k' (convB k k' x) := by
  apply toZ_of
  unfold toZ convB
  split
  · rfl
  · rw [ofInt_natCast', BitVec.ofNat_toNat]

/-- Plus, minus and their kin, of bits. -/
def ari (op : BinOp) (k : IntKind) (x y : BitVec k.bits) : Option (BitVec k.bits) :=
  match op with
  | .add => some (x + y)
  | .sub => some (x - y)
  | .mul => some (x * y)
  | .and => some (x &&& y)
  | .or => some (x ||| y)
  | .xor => some (x ^^^ y)
  | .andNot => some (x &&& ~~~y)
  | .quo => some (quoB k x y)
  | .rem => some (remB k x y)
  | _ => none

def divs : BinOp → Bool
  | .quo | .rem => true
  | _ => false

def cmpB (op : BinOp) (k : IntKind) (x y : BitVec k.bits) : Option Bool :=
  match op with
  | .eql => some (x == y)
  | .neq => some (x != y)
  | .lss => some (ltB k x y)
  | .leq => some (leB k x y)
  | .gtr => some (ltB k y x)
  | .geq => some (leB k y x)
  | _ => none

theorem run_ari {P : Program} {op : BinOp} {k : IntKind} {x y z : BitVec k.bits} (t : TypeId) (h : ari op k x y = some z) (hd : divs op = true → y ≠ 0#_) (w : World) :
    (binOp op t (.int k (toZ k x)) (.int k (toZ k y))).run P w = .ok (.int k (toZ k z)) w := by
  have hy : divs op = true → toZ k y ≠ 0 := fun h0 e => hd h0 (toZ_inj k y 0#_ (by rw [e]; unfold toZ; split <;> simp))
  cases op <;> simp [ari] at h <;> subst h <;> simp [binOp, Op.intArith, Op.intBits, Op.intDiv, add_toZ, sub_toZ, mul_toZ, ofInt_toZ, back_toZ]
  · have := hy rfl; simp [this, quo_toZ]
  · have := hy rfl; simp [this, rem_toZ]
  · simpa using back_toZ k (x &&& y)
  · simpa using back_toZ k (x ||| y)
  · simpa using back_toZ k (x ^^^ y)
  · simpa using back_toZ k (x &&& ~~~y)

theorem run_cmp {P : Program} {op : BinOp} {k : IntKind} {x y : BitVec k.bits} {z : Bool} (t : TypeId) (h : cmpB op k x y = some z) (w : World) :
    (binOp op t (.int k (toZ k x)) (.int k (toZ k y))).run P w = .ok (.bool z) w := by
  cases op <;> simp [cmpB] at h <;> subst h <;> simp [binOp, Op.intCmp, eq_toZ, ltB_toZ, leB_toZ, GT.gt, GE.ge, bne]

/-- Of two literals. -/
def litOp (op : BinOp) (k : IntKind) (n m : Int) : Option AV :=
  match op with
  | .add => some (.lit k (k.wrap (n + m)))
  | .sub => some (.lit k (k.wrap (n - m)))
  | .mul => some (.lit k (k.wrap (n * m)))
  | .quo => if m != 0 then some (.lit k (k.wrap (n.tdiv m))) else none
  | .rem => if m != 0 then some (.lit k (n.tmod m)) else none
  | .and => some (.lit k (k.wrap (BitVec.ofInt k.bits n &&& BitVec.ofInt k.bits m).toNat))
  | .or => some (.lit k (k.wrap (BitVec.ofInt k.bits n ||| BitVec.ofInt k.bits m).toNat))
  | .xor => some (.lit k (k.wrap (BitVec.ofInt k.bits n ^^^ BitVec.ofInt k.bits m).toNat))
  | .andNot => some (.lit k (k.wrap (BitVec.ofInt k.bits n &&& ~~~BitVec.ofInt k.bits m).toNat))
  | .eql => some (.blit (n == m))
  | .neq => some (.blit (n != m))
  | .lss => some (.blit (decide (n < m)))
  | .leq => some (.blit (decide (n ≤ m)))
  | .gtr => some (.blit (decide (m < n)))
  | .geq => some (.blit (decide (m ≤ n)))
  | _ => none

/-- Of numbers in bits; b: the second one as it stood. -/
def genOp (op : BinOp) (k : IntKind) (x y : Ix → BitVec k.bits) (nz : Bool) : Option (AV × Ob) :=
  match op with
  | .add => some (.int k fun ix => x ix + y ix, .tt)
  | .sub => some (.int k fun ix => x ix - y ix, .tt)
  | .mul => some (.int k fun ix => x ix * y ix, .tt)
  | .and => some (.int k fun ix => x ix &&& y ix, .tt)
  | .or => some (.int k fun ix => x ix ||| y ix, .tt)
  | .xor => some (.int k fun ix => x ix ^^^ y ix, .tt)
  | .andNot => some (.int k fun ix => x ix &&& ~~~(y ix), .tt)
  | .quo => some (.int k fun ix => quoB k (x ix) (y ix), if nz then .tt else .pr (y [] ≠ 0#_))
  | .rem => some (.int k fun ix => remB k (x ix) (y ix), if nz then .tt else .pr (y [] ≠ 0#_))
  | .eql => some (.bool fun ix => x ix == y ix, .tt)
  | .neq => some (.bool fun ix => x ix != y ix, .tt)
  | .lss => some (.bool fun ix => ltB k (x ix) (y ix), .tt)
  | .leq => some (.bool fun ix => leB k (x ix) (y ix), .tt)
  | .gtr => some (.bool fun ix => ltB k (y ix) (x ix), .tt)
  | .geq => some (.bool fun ix => leB k (y ix) (x ix), .tt)
  | _ => none

/-- A literal that is not nought. -/
def nzLit (k : IntKind) : AV → Bool
  | .lit _ m => toZ k (BitVec.ofInt k.bits m) != 0
  | _ => false

def litShift (op : BinOp) (k : IntKind) (n m : Int) : Option AV :=
  if 0 ≤ m then match op with
    | .shl => some (.lit k (k.wrap (n * 2 ^ (min m.toNat k.bits))))
    | _ => some (.lit k (n.fdiv (2 ^ (min m.toNat k.bits))))
  else none

def genShift (op : BinOp) (k k' : IntKind) (x : Ix → BitVec k.bits) (y : Ix → BitVec k'.bits) : AV × Ob :=
  (match op with
    | .shl => .int k fun ix => x ix <<< amt k' (y ix)
    | _ => .int k fun ix => shrB k (x ix) (amt k' (y ix)),
   if k'.signed then .pr (0 ≤ toZ k' (y [])) else .tt)

def isShift : BinOp → Bool
  | .shl | .shr => true
  | _ => false

def bothLit : AV → AV → Option ((IntKind × Int) × (IntKind × Int))
  | .lit k n, .lit k' m => some ((k, n), (k', m))
  | _, _ => none

/-- Of two numbers: an operation's answer, and what it asks. -/
def binInt (op : BinOp) (a b : AV) : Option (AV × Ob) :=
  match bothLit a b with
  | some ((k, n), (k', m)) =>
    if isShift op then (litShift op k n m).map (·, .tt)
    else if k == k' then (litOp op k n m).map (·, .tt) else none
  | none => match kindOf a, kindOf b with
    | some k, some k' => match toBV k a with
      | some x =>
        if isShift op then match toBV k' b with
          | some y => some (genShift op k k' x y)
          | none => none
        else match toBV k b with
          | some y => genOp op k x y (nzLit k b)
          | none => none
      | none => none
    | _, _ => none

theorem val_toBV {k : IntKind} {v : AV} {x : Ix → BitVec k.bits} (h : toBV k v = some x) (E : Env) : val E v = .int k (toZ k (x [])) := by
  have := toBV_cells h E []
  cases v <;> simp [toBV] at h <;> simp [val, this]
theorem val_toBl {v : AV} {x : Ix → Bool} (h : toBl v = some x) (E : Env) : val E v = .bool (x []) := by
  have := toBl_cells h E []
  cases v <;> simp [toBl] at h <;> simp [val, this]
theorem ok_toBV {k : IntKind} {v : AV} {x : Ix → BitVec k.bits} (h : toBV k v = some x) (E : Env) : ok E v := by
  cases v <;> simp [toBV] at h <;> trivial

theorem run_shl {P : Program} (k k' : IntKind) (n m : Int) (t : TypeId) (w : World) (h : 0 ≤ m) :
    (binOp .shl t (.int k n) (.int k' m)).run P w = .ok (.int k (k.wrap (n * 2 ^ (min m.toNat k.bits)))) w := by
  have : ¬ m < 0 := by omega
  simp [binOp, Op.shift, this]
theorem run_shr {P : Program} (k k' : IntKind) (n m : Int) (t : TypeId) (w : World) (h : 0 ≤ m) :
    (binOp .shr t (.int k n) (.int k' m)).run P w = .ok (.int k (n.fdiv (2 ^ (min m.toNat k.bits)))) w := by
  have : ¬ m < 0 := by omega
  simp [binOp, Op.shift, this]

theorem toZ_nonneg (k : IntKind) (x : BitVec k.bits) (h : k.signed = false) : 0 ≤ toZ k x := by
  unfold toZ; simp [h]

theorem ne_zero_of {k : IntKind} {m : Int} (h : toZ k (BitVec.ofInt k.bits m) ≠ 0) : BitVec.ofInt k.bits m ≠ 0#_ := by
  intro e
  apply h
  rw [e]
  unfold toZ
  split <;> simp

theorem litOp_run {P : Program} {op : BinOp} {k : IntKind} {n m : Int} {r : AV} (h : litOp op k n m = some r) (E : Env) (t : TypeId) (w : World) :
    (binOp op t (.int k n) (.int k m)).run P w = .ok (val E r) w ∧ ok E r := by
  cases op <;> simp [litOp] at h
  case quo => obtain ⟨h1, rfl⟩ := h; exact ⟨by simp [binOp, Op.intDiv, h1, val, cells], trivial⟩
  case rem => obtain ⟨h1, rfl⟩ := h; exact ⟨by simp [binOp, Op.intDiv, h1, val, cells], trivial⟩
  all_goals (subst h; exact ⟨by simp [binOp, Op.intArith, Op.intBits, Op.intCmp, val, cells, GT.gt, GE.ge], trivial⟩)

theorem genOp_run {P : Program} {op : BinOp} {k : IntKind} {x y : Ix → BitVec k.bits} {nz : Bool} {r : AV} {o : Ob} (h : genOp op k x y nz = some (r, o)) (ho : o.holds)
    (hz : nz = true → y [] ≠ 0#_) (E : Env) (t : TypeId) (w : World) :
    (binOp op t (.int k (toZ k (x []))) (.int k (toZ k (y [])))).run P w = .ok (val E r) w ∧ ok E r := by
  have dv : (if nz then Ob.tt else .pr (y [] ≠ 0#_)).holds → y [] ≠ 0#_ := by
    intro hq
    cases nz
    · simpa [Ob.holds] using hq
    · exact hz rfl
  cases op <;> simp only [genOp, Option.some.injEq, Prod.mk.injEq, reduceCtorEq] at h <;> obtain ⟨rfl, rfl⟩ := h <;> refine ⟨?_, trivial⟩
  case add => exact run_ari t (by simp [ari]) (by simp [divs]) w
  case sub => exact run_ari t (by simp [ari]) (by simp [divs]) w
  case mul => exact run_ari t (by simp [ari]) (by simp [divs]) w
  case quo => exact run_ari t (by simp [ari]) (fun _ => dv ho) w
  case rem => exact run_ari t (by simp [ari]) (fun _ => dv ho) w
  case and => exact run_ari t (by simp [ari]) (by simp [divs]) w
  case or => exact run_ari t (by simp [ari]) (by simp [divs]) w
  case xor => exact run_ari t (by simp [ari]) (by simp [divs]) w
  case andNot => exact run_ari t (by simp [ari]) (by simp [divs]) w
  all_goals exact run_cmp t (by simp [cmpB]) w

theorem binInt_run {P : Program} {op : BinOp} {a b r : AV} {o : Ob} (h : binInt op a b = some (r, o)) (ho : o.holds) (E : Env) (t : TypeId) (w : World) :
    (binOp op t (val E a) (val E b)).run P w = .ok (val E r) w ∧ ok E r := by
  unfold binInt at h
  split at h
  · rename_i k n k' m hl
    obtain ⟨rfl, rfl⟩ : a = .lit k n ∧ b = .lit k' m := by
      cases a <;> cases b <;> simp [bothLit] at hl
      simp_all
    simp only [val, cells, List.headD_cons]
    split at h
    · simp only [Option.map_eq_some_iff, Prod.mk.injEq] at h
      obtain ⟨r', h1, rfl, rfl⟩ := h
      unfold litShift at h1
      split at h1
      · rename_i h0
        have h0' : ¬ m < 0 := by omega
        split at h1 <;> simp at h1 <;> subst h1
        · exact ⟨by simp [binOp, Op.shift, h0', cells], trivial⟩
        · rename_i hs hne
          have : op = .shr := by cases op <;> simp_all [isShift]
          subst this
          exact ⟨by simp [binOp, Op.shift, h0', cells], trivial⟩
      · simp at h1
    · split at h
      · rename_i hk
        obtain rfl : k = k' := by simpa using hk
        simp only [Option.map_eq_some_iff, Prod.mk.injEq] at h
        obtain ⟨r', h1, rfl, rfl⟩ := h
        exact litOp_run h1 E t w
      · simp at h
  · split at h <;> try (simp at h; done)
    rename_i k k' _ _
    split at h <;> try (simp at h; done)
    rename_i x hx
    split at h
    · rename_i hs
      split at h <;> try (simp at h; done)
      rename_i y hy
      have hn : 0 ≤ toZ k' (y []) := by
        simp only [genShift, Option.some.injEq, Prod.mk.injEq] at h
        obtain ⟨_, rfl⟩ := h
        by_cases hs : k'.signed = true
        · simpa [hs, Ob.holds] using ho
        · exact toZ_nonneg _ _ (by simpa using hs)
      have hn' : ¬ toZ k' (y []) < 0 := by omega
      rw [val_toBV hx, val_toBV hy]
      simp only [genShift, Option.some.injEq, Prod.mk.injEq] at h
      obtain ⟨rfl, rfl⟩ := h
      split
      · exact ⟨by simp [binOp, Op.shift, hn', shl_toZ, val, cells], trivial⟩
      · have : op = .shr := by cases op <;> simp_all [isShift]
        subst this
        exact ⟨by simp [binOp, Op.shift, hn', shr_toZ, val, cells], trivial⟩
    · split at h <;> try (simp at h; done)
      rename_i y hy
      rw [val_toBV hx, val_toBV hy]
      refine genOp_run h ho (fun hz => ?_) E t w
      cases b <;> simp [nzLit] at hz
      simp [toBV] at hy
      obtain ⟨_, rfl⟩ := hy
      exact ne_zero_of hz

end Go.Rf
