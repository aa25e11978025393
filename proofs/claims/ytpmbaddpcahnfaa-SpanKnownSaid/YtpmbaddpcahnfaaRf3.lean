/- Types: a part of a value; whether two values are one; conversions; zero values. -/
import Derived.Test.YtpmbaddpcahnfaaRf2
set_option linter.unusedVariables false
set_option linter.unusedSimpArgs false
namespace Go.Rf

/-- The value at an index. -/
def valAt (E : Env) (ix : Ix) : AV → Value
  | .agg fs => .agg (cells E ix fs).toArray
  | .arr n b => .agg (cells E ix (.arr n b)).toArray
  | v => (cells E ix v).headD undef

theorem val_eq (E : Env) (v : AV) : val E v = valAt E [] v := by cases v <;> rfl

theorem valAt_inst (E : Env) (i : Nat) (ix : Ix) (v : AV) : valAt E ix (inst i v) = valAt E (i :: ix) v := by
  cases v <;> simp [inst, valAt, cells_inst] <;> first
    | rfl
    | (have := cells_inst E i (AV.arr _ _) ix; simpa [inst] using this)
    | (have := cells_inst E i (AV.fn _ _) ix; simp [inst] at this; rw [this])
    | (simp [cells, cells_inst]; done)
    | (rename_i n p len cap; cases len <;> rfl)
    | (simp only [cells]; rename_i n p len cap; cases len <;> rfl)

theorem cells_sca_at {E : Env} {ix : Ix} {v : AV} (h : sca v = true) : cells E ix v = [valAt E ix v] := by
  cases v <;> simp [sca] at h <;> simp [cells, valAt]

theorem valAt_big {E : Env} {ix : Ix} {v : AV} (h : big v = true) : valAt E ix v = .agg (cells E ix v).toArray := by
  cases v <;> simp [big] at h <;> simp [valAt, cells]

def bigT (P : Program) (T : TypeId) : Bool :=
  match P.underlying T with
  | some (.struct _) | some (.array _ _) => true
  | _ => false

/-- The value has the type's size, and is one cell or many as the type says. -/
def fits (P : Program) (T : TypeId) (v : AV) : Bool :=
  (P.info? T).map (·.size) == some (sz v) && (P.underlying T).isSome && (if bigT P T then big v else sca v)

theorem run_isAgg {P : Program} {T : TypeId} (h : (P.underlying T).isSome = true) (w : World) : (isAgg T).run P w = .ok (bigT P T) w := by
  cases hu : P.underlying T with
  | none => simp [hu] at h
  | some d =>
    unfold isAgg bigT
    rw [Sem.run_bind, run_underlying hu w]
    cases d <;> simp [hu]

theorem run_sizeOf {P : Program} {T : TypeId} {n : Nat} (h : (P.info? T).map (·.size) = some n) (w : World) : (sizeOf T).run P w = .ok n w := by
  cases hq : P.info? T with
  | none => simp [hq] at h
  | some i =>
    simp [hq] at h
    simp [sizeOf, typeInfo, hq, h]

theorem part_run {P : Program} {T : TypeId} {v : AV} (h : fits P T v = true) (E : Env) (ix : Ix) (cs : Array Value) (off : Nat) (pre post : List Value)
    (hc : cs.toList = pre ++ cells E ix v ++ post) (hl : pre.length = off) (w : World) : (part T cs off).run P w = .ok (valAt E ix v) w := by
  simp only [fits, Bool.and_eq_true, beq_iff_eq] at h
  obtain ⟨⟨h1, h2⟩, h3⟩ := h
  unfold part
  rw [Sem.run_bind, run_isAgg h2 w]
  simp only [Result.andThen_ok]
  split at h3
  · rename_i hb
    rw [if_pos hb, Sem.run_bind, run_sizeOf h1 w]
    simp only [Result.andThen_ok, Sem.run_pure]
    rw [valAt_big h3]
    congr 2
    apply Array.ext'
    rw [Array.toList_extract, hc]
    simp [List.extract_eq_take_drop, ← hl, ← length_cells E v ix]
  · rename_i hb
    rw [if_neg hb, cells_sca_at h3] at *
    have : cs[off]? = some (valAt E ix v) := by
      rw [← Array.getElem?_toList, hc]
      simp [hl]
    simp [this]

/-! ### Equality -/

def andAV : AV → AV → AV
  | .blit true, y => y
  | .blit false, _ => .blit false
  | .bool f, .blit true => .bool f
  | .bool _, .blit false => .blit false
  | .bool f, .bool g => .bool fun ix => f ix && g ix
  | _, _ => .un

def bv : AV → Ix → Bool
  | .blit b, _ => b
  | .bool f, ix => f ix
  | _, _ => false

def isBl : AV → Bool
  | .blit _ | .bool _ => true
  | _ => false

theorem andAV_bv {x y : AV} (hx : isBl x = true) (hy : isBl y = true) (ix : Ix) : bv (andAV x y) ix = (bv x ix && bv y ix) ∧ isBl (andAV x y) = true := by
  cases x <;> simp [isBl] at hx <;> cases y <;> simp [isBl] at hy <;> rename_i a b <;> first
    | (cases a <;> simp [andAV, bv, isBl]; done)
    | (cases b <;> simp [andAV, bv, isBl]; done)
    | simp [andAV, bv, isBl]

def eqAV : AV → AV → Option AV
  | .lit k n, .lit k' m => if k == k' then some (.blit (n == m)) else none
  | .lit k n, .int k' y => if k == k' then match toBV k' (.lit k n) with
    | some x => some (.bool fun ix => x ix == y ix)
    | none => none
    else none
  | .int k x, .lit k' m => if k == k' then match toBV k (.lit k' m) with
    | some y => some (.bool fun ix => x ix == y ix)
    | none => none
    else none
  | .int k x, .int k' y => if h : k' = k then some (.bool fun ix => x ix == (h ▸ y) ix) else none
  | .blit a, .blit b => some (.blit (a == b))
  | .blit a, .bool g => some (.bool fun ix => a == g ix)
  | .bool f, .blit b => some (.bool fun ix => f ix == b)
  | .bool f, .bool g => some (.bool fun ix => f ix == g ix)
  | .nil, .nil => some (.blit true)
  | .cons h t, .cons h' t' => match eqAV h h', eqAV t t' with
    | some x, some y => some (andAV x y)
    | _, _ => none
  | .agg fs, .agg fs' => eqAV fs fs'
  | .arr n b, .arr n' b' => if n == n' then match eqAV b b' with
    | some (.blit true) => some (.blit true)
    | some (.blit false) => some (.blit (n == 0))
    | some (.bool f) => some (.bool fun ix => (List.range n).all fun i => f (ix ++ [i]))
    | _ => none
    else none
  | _, _ => none

theorem eqAV_isBl : ∀ (a b r : AV), eqAV a b = some r → isBl r = true := by
  intro a
  induction a with
  | lit k n =>
    intro b r h
    cases b <;> simp [eqAV] at h
    · obtain ⟨_, rfl⟩ := h; rfl
    · obtain ⟨_, h⟩ := h
      split at h <;> simp at h
      subst h; rfl
  | int k x =>
    intro b r h
    cases b <;> simp [eqAV] at h
    · obtain ⟨_, h⟩ := h
      split at h <;> simp at h
      subst h; rfl
    · obtain ⟨_, rfl⟩ := h; rfl
  | blit x => intro b r h; cases b <;> simp [eqAV] at h <;> subst h <;> rfl
  | bool x => intro b r h; cases b <;> simp [eqAV] at h <;> subst h <;> rfl
  | nil => intro b r h; cases b <;> simp [eqAV] at h; subst h; rfl
  | cons x y ih1 ih2 =>
    intro b r h
    cases b <;> simp [eqAV] at h
    split at h <;> simp at h
    subst h
    exact (andAV_bv (ih1 _ _ (by assumption)) (ih2 _ _ (by assumption)) []).2
  | agg fs ih =>
    intro b r h
    cases b <;> simp [eqAV] at h
    exact ih _ _ h
  | arr n x ih =>
    intro b r h
    cases b <;> simp [eqAV] at h
    obtain ⟨_, h⟩ := h
    split at h <;> simp at h <;> subst h <;> rfl
  | _ => intro b r h; cases b <;> simp [eqAV] at h

/-- The value is laid out as the type says (numbers, bools, structs and arrays of these). -/
def tyFs (P : Program) (chk : TypeId → AV → Bool) : List Field → Nat → AV → Bool
  | [], _, .nil => true
  | f :: fs, o, .cons h t => f.name != "_" && f.offset == o && chk f.type h && fits P f.type h && tyFs P chk fs (o + sz h) t
  | _, _, _ => false

def tyOk (P : Program) : Nat → TypeId → AV → Bool
  | 0, _, _ => false
  | d + 1, T, v =>
    match P.underlying T, v with
    | some .bool, .blit _ => true
    | some .bool, .bool _ => true
    | some (.int k), .lit k' _ => k == k'
    | some (.int k), .int k' _ => k == k'
    | some (.struct fs), .agg vs => !P.stoodInHeld T && tyFs P (tyOk P d) fs.toList 0 vs
    | some (.array n e), .arr m b => n == m && tyOk P d e b && fits P e b
    | _, _ => false

theorem eqFields_run {P : Program} {d D : Nat} (E : Env) (ix : Ix)
    (hchk : ∀ T a b r, tyOk P d T a = true → tyOk P d T b = true → eqAV a b = some r → ∀ w, (Op.equalIn D T (valAt E ix a) (valAt E ix b)).run P w = .ok (bv r ix) w)
    (xs ys : Array Value) : ∀ (fs : List Field) (o : Nat) (a b r : AV), tyFs P (tyOk P d) fs o a = true → tyFs P (tyOk P d) fs o b = true → eqAV a b = some r →
      ∀ (px py : List Value), xs.toList = px ++ cells E ix a → ys.toList = py ++ cells E ix b → px.length = o → py.length = o →
      ∀ w, (Op.eqFields D xs ys fs).run P w = .ok (bv r ix) w := by
  intro fs
  induction fs with
  | nil =>
    intro o a b r ha hb hr px py hx hy hpx hpy w
    cases a <;> simp [tyFs] at ha
    cases b <;> simp [tyFs] at hb
    simp [eqAV] at hr
    subst hr
    simp [Op.eqFields, bv]
  | cons f fs ih =>
    intro o a b r ha hb hr px py hx hy hpx hpy w
    cases a <;> simp only [tyFs, Bool.false_eq_true] at ha
    cases b <;> simp only [tyFs, Bool.false_eq_true] at hb
    rename_i h t h' t'
    simp only [Bool.and_eq_true, bne_iff_ne, beq_iff_eq] at ha hb
    obtain ⟨⟨⟨⟨hn, ho⟩, hc⟩, hf⟩, ht⟩ := ha
    obtain ⟨⟨⟨⟨_, _⟩, hc'⟩, hf'⟩, ht'⟩ := hb
    simp only [eqAV] at hr
    cases h1 : eqAV h h' with
    | none => simp [h1] at hr
    | some r1 =>
      cases h2 : eqAV t t' with
      | none => simp [h1, h2] at hr
      | some r2 =>
        simp [h1, h2] at hr
        subst hr
        have hb := andAV_bv (eqAV_isBl _ _ _ h1) (eqAV_isBl _ _ _ h2) ix
        rw [hb.1]
        have hsz : sz h = sz h' := by
          simp only [fits, Bool.and_eq_true, beq_iff_eq] at hf hf'
          have := hf.1.1.symm.trans hf'.1.1
          simpa using this
        have p1 := part_run hf E ix xs f.offset px (cells E ix t) (by rw [hx]; simp [cells]) (by rw [hpx, ho])
        have p2 := part_run hf' E ix ys f.offset py (cells E ix t') (by rw [hy]; simp [cells]) (by rw [hpy, ho])
        have ih' := ih (o + sz h) t t' r2 ht (by rw [hsz]; exact ht') h2 (px ++ cells E ix h) (py ++ cells E ix h') (by rw [hx]; simp [cells]) (by rw [hy]; simp [cells])
          (by simp [length_cells, hpx]) (by simp [length_cells, hpy, hsz])
        simp only [Op.eqFields]
        rw [if_pos hn]
        simp only [Sem.run_bind, p1, Result.andThen_ok, p2, hchk f.type h h' r1 hc hc' h1]
        cases bv r1 ix
        · simp
        · simp [ih']

theorem forIn_range_all {P : Program} (f : Nat → Sem Bool) (g : Nat → Bool) (w : World) : ∀ (l : List Nat), (∀ i ∈ l, (f i).run P w = .ok (g i) w) →
    (forIn (m := Sem) l ((none, ()) : Option Bool × Unit) (fun i _ => do
      if (!(← f i)) = true then pure (ForInStep.done (some false, ())) else pure (ForInStep.yield (none, ())))).run P w = .ok (if l.all g then (none, ()) else (some false, ())) w := by
  intro l
  induction l with
  | nil => intro _; simp
  | cons i l ih =>
    intro h
    simp only [List.forIn_cons, Sem.run_bind, h i (by simp), Result.andThen_ok, Sem.run_ite]
    cases hg : g i
    · simp [hg]
    · have h2 := ih (fun j hj => h j (by simp [hj]))
      simp [hg]
      simpa using h2

theorem equalIn_run {P : Program} (E : Env) : ∀ (d : Nat) (T : TypeId) (a b r : AV), tyOk P d T a = true → tyOk P d T b = true → eqAV a b = some r →
    ∀ (D : Nat), d ≤ D → ∀ ix w, (Op.equalIn D T (valAt E ix a) (valAt E ix b)).run P w = .ok (bv r ix) w := by
  intro d
  induction d with
  | zero => intro T a b r ha; simp [tyOk] at ha
  | succ d ih =>
    intro T a b r ha hb hr D hD ix w
    obtain ⟨D, rfl⟩ : ∃ D', D = D' + 1 := ⟨D - 1, by omega⟩
    simp only [tyOk] at ha hb
    cases hu : P.underlying T with
    | none => simp [hu] at ha
    | some desc =>
      simp only [hu] at ha hb
      cases desc <;> try (simp at ha; done)
      case bool =>
        cases a <;> simp only [Bool.false_eq_true] at ha <;> cases b <;> simp only [Bool.false_eq_true] at hb <;> simp only [eqAV, Option.some.injEq] at hr <;> subst hr <;>
          simp only [valAt, cells, List.headD_cons, bv] <;> exact run_equalIn_bool w D T _ _ hu
      case int k =>
        have key : ∀ (k : IntKind) (x y : BitVec k.bits) (h : P.underlying T = some (.int k)), (Op.equalIn (D + 1) T (.int k (toZ k x)) (.int k (toZ k y))).run P w = .ok (x == y) w := by
          intro k x y h
          rw [run_equalIn_int w D T k k _ _ h, eq_toZ]
        cases a <;> simp only [Bool.false_eq_true, beq_iff_eq] at ha <;> cases b <;> simp only [Bool.false_eq_true, beq_iff_eq] at hb
        · subst ha; subst hb
          simp [eqAV] at hr
          subst hr
          simp only [valAt, cells, List.headD_cons, bv]
          exact run_equalIn_int w D T k k _ _ hu
        · subst ha; subst hb
          simp only [eqAV, beq_self_eq_true, if_true] at hr
          split at hr <;> simp at hr
          rename_i x hx
          subst hr
          have h3 := toBV_cells hx E ix
          simp only [cells, List.cons.injEq, and_true] at h3
          simp only [valAt, h3, cells, List.headD_cons, bv]
          exact key k _ _ hu
        · subst ha; subst hb
          simp only [eqAV, beq_self_eq_true, if_true] at hr
          split at hr <;> simp at hr
          rename_i y hy
          subst hr
          have h3 := toBV_cells hy E ix
          simp only [cells, List.cons.injEq, and_true] at h3
          simp only [valAt, h3, cells, List.headD_cons, bv]
          exact key k _ _ hu
        · subst ha; subst hb
          simp [eqAV] at hr
          subst hr
          simp only [valAt, cells, List.headD_cons, bv]
          exact key k _ _ hu
      case struct fs =>
        cases a <;> simp only [Bool.false_eq_true] at ha
        cases b <;> simp only [Bool.false_eq_true] at hb
        rename_i va vb
        simp only [Bool.and_eq_true, Bool.not_eq_true'] at ha hb
        simp only [eqAV] at hr
        have hfs : P.fieldsOf T = fs := by simp [Program.fieldsOf, hu]
        simp only [valAt]
        rw [run_equalIn_struct w D T _ _ (by rw [hfs]; exact hu) ha.1, hfs]
        refine eqFields_run (d := d) E ix (fun T a b r h1 h2 h3 w => ih T a b r h1 h2 h3 D (by omega) ix w) _ _ fs.toList 0 va vb r ha.2 hb.2 hr [] [] ?_ ?_ rfl rfl w
        · simp
        · simp
      case array n e =>
        cases a <;> simp only [Bool.false_eq_true] at ha
        cases b <;> simp only [Bool.false_eq_true] at hb
        rename_i m x m' y
        simp only [Bool.and_eq_true, beq_iff_eq] at ha hb
        obtain ⟨⟨rfl, hx⟩, hfx⟩ := ha
        obtain ⟨⟨rfl, hy⟩, hfy⟩ := hb
        simp only [eqAV, beq_self_eq_true, if_true] at hr
        cases h1 : eqAV x y with
        | none => simp [h1] at hr
        | some r1 =>
          have hall : bv r ix = (List.range n).all fun i => bv r1 (ix ++ [i]) := by
            simp only [h1] at hr
            split at hr <;> simp at hr
            · rename_i h2; simp at h2; subst h2; subst hr; simp [bv]
            · rename_i h2; simp at h2; subst h2; subst hr; simp only [bv]
              cases n <;> simp [List.range_succ]
            · rename_i h2; simp at h2; subst h2; subst hr; simp [bv]
          rw [hall]
          have hsx : (P.info? e).map (·.size) = some (sz x) := by
            simp only [fits, Bool.and_eq_true, beq_iff_eq] at hfx; exact hfx.1.1
          have hsy : sz y = sz x := by
            simp only [fits, Bool.and_eq_true, beq_iff_eq] at hfy
            have := hfy.1.1.symm.trans hsx
            simpa using this
          simp only [valAt]
          simp only [Op.equalIn, Sem.run_bind, run_underlying hu w, Result.andThen_ok, run_sizeOf hsx w]
          have hf := forIn_range_all (P := P) (fun i => do Op.equalIn D e (← part e (cells E ix (.arr n x)).toArray (i * sz x)) (← part e (cells E ix (.arr n y)).toArray (i * sz x))) (fun i => bv r1 (ix ++ [i])) w (List.range n) (fun i hi => by
            simp at hi
            obtain ⟨pre, post, he, hl⟩ := flatMap_split (fun i => cells E (ix ++ [i]) x) (sz x) (fun i => length_cells E x _) n i hi
            obtain ⟨pre', post', he', hl'⟩ := flatMap_split (fun i => cells E (ix ++ [i]) y) (sz y) (fun i => length_cells E y _) n i hi
            simp only [Sem.run_bind]
            rw [part_run hfx E (ix ++ [i]) _ (i * sz x) pre post (by simp only [cells]; exact he) hl w]
            simp only [Result.andThen_ok]
            rw [part_run hfy E (ix ++ [i]) _ (i * sz x) pre' post' (by simp only [cells]; exact he') (by rw [hl', hsy]) w]
            simp only [Result.andThen_ok]
            exact ih e x y r1 hx hy h1 D (by omega) (ix ++ [i]) w)
          simp only [bind_assoc] at hf
          rw [Std.Legacy.Range.forIn_eq_forIn_range', Std.Legacy.Range.size]
          have hrng : List.range' [:n].start (([:n].stop - [:n].start + [:n].step - 1) / [:n].step) [:n].step = List.range n := by
            simp [List.range_eq_range']
          rw [hrng, hf]
          cases (List.range n).all fun i => bv r1 (ix ++ [i]) <;> simp


/-! ### Conversions, unary operations, min and max -/

def convAV (P : Program) (src dst : TypeId) (v : AV) : Option AV :=
  match P.underlying dst, v with
  | some (.int k'), .lit k n => if (P.underlying src).isSome then some (.lit k' (k'.wrap n)) else none
  | some (.int k'), .int k x => if (P.underlying src).isSome then some (.int k' fun ix => convB k k' (x ix)) else none
  | _, _ => none

theorem convAV_run {P : Program} {src dst : TypeId} {v r : AV} (h : convAV P src dst v = some r) (E : Env) (w : World) :
    (convert src dst (val E v)).run P w = .ok (val E r) w ∧ ok E r := by
  unfold convAV at h
  split at h
  · rename_i k' k n hu
    split at h <;> simp at h
    rename_i hs
    subst h
    refine ⟨?_, trivial⟩
    simp only [val, cells, List.headD_cons]
    obtain ⟨d, hd⟩ := Option.isSome_iff_exists.1 hs
    cases d <;> simp [convert, run_underlying hd w, run_underlying hu w, Conv.intToInt]
  · rename_i k' k x hu
    split at h <;> simp at h
    rename_i hs
    subst h
    refine ⟨?_, trivial⟩
    simp only [val, cells, List.headD_cons]
    rw [← conv_toZ]
    obtain ⟨d, hd⟩ := Option.isSome_iff_exists.1 hs
    cases d <;> simp [convert, run_underlying hd w, run_underlying hu w, Conv.intToInt]
  · simp at h

def unAV (op : UnOp) (v : AV) : Option AV :=
  match op, v with
  | .not, .blit b => some (.blit (!b))
  | .not, .bool f => some (.bool fun ix => !(f ix))
  | .neg, .lit k n => some (.lit k (k.wrap (0 - n)))
  | .neg, .int k x => some (.int k fun ix => -(x ix))
  | .xor, .int k x => if k.signed then none else some (.int k fun ix => ~~~(x ix))
  | _, _ => none

theorem xor_max (k : IntKind) (h : k.signed = false) (x : BitVec k.bits) : BitVec.ofInt k.bits k.max ^^^ x = ~~~x := by
  have : BitVec.ofInt k.bits k.max = BitVec.allOnes k.bits := by
    cases k <;> simp [IntKind.signed] at h <;> simp [IntKind.max, IntKind.signed, IntKind.bits] <;> decide
  rw [this, BitVec.allOnes_xor]

theorem unAV_run {P : Program} {op : UnOp} {v r : AV} (h : unAV op v = some r) (E : Env) (w : World) :
    (Op.unary op (val E v)).run P w = .ok (val E r) w ∧ ok E r := by
  unfold unAV at h
  split at h <;> simp at h
  · subst h; exact ⟨by simp [val, cells, Op.unary], trivial⟩
  · subst h; exact ⟨by simp [val, cells, Op.unary], trivial⟩
  · subst h; exact ⟨by simp [val, cells, Op.unary, Op.intArith], trivial⟩
  · rename_i k x
    subst h
    have := neg_toZ k (x [])
    exact ⟨by simp only [val, cells, List.headD_cons, Op.unary, Op.intArith]; rw [this]; rfl, trivial⟩
  · rename_i k x
    obtain ⟨hs, rfl⟩ := h
    refine ⟨?_, trivial⟩
    simp only [val, cells, List.headD_cons, Op.unary, Op.intBits, hs, Bool.false_eq_true, if_false, ofInt_toZ, Sem.run_pure]
    rw [xor_max k hs, back_toZ]

/-- min (of true), max (of false). -/
def minAV (mn : Bool) (a b : AV) : Option AV :=
  match kindOf a with
  | some k => match toBV k a, toBV k b with
    | some x, some y => some (.int k fun ix => bif (bif mn then ltB k (y ix) (x ix) else ltB k (x ix) (y ix)) then y ix else x ix)
    | _, _ => none
  | none => none

theorem min_run {P : Program} {a b r : AV} (h : minAV true a b = some r) (E : Env) (w : World) :
    (Builtin.min2 (val E a) (val E b)).run P w = .ok (val E r) w ∧ ok E r := by
  unfold minAV at h
  split at h <;> try (simp at h; done)
  split at h <;> simp at h
  rename_i k _ _ _ x y hx hy
  subst h
  rw [val_toBV hx, val_toBV hy]
  refine ⟨?_, trivial⟩
  simp only [Builtin.min2, Sem.run_pure, val, cells, List.headD_cons]
  congr 2
  rw [← ltB_toZ]
  by_cases hc : toZ k (y []) < toZ k (x []) <;> simp [hc]

theorem max_run {P : Program} {a b r : AV} (h : minAV false a b = some r) (E : Env) (w : World) :
    (Builtin.max2 (val E a) (val E b)).run P w = .ok (val E r) w ∧ ok E r := by
  unfold minAV at h
  split at h <;> try (simp at h; done)
  split at h <;> simp at h
  rename_i k _ _ _ x y hx hy
  subst h
  rw [val_toBV hx, val_toBV hy]
  refine ⟨?_, trivial⟩
  simp only [Builtin.max2, Sem.run_pure, val, cells, List.headD_cons]
  congr 2
  rw [← ltB_toZ]
  by_cases hc : toZ k (x []) < toZ k (y []) <;> simp [hc, GT.gt]

/-! ### Zero values -/

def eqV : Value → Value → Bool
  | .int k n, .int k' m => k == k' && n == m
  | .bool a, .bool b => a == b
  | _, _ => false

theorem eqV_eq {a b : Value} (h : eqV a b = true) : a = b := by
  cases a <;> cases b <;> simp [eqV] at h
  · rw [h]
  · rw [h.1, h.2]

def eqVs : List Value → List Value → Bool
  | [], [] => true
  | a :: l, b :: m => eqV a b && eqVs l m
  | _, _ => false

theorem eqVs_eq : ∀ {l m : List Value}, eqVs l m = true → l = m
  | [], [], _ => rfl
  | a :: l, b :: m, h => by simp [eqVs] at h; rw [eqV_eq h.1, eqVs_eq h.2]
  | [], _ :: _, h => by simp [eqVs] at h
  | _ :: _, [], h => by simp [eqVs] at h

def zeroFs (z : TypeId → Option AV) : List Field → Option AV
  | [] => some .nil
  | f :: fs => match z f.type, zeroFs z fs with
    | some h, some t => some (.cons h t)
    | _, _ => none

def zeroOf (P : Program) : Nat → TypeId → Option AV
  | 0, _ => none
  | d + 1, T => match P.underlying T with
    | some .bool => some (.blit false)
    | some (.int k) => some (.lit k 0)
    | some (.struct fs) => (zeroFs (zeroOf P d) fs.toList).map .agg
    | some (.array n e) => (zeroOf P d e).map (.arr n)
    | _ => none

/-- The zero value of a type, held against the program's own. -/
def zeroAV (P : Program) (T : TypeId) : Option AV :=
  match zeroOf P 12 T, P.info? T with
  | some z, some i => match i.zero with
    | some v => if eqVs v.cells.toList (cells (fun _ => none) [] z) && pf z then some z else none
    | none => none
  | _, _ => none

theorem zeroAV_spec {P : Program} {T : TypeId} {z : AV} (h : zeroAV P T = some z) : ∃ v, (∀ w, (zeroValue T).run P w = .ok v w) ∧ (∀ E, v.cells = (cells E [] z).toArray) ∧ ∀ E, ok E z := by
  unfold zeroAV at h
  split at h <;> try (simp at h; done)
  rename_i z' i hz hi
  split at h <;> try (simp at h; done)
  rename_i v hv
  split at h <;> simp at h
  rename_i hc
  subst h
  simp at hc
  refine ⟨v, fun w => ?_, fun E => ?_, fun E => ok_of_pf E _ hc.2⟩
  · simp [zeroValue, typeInfo, hi, hv]
  · apply Array.ext'
    rw [eqVs_eq hc.1, cells_pf _ E _ hc.2]

end Go.Rf
