/- Several texts as one: Rf15 Rf16 Rf18 Rf19. -/
import Derived.Test.YtigiedlngfkfbaaGreatRfE
set_option linter.unusedVariables false
set_option linter.unusedSimpArgs false

/- Codes: Lean data as symbolic data; contracts. -/
namespace Go.Rf

/-- Leaves, each a function of the indices. -/
structure FCod (α : Type) where
  dec : AV → Option (Ix → α)
  enc : (Ix → α) → AV
  pf : ∀ x, Rf.pf (enc x) = true
  /-- How deep it may lie. -/
  dp : Nat → Bool
  spec : ∀ v x, dec v = some x → big v = big (enc x) ∧ ∀ E ix, dp ix.length = true → cells E ix v = cells E ix (enc x)
  bg : ∀ x y, big (enc x) = big (enc y)
  loc : ∀ E x y ix, dp ix.length = true → x ix = y ix → cells E ix (enc x) = cells E ix (enc y)

def FCod.bv (k : IntKind) : FCod (BitVec k.bits) where
  dec := toBV k
  enc x := .int k x
  pf _ := rfl
  dp _ := true
  spec v x h := ⟨by cases v <;> simp [toBV] at h <;> rfl, fun E ix _ => by rw [toBV_cells h]; rfl⟩
  bg _ _ := rfl
  loc E x y ix _ h := by simp only [cells, h]

def FCod.bl : FCod Bool where
  dec := toBl
  enc x := .bool x
  pf _ := rfl
  dp _ := true
  spec v x h := ⟨by cases v <;> simp [toBl] at h <;> rfl, fun E ix _ => by rw [toBl_cells h]; rfl⟩
  bg _ _ := rfl
  loc E x y ix _ h := by simp only [cells, h]

def FCod.agg2 {α β γ : Type} (ca : FCod α) (cb : FCod β) (mk : α → β → γ) (p1 : γ → α) (p2 : γ → β) (h1 : ∀ a b, p1 (mk a b) = a) (h2 : ∀ a b, p2 (mk a b) = b) : FCod γ where
  dec v := match v with
    | .agg (.cons a (.cons b .nil)) => match ca.dec a, cb.dec b with
      | some x, some y => some fun ix => mk (x ix) (y ix)
      | _, _ => none
    | _ => none
  enc g := .agg (.cons (ca.enc fun ix => p1 (g ix)) (.cons (cb.enc fun ix => p2 (g ix)) .nil))
  pf g := by simp [Rf.pf, ca.pf, cb.pf]
  dp d := ca.dp d && cb.dp d
  spec v x h := by
    split at h <;> try (simp at h; done)
    split at h <;> simp at h
    rename_i a b x1 y1 e1 e2
    subst h
    refine ⟨rfl, fun E ix hd => ?_⟩
    simp only [Bool.and_eq_true] at hd
    simp only [cells, (ca.spec _ _ e1).2 E ix hd.1, (cb.spec _ _ e2).2 E ix hd.2, h1, h2]
  bg _ _ := rfl
  loc E x y ix hd h := by
    simp only [Bool.and_eq_true] at hd
    simp only [cells]
    rw [ca.loc E _ (fun ix => p1 (y ix)) ix hd.1 (by simp only [h]), cb.loc E _ (fun ix => p2 (y ix)) ix hd.2 (by simp only [h])]

def FCod.agg3 {α β δ γ : Type} (ca : FCod α) (cb : FCod β) (cd : FCod δ) (mk : α → β → δ → γ) (p1 : γ → α) (p2 : γ → β) (p3 : γ → δ) (h1 : ∀ a b d, p1 (mk a b d) = a) (h2 : ∀ a b d, p2 (mk a b d) = b) (h3 : ∀ a b d, p3 (mk a b d) = d) : FCod γ where
  dec v := match v with
    | .agg (.cons a (.cons b (.cons d .nil))) => match ca.dec a, cb.dec b, cd.dec d with
      | some x, some y, some z => some fun ix => mk (x ix) (y ix) (z ix)
      | _, _, _ => none
    | _ => none
  enc g := .agg (.cons (ca.enc fun ix => p1 (g ix)) (.cons (cb.enc fun ix => p2 (g ix)) (.cons (cd.enc fun ix => p3 (g ix)) .nil)))
  pf g := by simp [Rf.pf, ca.pf, cb.pf, cd.pf]
  dp d := ca.dp d && cb.dp d && cd.dp d
  spec v x h := by
    split at h <;> try (simp at h; done)
    split at h <;> simp at h
    rename_i a b d x1 y1 z1 e1 e2 e3
    subst h
    refine ⟨rfl, fun E ix hd => ?_⟩
    simp only [Bool.and_eq_true] at hd
    simp only [cells, (ca.spec _ _ e1).2 E ix hd.1.1, (cb.spec _ _ e2).2 E ix hd.1.2, (cd.spec _ _ e3).2 E ix hd.2, h1, h2, h3]
  bg _ _ := rfl
  loc E x y ix hd h := by
    simp only [Bool.and_eq_true] at hd
    simp only [cells]
    rw [ca.loc E _ (fun ix => p1 (y ix)) ix hd.1.1 (by simp only [h]), cb.loc E _ (fun ix => p2 (y ix)) ix hd.1.2 (by simp only [h]), cd.loc E _ (fun ix => p3 (y ix)) ix hd.2 (by simp only [h])]

def FCod.agg4 {α β δ ε γ : Type} (ca : FCod α) (cb : FCod β) (cd : FCod δ) (ce : FCod ε) (mk : α → β → δ → ε → γ) (p1 : γ → α) (p2 : γ → β) (p3 : γ → δ) (p4 : γ → ε) (h1 : ∀ a b d e, p1 (mk a b d e) = a) (h2 : ∀ a b d e, p2 (mk a b d e) = b) (h3 : ∀ a b d e, p3 (mk a b d e) = d) (h4 : ∀ a b d e, p4 (mk a b d e) = e) : FCod γ where
  dec v := match v with
    | .agg (.cons a (.cons b (.cons d (.cons e .nil)))) => match ca.dec a, cb.dec b, cd.dec d, ce.dec e with
      | some x, some y, some z, some t => some fun ix => mk (x ix) (y ix) (z ix) (t ix)
      | _, _, _, _ => none
    | _ => none
  enc g := .agg (.cons (ca.enc fun ix => p1 (g ix)) (.cons (cb.enc fun ix => p2 (g ix)) (.cons (cd.enc fun ix => p3 (g ix)) (.cons (ce.enc fun ix => p4 (g ix)) .nil))))
  pf g := by simp [Rf.pf, ca.pf, cb.pf, cd.pf, ce.pf]
  dp d := ca.dp d && cb.dp d && cd.dp d && ce.dp d
  spec v x h := by
    split at h <;> try (simp at h; done)
    split at h <;> simp at h
    rename_i a b d e x1 y1 z1 t1 e1 e2 e3 e4
    subst h
    refine ⟨rfl, fun E ix hd => ?_⟩
    simp only [Bool.and_eq_true] at hd
    simp only [cells, (ca.spec _ _ e1).2 E ix hd.1.1.1, (cb.spec _ _ e2).2 E ix hd.1.1.2, (cd.spec _ _ e3).2 E ix hd.1.2, (ce.spec _ _ e4).2 E ix hd.2, h1, h2, h3, h4]
  bg _ _ := rfl
  loc E x y ix hd h := by
    simp only [Bool.and_eq_true] at hd
    simp only [cells]
    rw [ca.loc E _ (fun ix => p1 (y ix)) ix hd.1.1.1 (by simp only [h]), cb.loc E _ (fun ix => p2 (y ix)) ix hd.1.1.2 (by simp only [h]), cd.loc E _ (fun ix => p3 (y ix)) ix hd.1.2 (by simp only [h]), ce.loc E _ (fun ix => p4 (y ix)) ix hd.2 (by simp only [h])]

/-- An array inside an array. -/
def FCod.arrF {α : Type} (n : Nat) (c : FCod α) : FCod (Nat → α) where
  dec v := match v with
    | .arr m b => if m == n then match c.dec b with
      | some x => some fun ix i => x (ix ++ [i])
      | none => none
      else none
    | _ => none
  enc f := .arr n (c.enc fun ix => f [ix.headD 0] (ix.tail.headD 0))
  pf f := c.pf _
  dp d := d == 1 && c.dp 2
  spec v x h := by
    split at h <;> try (simp at h; done)
    rename_i m b
    split at h
    next hm =>
      split at h
      next y hy =>
        have hm : m = n := by simpa using hm
        simp only [Option.some.injEq] at h
        subst h; subst hm
        refine ⟨rfl, fun E ix hd => ?_⟩
        simp only [Bool.and_eq_true, beq_iff_eq] at hd
        obtain ⟨i, rfl⟩ := List.length_eq_one_iff.1 hd.1
        simp only [cells, List.cons_append, List.nil_append]
        refine congrArg (fun g => (List.range m).flatMap g) (funext fun j => ?_)
        rw [(c.spec _ _ hy).2 E [i, j] hd.2]
        exact c.loc E _ _ [i, j] hd.2 rfl
      next => simp at h
    next => simp at h
  bg _ _ := rfl
  loc E x y ix hd h := by
    simp only [Bool.and_eq_true, beq_iff_eq] at hd
    obtain ⟨i, rfl⟩ := List.length_eq_one_iff.1 hd.1
    simp only [cells, List.cons_append, List.nil_append]
    refine congrArg (fun g => (List.range n).flatMap g) (funext fun j => ?_)
    exact c.loc E _ _ [i, j] hd.2 (by simp only [List.headD_cons, List.tail_cons, h])

/-- A value. -/
structure Cod (α : Type) where
  dec : AV → Option α
  enc : α → AV
  pf : ∀ x, Rf.pf (enc x) = true
  spec : ∀ v x, dec v = some x → big v = big (enc x) ∧ ∀ E, cells E [] v = cells E [] (enc x)

def FCod.one {α : Type} (c : FCod α) (hd : c.dp 0 = true := by rfl) : Cod α where
  dec v := match c.dec v with
    | some x => some (x [])
    | none => none
  enc x := c.enc fun _ => x
  pf x := c.pf _
  spec v x h := by
    split at h <;> simp at h
    rename_i y hy
    subst h
    obtain ⟨h1, h2⟩ := c.spec v y hy
    exact ⟨by rw [h1]; exact c.bg _ _, fun E => by rw [h2 E [] hd]; exact c.loc E _ _ [] hd rfl⟩

def FCod.arr {α : Type} (n : Nat) (c : FCod α) (hd : c.dp 1 = true := by rfl) : Cod (Nat → α) where
  dec v := match v with
    | .arr m b => if m == n then match c.dec b with
      | some x => some fun i => x [i]
      | none => none
      else none
    | _ => none
  enc f := .arr n (c.enc fun ix => f (ix.headD 0))
  pf f := c.pf _
  spec v x h := by
    split at h <;> try (simp at h; done)
    rename_i m b
    split at h
    next hm =>
      split at h
      next y hy =>
        have hm : m = n := by simpa using hm
        simp only [Option.some.injEq] at h
        subst h; subst hm
        refine ⟨rfl, fun E => ?_⟩
        simp only [cells, List.nil_append]
        refine congrArg (fun g => (List.range m).flatMap g) (funext fun i => ?_)
        rw [(c.spec _ _ hy).2 E [i] hd]
        exact c.loc E _ _ [i] hd rfl
      next => simp at h
    next => simp at h

def Cod.agg2 {α β γ : Type} (ca : Cod α) (cb : Cod β) (mk : α → β → γ) (p1 : γ → α) (p2 : γ → β) (h1 : ∀ a b, p1 (mk a b) = a) (h2 : ∀ a b, p2 (mk a b) = b) : Cod γ where
  dec v := match v with
    | .agg (.cons a (.cons b .nil)) => match ca.dec a, cb.dec b with
      | some x, some y => some (mk x y)
      | _, _ => none
    | _ => none
  enc g := .agg (.cons (ca.enc (p1 g)) (.cons (cb.enc (p2 g)) .nil))
  pf g := by simp [Rf.pf, ca.pf, cb.pf]
  spec v x h := by
    split at h <;> try (simp at h; done)
    split at h <;> simp at h
    rename_i a b x1 y1 e1 e2
    subst h
    exact ⟨rfl, fun E => by simp only [cells, (ca.spec _ _ e1).2, (cb.spec _ _ e2).2, h1, h2]⟩

def Cod.agg3 {α β δ γ : Type} (ca : Cod α) (cb : Cod β) (cd : Cod δ) (mk : α → β → δ → γ) (p1 : γ → α) (p2 : γ → β) (p3 : γ → δ) (h1 : ∀ a b d, p1 (mk a b d) = a) (h2 : ∀ a b d, p2 (mk a b d) = b) (h3 : ∀ a b d, p3 (mk a b d) = d) : Cod γ where
  dec v := match v with
    | .agg (.cons a (.cons b (.cons d .nil))) => match ca.dec a, cb.dec b, cd.dec d with
      | some x, some y, some z => some (mk x y z)
      | _, _, _ => none
    | _ => none
  enc g := .agg (.cons (ca.enc (p1 g)) (.cons (cb.enc (p2 g)) (.cons (cd.enc (p3 g)) .nil)))
  pf g := by simp [Rf.pf, ca.pf, cb.pf, cd.pf]
  spec v x h := by
    split at h <;> try (simp at h; done)
    split at h <;> simp at h
    rename_i a b d x1 y1 z1 e1 e2 e3
    subst h
    exact ⟨rfl, fun E => by simp only [cells, (ca.spec _ _ e1).2, (cb.spec _ _ e2).2, (cd.spec _ _ e3).2, h1, h2, h3]⟩

theorem Cod.val {α : Type} (c : Cod α) {v : AV} {x : α} (h : c.dec v = some x) (E : Env) : Rf.val E v = Rf.val E (c.enc x) := by
  obtain ⟨h1, h2⟩ := c.spec v x h
  rw [val_by_cells, val_by_cells, h1, h2]

/-- What the evaluator says, put as v. -/
def Ev (P : Program) (Γ : Tab) (Λ : FuncId → Hook) (n : Nat) (f : FuncId) (args : List AV) (r : AV) : Prop :=
  ∃ v ob, evalFlat P Γ Λ n f args = some (v, ob) ∧ ob.holds ∧ pfT v = true ∧ valT E0 v = valT E0 r

def nrmLT : AV → Option AV
  | .nil => some .nil
  | .cons h t => match nrm h, nrmLT t with
    | some a, some b => some (.cons (canon a) b)
    | _, _ => none
  | _ => none

/-- In one form: numbers as bits, hanging from no index that is not there. -/
def nrmT : AV → Option AV
  | .tup fs => match nrmLT fs with
    | some l => some (.tup l)
    | none => none
  | v => match nrm v with
    | some u => some (canon u)
    | none => none

theorem nrmLT_spec : ∀ (v u : AV), nrmLT v = some u → pfL v = true ∧ pfL u = true ∧ ∀ E, vals E v = vals E u := by
  intro v
  induction v with
  | nil => intro u h; simp [nrmLT] at h; subst h; exact ⟨rfl, rfl, fun _ => rfl⟩
  | cons h t _ ih =>
    intro u hu
    simp only [nrmLT] at hu
    split at hu <;> simp at hu
    rename_i a b h1 h2
    subst hu
    obtain ⟨e1, e2, e3⟩ := ih b h2
    obtain ⟨n1, n2, _⟩ := nrm_spec _ _ h1
    refine ⟨by simp [pfL, n1, e1], by simp [pfL, (canon_cells E0 a).2.1, n2, e2], fun E => ?_⟩
    simp only [vals, e3, canon_val, nrm_val h1]
  | _ => intro u h; simp [nrmLT] at h

theorem nrmT_spec (v u : AV) (h : nrmT v = some u) : pfT v = true ∧ pfT u = true ∧ valT E0 v = valT E0 u := by
  have gen : ∀ v u : AV, (match nrm v with
    | some u => some (canon u)
    | none => none) = some u → pfT v = true ∧ pfT u = true ∧ valT E0 v = valT E0 u := by
    intro v u h
    split at h <;> simp at h
    rename_i u' hu
    subst h
    obtain ⟨n1, n2, _⟩ := nrm_spec _ _ hu
    have n3 : pf (canon u') = true := by rw [(canon_cells E0 u').2.1]; exact n2
    obtain ⟨a1, a2⟩ := pf_not_tup n1
    obtain ⟨b1, b2⟩ := pf_not_tup n3
    exact ⟨a1, b1, by rw [a2, b2, canon_val, nrm_val hu]⟩
  cases v with
  | tup fs =>
    simp only [nrmT] at h
    split at h <;> simp at h
    rename_i l hl
    subst h
    obtain ⟨e1, e2, e3⟩ := nrmLT_spec _ _ hl
    exact ⟨e1, e2, by simp only [valT, e3]⟩
  | _ => exact gen _ _ h

def evalN (P : Program) (Γ : Tab) (Λ : FuncId → Hook) (n : Nat) (f : FuncId) (args : List AV) : Option (AV × Ob) :=
  match evalFlat P Γ Λ n f args with
  | some (v, ob) => match nrmT v with
    | some u => some (u, ob)
    | none => none
  | none => none

theorem Ev.ob {P : Program} {Γ : Tab} {Λ : FuncId → Hook} {n : Nat} {f : FuncId} {args : List AV} {r : AV} {ob : Ob} (h : evalN P Γ Λ n f args = some (r, ob)) (ho : ob.holds) : Ev P Γ Λ n f args r := by
  unfold evalN at h
  split at h <;> try (simp at h; done)
  rename_i v ob' h1
  split at h <;> simp at h
  rename_i u hu
  obtain ⟨rfl, rfl⟩ := h
  obtain ⟨e1, e2, e3⟩ := nrmT_spec _ _ hu
  exact ⟨v, ob', h1, ho, e1, e3⟩

theorem Ev.of {P : Program} {Γ : Tab} {Λ : FuncId → Hook} {n : Nat} {f : FuncId} {args : List AV} {r : AV} (h : evalN P Γ Λ n f args = some (r, .tt)) : Ev P Γ Λ n f args r :=
  Ev.ob h trivial

theorem Ev.calls {P : Program} {Γ : Tab} (hΓ : TabOk P Γ) {Λ : FuncId → Hook} {n : Nat} {f : FuncId} {args : List AV} {r : AV} (h : Ev P Γ Λ n f args r) (ha : ∀ v ∈ args, pf v = true) (w : World) :
    Calls P f (args.map (val E0)).toArray w fun e w' => e = .returned (valT E0 r) ∧ RowKit.Below w.heap.size w w' := by
  obtain ⟨v, ob, h1, h2, h3, h4⟩ := h
  have := (evalFlat_calls hΓ h1 h2 ha h3).2 w
  rw [h4] at this
  exact this

def con0 (g : AV) : Con
  | [] => some (g, .tt)
  | _ => none
def con1 {α : Type} (ca : Cod α) (g : α → AV) : Con
  | [a] => match ca.dec a with
    | some x => some (g x, .tt)
    | none => none
  | _ => none
def con2 {α β : Type} (ca : Cod α) (cb : Cod β) (g : α → β → AV) : Con
  | [a, b] => match ca.dec a, cb.dec b with
    | some x, some y => some (g x y, .tt)
    | _, _ => none
  | _ => none
def con3 {α β γ : Type} (ca : Cod α) (cb : Cod β) (cc : Cod γ) (g : α → β → γ → AV) : Con
  | [a, b, c] => match ca.dec a, cb.dec b, cc.dec c with
    | some x, some y, some z => some (g x y z, .tt)
    | _, _, _ => none
  | _ => none
def con4 {α β γ δ : Type} (ca : Cod α) (cb : Cod β) (cc : Cod γ) (cd : Cod δ) (g : α → β → γ → δ → AV) : Con
  | [a, b, c, d] => match ca.dec a, cb.dec b, cc.dec c, cd.dec d with
    | some x, some y, some z, some t => some (g x y z t, .tt)
    | _, _, _, _ => none
  | _ => none

section

theorem con0_ok {P : Program} {Γ : Tab} (hΓ : TabOk P Γ) {Λ : FuncId → Hook} (n : Nat) {f : FuncId} {g : AV} (hg : pfT g = true) (h : Ev P Γ Λ n f [] g) : ConOk P f (con0 g) := by
  intro args r ob hK hob ha
  unfold con0 at hK
  split at hK <;> simp at hK
  obtain ⟨rfl, rfl⟩ := hK
  exact ⟨hg, fun w => h.calls hΓ ha w⟩

theorem con1_ok {P : Program} {Γ : Tab} (hΓ : TabOk P Γ) {Λ : FuncId → Hook} (n : Nat) {f : FuncId} {α : Type} {ca : Cod α} {g : α → AV} (hg : ∀ x, pfT (g x) = true) (h : ∀ x, Ev P Γ Λ n f [ca.enc x] (g x)) : ConOk P f (con1 ca g) := by
  intro args r ob hK hob ha
  unfold con1 at hK
  split at hK <;> try (simp at hK; done)
  split at hK <;> simp at hK
  rename_i a x e1
  obtain ⟨rfl, rfl⟩ := hK
  refine ⟨hg _, fun w => ?_⟩
  have := (h x).calls hΓ (by simp [ca.pf]) w
  simp only [List.map_cons, List.map_nil, ← ca.val e1] at this ⊢
  exact this

theorem con2_ok {P : Program} {Γ : Tab} (hΓ : TabOk P Γ) {Λ : FuncId → Hook} (n : Nat) {f : FuncId} {α β : Type} {ca : Cod α} {cb : Cod β} {g : α → β → AV} (hg : ∀ x y, pfT (g x y) = true) (h : ∀ x y, Ev P Γ Λ n f [ca.enc x, cb.enc y] (g x y)) : ConOk P f (con2 ca cb g) := by
  intro args r ob hK hob ha
  unfold con2 at hK
  split at hK <;> try (simp at hK; done)
  split at hK <;> simp at hK
  rename_i a b x y e1 e2
  obtain ⟨rfl, rfl⟩ := hK
  refine ⟨hg _ _, fun w => ?_⟩
  have := (h x y).calls hΓ (by simp [ca.pf, cb.pf]) w
  simp only [List.map_cons, List.map_nil, ← ca.val e1, ← cb.val e2] at this ⊢
  exact this

theorem con3_ok {P : Program} {Γ : Tab} (hΓ : TabOk P Γ) {Λ : FuncId → Hook} (n : Nat) {f : FuncId} {α β γ : Type} {ca : Cod α} {cb : Cod β} {cc : Cod γ} {g : α → β → γ → AV} (hg : ∀ x y z, pfT (g x y z) = true) (h : ∀ x y z, Ev P Γ Λ n f [ca.enc x, cb.enc y, cc.enc z] (g x y z)) : ConOk P f (con3 ca cb cc g) := by
  intro args r ob hK hob ha
  unfold con3 at hK
  split at hK <;> try (simp at hK; done)
  split at hK <;> simp at hK
  rename_i a b c x y z e1 e2 e3
  obtain ⟨rfl, rfl⟩ := hK
  refine ⟨hg _ _ _, fun w => ?_⟩
  have := (h x y z).calls hΓ (by simp [ca.pf, cb.pf, cc.pf]) w
  simp only [List.map_cons, List.map_nil, ← ca.val e1, ← cb.val e2, ← cc.val e3] at this ⊢
  exact this

theorem con4_ok {P : Program} {Γ : Tab} (hΓ : TabOk P Γ) {Λ : FuncId → Hook} (n : Nat) {f : FuncId} {α β γ δ : Type} {ca : Cod α} {cb : Cod β} {cc : Cod γ} {cd : Cod δ} {g : α → β → γ → δ → AV} (hg : ∀ x y z t, pfT (g x y z t) = true) (h : ∀ x y z t, Ev P Γ Λ n f [ca.enc x, cb.enc y, cc.enc z, cd.enc t] (g x y z t)) : ConOk P f (con4 ca cb cc cd g) := by
  intro args r ob hK hob ha
  unfold con4 at hK
  split at hK <;> try (simp at hK; done)
  split at hK <;> simp at hK
  rename_i a b c d x y z t e1 e2 e3 e4
  obtain ⟨rfl, rfl⟩ := hK
  refine ⟨hg _ _ _ _, fun w => ?_⟩
  have := (h x y z t).calls hΓ (by simp [ca.pf, cb.pf, cc.pf, cd.pf]) w
  simp only [List.map_cons, List.map_nil, ← ca.val e1, ← cb.val e2, ← cc.val e3, ← cd.val e4] at this ⊢
  exact this
end

/-- As a contract, one whose answer is said otherwise. -/
theorem ConOk.as {P : Program} {f : FuncId} {K K' : Con} (h : ConOk P f K) (he : ∀ args r ob, K' args = some (r, ob) → ∃ r' , K args = some (r', ob) ∧ pfT r = true ∧ valT E0 r' = valT E0 r) : ConOk P f K' := by
  intro args r ob hK hob ha
  obtain ⟨r', h1, h2, h3⟩ := he args r ob hK
  exact ⟨h2, fun w => by rw [← h3]; exact (h args r' ob h1 hob ha).2 w⟩

end Go.Rf

/- Loops: what one round does, what the whole loop does. -/
namespace Go.Rf

inductive Rd (σ : Type) where
  | norm (s : σ)
  | exit (id : Nat) (s : σ)
  | ret (s : σ)
  | br (b : Bool) (x y : Rd σ)

def Rd.map {σ τ : Type} (f : σ → τ) : Rd σ → Rd τ
  | .norm s => .norm (f s)
  | .exit id s => .exit id (f s)
  | .ret s => .ret (f s)
  | .br b x y => .br b (x.map f) (y.map f)

def Rd.sel {σ : Type} : Rd σ → Rd σ
  | .br b x y => if b = true then x.sel else y.sel
  | r => r

theorem Rd.sel_map {σ τ : Type} (f : σ → τ) : ∀ r : Rd σ, (r.map f).sel = r.sel.map f
  | .norm s => rfl
  | .exit id s => rfl
  | .ret s => rfl
  | .br b x y => by
    simp only [Rd.map, Rd.sel]
    cases b
    · simpa using sel_map f y
    · simpa using sel_map f x

theorem Rd.sel_no_br {σ : Type} : ∀ (r : Rd σ) {b : Bool} {x y : Rd σ}, r.sel ≠ .br b x y
  | .norm s, _, _, _ => by simp [Rd.sel]
  | .exit id s, _, _, _ => by simp [Rd.sel]
  | .ret s, _, _, _ => by simp [Rd.sel]
  | .br b x y, _, _, _ => by
    simp only [Rd.sel]
    cases b
    · simpa using sel_no_br y
    · simpa using sel_no_br x

/-- The temporaries that code writes. -/
def wrOps : List Oper → List Nat
  | [] => []
  | o :: l => match o.dst with
    | some t => t :: wrOps l
    | none => wrOps l
def wr : Code → List Nat
  | .region _ ops _ => wrOps ops.toList
  | .seq x y => wr x ++ wr y
  | .cond _ x y => wr x ++ wr y
  | .block _ x => wr x
  | .loop x => wr x
  | _ => []
def wrAt (P : Program) (f : FuncId) (p : List Nat) : List Nat := wr (loopAt P f p)

abbrev Pack := List AV × List Blk

/-- What a loop is about: its temporaries, its blocks, what it only scribbles on; its states. -/
structure Lp (σ : Type) where
  keys : List Nat
  names : List Nat
  scr : List Nat
  vals : σ → List AV
  blks : σ → List Blk
  dec : List AV → List Blk → Option σ
  /-- Blocks that it only reads. -/
  fx : List (Nat × Option Blk) := []

def Lp.pack {σ : Type} (L : Lp σ) (s : σ) : Pack := (L.vals s, L.blks s)

def hz : List Nat → List Blk → List (Nat × Option Blk)
  | n :: ns, b :: bs => (n, some b) :: hz ns bs
  | _, _ => []
def kz : List Nat → List AV → List (Nat × AV)
  | n :: ns, b :: bs => (n, b) :: kz ns bs
  | _, _ => []
def uns : List Nat → List (Nat × AV)
  | [] => []
  | n :: ns => (n, .un) :: uns ns

def Lp.st {σ : Type} (L : Lp σ) (s : σ) (r : Nat → AV) (h : Hp) (next nt lo : Nat) : St :=
  ⟨kz L.keys (L.vals s) ++ uns L.scr, r, hz L.names (L.blks s), fixH L.fx h, next, nt, lo⟩
def Lp.ent {σ : Type} (L : Lp σ) (s : σ) (r : Nat → AV) (h : Hp) (next nt lo : Nat) : St :=
  ⟨kz L.keys (L.vals s), r, hz L.names (L.blks s), fixH L.fx h, next, nt, lo⟩

def Lp.ot {σ : Type} (L : Lp σ) : Rd σ → OT
  | .norm s => .norm (kz L.keys (L.vals s) ++ uns L.scr) (hz L.names (L.blks s))
  | .exit id s => .exit id (kz L.keys (L.vals s) ++ uns L.scr) (hz L.names (L.blks s))
  | .ret s => .ret (kz L.keys (L.vals s) ++ uns L.scr) (hz L.names (L.blks s))
  | .br b x y => .br b (Lp.ot L x) (Lp.ot L y)

def vals2 : List (Nat × AV) → List AV
  | [] => []
  | x :: l => x.2 :: vals2 l
def blks2 : List (Nat × Option Blk) → Option (List Blk)
  | [] => some []
  | x :: l => match x.2, blks2 l with
    | some b, some m => some (b :: m)
    | _, _ => none

def Lp.hk {σ : Type} (L : Lp σ) (T : σ → Rd σ) : Hk where
  keys := L.keys
  names _ := L.names
  fix := L.fx.map (·.1)
  out kv hb := match blks2 hb with
    | some bs => match L.dec (vals2 kv) bs with
      | some s => some (L.ot (T s))
      | none => none
    | none => none

def LoopGoal {σ : Type} (P : Program) (c : Code) (L : Lp σ) (T : σ → Rd σ) (s : σ) (next nt lo : Nat) : Prop :=
  ∀ r h, LoopOk P c (L.ent s r h next nt lo) ((L.ot (T s)).app (L.ent s r h next nt lo))

def memN (t : Nat) : List Nat → Bool
  | [] => false
  | k :: l => k == t || memN t l

def nltB (n : Nat) : AV → Bool
  | .cons h t => nltB n h && nltB n t
  | .agg fs => nltB n fs
  | .tup fs => nltB n fs
  | .arr _ b => nltB n b
  | .ptr m _ => Nat.blt m n
  | .slc m _ _ _ => Nat.blt m n
  | .fn _ cap => nltB n cap
  | .raw _ v _ _ => nltB n v
  | _ => true

theorem nltB_nlt {n : Nat} : ∀ {v : AV}, nltB n v = true → nlt n v := by
  intro v
  induction v with
  | cons a b iha ihb => intro h; simp only [nltB, Bool.and_eq_true] at h; exact ⟨iha h.1, ihb h.2⟩
  | agg fs ih => exact ih
  | tup fs ih => exact ih
  | arr m b ih => exact ih
  | fn f cap ih => exact ih
  | raw pre v post fz ih => exact ih
  | ptr m p => intro h; simp only [nltB, Nat.blt_eq] at h; exact h
  | slc m p len cap => intro h; simp only [nltB, Nat.blt_eq] at h; exact h
  | _ => intro _; trivial

def lkAll (N : Nat) (st : St) : List Nat → Option (List AV)
  | [] => some []
  | t :: l => match lkAll N st l with
    | some m => if nltB N (nrmK (st.look t)) then some (nrmK (st.look t) :: m) else none
    | none => none
def hkAll (N : Nat) (st : St) : List Nat → Option (List Blk)
  | [] => some []
  | n :: l => match nrmBlk (st.hp n), hkAll N st l with
    | some b, some m => if nltB N b.v && Nat.blt n N then some (b :: m) else none
    | _, _ => none
def entIn (keys scr : List Nat) : List (Nat × AV) → Bool
  | [] => true
  | x :: l => (memN x.1 keys || memN x.1 scr) && entIn keys scr l
def hentIn (N : Nat) (names : List Nat) : List (Nat × Option Blk) → Bool
  | [] => true
  | x :: l => (memN x.1 names || Nat.ble N x.1) && hentIn N names l

def leafOf (N : Nat) (keys scr names : List Nat) (st : St) : Option Pack :=
  if entIn keys scr st.ent && hentIn N names st.hent then match lkAll N st keys, hkAll N st names with
    | some vs, some bs => some (vs, bs)
    | _, _ => none
  else none

def roundOf (N : Nat) (keys scr names : List Nat) : Outc → Option (Rd Pack)
  | .norm st => match leafOf N keys scr names st with
    | some x => some (.norm x)
    | none => none
  | .exit id st => match leafOf N keys scr names st with
    | some x => some (.exit id x)
    | none => none
  | .ret st => match leafOf N keys scr names st with
    | some x => some (.ret x)
    | none => none
  | .br b x y => match roundOf N keys scr names x, roundOf N keys scr names y with
    | some r, some s => some (.br b r s)
    | _, _ => none

def evalRound (cx : Cx) (Λ : Hook) (c : Code) (p : List Nat) (st : St) (N : Nat) (keys scr names : List Nat) : Option (Rd Pack × Ob) :=
  match evalCode cx Λ c p st with
  | some (o, ob) => match roundOf N keys scr names o with
    | some r => some (r, ob)
    | none => none
  | none => none

/-! ### It keeps what it does not write -/

def Keeps (s0 st : St) : Prop := st.rest = s0.rest ∧ st.hrest = s0.hrest ∧ st.nt = s0.nt ∧ st.lo = s0.lo
def KeepO (s0 : St) : Outc → Prop
  | .norm st => Keeps s0 st
  | .exit _ st => Keeps s0 st
  | .ret st => Keeps s0 st
  | .br _ x y => KeepO s0 x ∧ KeepO s0 y

theorem Keeps.refl (s : St) : Keeps s s := ⟨rfl, rfl, rfl, rfl⟩
theorem Keeps.trans {a b c : St} (h : Keeps a b) (h' : Keeps b c) : Keeps a c := ⟨h'.1.trans h.1, h'.2.1.trans h.2.1, h'.2.2.1.trans h.2.2.1, h'.2.2.2.trans h.2.2.2⟩
theorem KeepO.trans {a b : St} (h : Keeps a b) : ∀ {o : Outc}, KeepO b o → KeepO a o
  | .norm _, h' => Keeps.trans h h'
  | .exit _ _, h' => Keeps.trans h h'
  | .ret _, h' => Keeps.trans h h'
  | .br _ _ _, h' => ⟨KeepO.trans h h'.1, KeepO.trans h h'.2⟩

theorem app_keep {st : St} : ∀ {ot : OT}, KeepO st (ot.app st)
  | .norm _ _ => Keeps.refl _
  | .exit _ _ _ => Keeps.refl _
  | .ret _ _ => Keeps.refl _
  | .br _ _ _ => ⟨app_keep, app_keep⟩

theorem evalRegion_keep {cx : Cx} {ops : Array Oper} {draw : Bool} {st st' : St} {ob : Ob} (h : evalRegion cx ops draw st = some (st', ob)) : Keeps st st' := by
  unfold evalRegion at h
  split at h <;> try (simp at h; done)
  split at h <;> simp at h
  rw [← h.1]
  exact ⟨rfl, rfl, rfl, rfl⟩

theorem bind_keep {s0 : St} {f : St → Option (Outc × Ob)} (hf : ∀ st o ob, Keeps s0 st → f st = some (o, ob) → KeepO s0 o) : ∀ {o o' : Outc} {ob : Ob}, o.bind f = some (o', ob) → KeepO s0 o → KeepO s0 o'
  | .norm st, o', ob, h, hr => hf st o' ob hr h
  | .exit id st, o', ob, h, hr => by simp only [Outc.bind, Option.some.injEq, Prod.mk.injEq] at h; rw [← h.1]; exact hr
  | .ret st, o', ob, h, hr => by simp only [Outc.bind, Option.some.injEq, Prod.mk.injEq] at h; rw [← h.1]; exact hr
  | .br b x y, o', ob, h, hr => by
    simp only [Outc.bind] at h
    split at h <;> simp at h
    · rename_i x' p y' q hx hy
      rw [← h.1]
      exact ⟨bind_keep hf hx hr.1, bind_keep hf hy hr.2⟩
    · rename_i x' p hx hy
      rw [← h.1]
      exact bind_keep hf hx hr.1
    · rename_i y' q hx hy
      rw [← h.1]
      exact bind_keep hf hy hr.2

theorem inBlock_keep {s0 : St} {id : Nat} : ∀ {o : Outc}, KeepO s0 o → KeepO s0 (o.inBlock id)
  | .norm st, h => h
  | .exit id' st, h => by simp only [Outc.inBlock]; split <;> exact h
  | .ret st, h => h
  | .br b x y, h => ⟨inBlock_keep h.1, inBlock_keep h.2⟩

theorem evalCode_keep {cx : Cx} {Λ : Hook} : ∀ (c : Code) (p : List Nat) (st : St) (o : Outc) (ob : Ob), evalCode cx Λ c p st = some (o, ob) → KeepO st o := by
  intro c
  induction c with
  | skip => intro p st o ob h; simp [evalCode] at h; rw [← h.1]; exact Keeps.refl _
  | label l => intro p st o ob h; simp [evalCode] at h; rw [← h.1]; exact Keeps.refl _
  | region id ops draw =>
    intro p st o ob h
    simp only [evalCode] at h
    split at h <;> simp at h
    rename_i st' ob' hr
    rw [← h.1]
    exact evalRegion_keep hr
  | seq x y ihx ihy =>
    intro p st o ob h
    simp only [evalCode] at h
    split at h <;> try (simp at h; done)
    rename_i o1 q1 h1
    split at h <;> simp at h
    rename_i o2 q2 h2
    rw [← h.1]
    exact bind_keep (fun st' o ob e h => KeepO.trans e (ihy _ st' o ob h)) h2 (ihx _ st o1 q1 h1)
  | cond c x y ihx ihy =>
    intro p st o ob h
    simp only [evalCode] at h
    split at h <;> try (simp at h; done)
    · exact ihx _ st o ob h
    · exact ihy _ st o ob h
    · split at h <;> simp at h
      · rename_i o1 q1 o2 q2 h1 h2
        rw [← h.1]
        exact ⟨ihx _ st o1 q1 h1, ihy _ st o2 q2 h2⟩
      · rename_i o1 q1 h1 h2
        rw [← h.1]
        exact ihx _ st o1 q1 h1
      · rename_i o2 q2 h1 h2
        rw [← h.1]
        exact ihy _ st o2 q2 h2
  | block id x ih =>
    intro p st o ob h
    simp only [evalCode] at h
    split at h <;> simp at h
    rename_i o1 q1 h1
    rw [← h.1]
    exact inBlock_keep (ih _ st o1 q1 h1)
  | loop x ih =>
    intro p st o ob h
    simp only [evalCode] at h
    split at h <;> try (simp at h; done)
    split at h <;> simp at h
    rw [← h.1]
    exact app_keep
  | exit id => intro p st o ob h; simp [evalCode] at h; rw [← h.1]; exact Keeps.refl _
  | ret => intro p st o ob h; simp [evalCode] at h; rw [← h.1]; exact Keeps.refl _
  | _ => intro p st o ob h; simp [evalCode] at h

/-! ### From the end of a round to the head of the next -/

def stOf (keys scr names : List Nat) (x : Pack) (r : Nat → AV) (h : Hp) (next nt lo : Nat) : St :=
  ⟨kz keys x.1 ++ uns scr, r, hz names x.2, h, next, nt, lo⟩

theorem lkAll_look {N : Nat} {st : St} {t : Nat} : ∀ {keys : List Nat} {vs : List AV}, lkAll N st keys = some vs →
    lookL (kz keys vs) t = (if memN t keys = true then some (nrmK (st.look t)) else none) ∧ (memN t keys = true → nlt N (nrmK (st.look t)))
  | [], vs, h => by simp [lkAll] at h; subst h; simp [kz, lookL, memN]
  | k :: l, vs, h => by
    simp only [lkAll] at h
    split at h <;> try (simp at h; done)
    rename_i m hm
    split at h <;> simp at h
    rename_i hn
    subst h
    obtain ⟨i1, i2⟩ := lkAll_look (t := t) hm
    by_cases hk : k = t
    · subst hk
      simp only [kz, lookL, memN, beq_self_eq_true, Bool.true_or, if_true]
      exact ⟨by simp, fun _ => nltB_nlt hn⟩
    · have e : (k == t) = false := by simpa using hk
      simp only [kz, lookL, memN, e, Bool.false_or, Bool.false_eq_true, if_false]
      exact ⟨i1, i2⟩

theorem hkAll_look {N : Nat} {st : St} {n : Nat} : ∀ {names : List Nat} {bs : List Blk}, hkAll N st names = some bs →
    hwL (hz names bs) n = (if memN n names = true then some (nrmBlk (st.hp n)) else none) ∧ (memN n names = true → n < N ∧ ∀ B, nrmBlk (st.hp n) = some B → nlt N B.v)
  | [], bs, h => by simp [hkAll] at h; subst h; simp [hz, hwL, memN]
  | k :: l, bs, h => by
    simp only [hkAll] at h
    split at h <;> try (simp at h; done)
    rename_i b m hb hm
    split at h <;> simp at h
    rename_i hn
    simp only [Bool.and_eq_true, Nat.blt_eq] at hn
    subst h
    obtain ⟨i1, i2⟩ := hkAll_look (n := n) hm
    by_cases hk : k = n
    · subst hk
      simp only [hz, hwL, memN, beq_self_eq_true, Bool.true_or, if_true, hb]
      exact ⟨by simp, fun _ => ⟨hn.2, fun B hB => by cases hB; exact nltB_nlt hn.1⟩⟩
    · have e : (k == n) = false := by simpa using hk
      simp only [hz, hwL, memN, e, Bool.false_or, Bool.false_eq_true, if_false]
      exact ⟨i1, i2⟩

theorem kz_none {t : Nat} : ∀ {keys : List Nat} {vs : List AV}, memN t keys = false → lookL (kz keys vs) t = none
  | [], vs, h => by cases vs <;> rfl
  | k :: l, [], h => rfl
  | k :: l, v :: vs, h => by
    simp only [memN, Bool.or_eq_false_iff] at h
    simp only [kz, lookL, h.1, Bool.false_eq_true, if_false]
    exact kz_none h.2

theorem hz_none {t : Nat} : ∀ {keys : List Nat} {vs : List Blk}, memN t keys = false → hwL (hz keys vs) t = none
  | [], vs, h => by cases vs <;> rfl
  | k :: l, [], h => rfl
  | k :: l, v :: vs, h => by
    simp only [memN, Bool.or_eq_false_iff] at h
    simp only [hz, hwL, h.1, Bool.false_eq_true, if_false]
    exact hz_none h.2

theorem uns_look {t : Nat} : ∀ {scr : List Nat}, lookL (uns scr) t = if memN t scr = true then some .un else none
  | [] => rfl
  | k :: l => by
    by_cases hk : k = t
    · subst hk
      simp [uns, lookL, memN]
    · have e : (k == t) = false := by simpa using hk
      have ih := uns_look (t := t) (scr := l)
      simp [uns, lookL, memN, e, ih, hk]

theorem entIn_none {keys scr : List Nat} {t : Nat} (h1 : memN t keys = false) (h2 : memN t scr = false) : ∀ {l : List (Nat × AV)}, entIn keys scr l = true → lookL l t = none
  | [], _ => rfl
  | (k, v) :: l, h => by
    simp only [entIn, Bool.and_eq_true, Bool.or_eq_true] at h
    have : (k == t) = false := by
      cases e : k == t
      · rfl
      · simp at e; subst e; simp [h1, h2] at h
    simp only [lookL, this, Bool.false_eq_true, if_false]
    exact entIn_none h1 h2 h.2

theorem hentIn_none {N : Nat} {names : List Nat} {n : Nat} (h1 : memN n names = false) (h2 : n < N) : ∀ {l : List (Nat × Option Blk)}, hentIn N names l = true → hwL l n = none
  | [], _ => rfl
  | (k, v) :: l, h => by
    simp only [hentIn, Bool.and_eq_true, Bool.or_eq_true, Nat.ble_eq] at h
    have : (k == n) = false := by
      cases e : k == n
      · rfl
      · simp at e; subst e; simp [h1] at h; omega
    simp only [hwL, this, Bool.false_eq_true, if_false]
    exact hentIn_none h1 h2 h.2

theorem leaf_ent {N : Nat} {keys scr names : List Nat} {st s0 : St} {x : Pack} (h : leafOf N keys scr names st = some x) (hk : Keeps s0 st)
    (hN : (∀ t, memN t keys = false → memN t scr = false → nlt N (s0.rest t)) ∧ (∀ n B, memN n names = false → s0.hrest n = some B → n < N ∧ nlt N B.v) ∧ s0.lo ≤ N)
    {Es : Env} {ws : World} {a : Act} {w : World} (hs : SRel Es ws st a w) : SRel Es ws (stOf keys scr names x s0.rest s0.hrest N s0.nt s0.lo) a w := by
  unfold leafOf at h
  split at h <;> try (simp at h; done)
  rename_i hin
  simp only [Bool.and_eq_true] at hin
  split at h <;> simp at h
  rename_i vs bs h1 h2
  subst h
  have hs2 := keySt_rel hs keys names
  refine Ent.rel (st := keySt st keys names) ⟨fun t => ?_, fun n B hB => ?_, ?_, ?_, ?_⟩ hs2
  · obtain ⟨e1, e2⟩ := lkAll_look (t := t) h1
    simp only [stOf, St.look, lookL_append, e1, uns_look]
    cases m1 : memN t keys with
    | true =>
      right
      simp only [if_true]
      refine ⟨?_, e2 m1⟩
      simp only [keySt]
      have key : ∀ l : List Nat, memN t l = true → lookL (keyVals st l) t = some (nrmK (st.look t)) := by
        intro l
        induction l with
        | nil => intro h; simp [memN] at h
        | cons k l ih =>
          intro h
          simp only [keyVals, lookL]
          by_cases hk : k = t
          · subst hk; simp
          · have e : (k == t) = false := by simpa using hk
            simp only [memN, e, Bool.false_or] at h
            simp only [e, Bool.false_eq_true, if_false]
            exact ih h
      rw [key keys m1]
      rfl
    | false =>
      cases m2 : memN t scr with
      | true => left; simp
      | false =>
        right
        simp only [Bool.false_eq_true, if_false]
        refine ⟨?_, hN.1 t m1 m2⟩
        simp only [keySt]
        have key : ∀ l : List Nat, memN t l = false → lookL (keyVals st l) t = none := by
          intro l
          induction l with
          | nil => intro h; rfl
          | cons k l ih =>
            intro h
            simp only [memN, Bool.or_eq_false_iff] at h
            simp only [keyVals, lookL, h.1, Bool.false_eq_true, if_false]
            exact ih h.2
        rw [key keys m1]
        simp only [St.look, entIn_none m1 m2 hin.1]
        rw [hk.1]
  · obtain ⟨e1, e2⟩ := hkAll_look (n := n) h2
    simp only [stOf, St.hp, e1] at hB
    cases m1 : memN n names with
    | true =>
      rw [m1] at hB
      simp only [if_true] at hB
      obtain ⟨k1, k2⟩ := e2 m1
      refine ⟨?_, k1, k2 B hB⟩
      simp only [keySt, St.hp]
      have key : ∀ l : List Nat, memN n l = true → hwL (keyBlks st l) n = some (nrmBlk (st.hp n)) := by
        intro l
        induction l with
        | nil => intro h; simp [memN] at h
        | cons k l ih =>
          intro h
          simp only [keyBlks, hwL]
          by_cases hk : k = n
          · subst hk; simp
          · have e : (k == n) = false := by simpa using hk
            simp only [memN, e, Bool.false_or] at h
            simp only [e, Bool.false_eq_true, if_false]
            exact ih h
      rw [key names m1]
      exact hB
    | false =>
      rw [m1] at hB
      simp only [Bool.false_eq_true, if_false] at hB
      obtain ⟨k1, k2⟩ := hN.2.1 n B m1 hB
      refine ⟨?_, k1, k2⟩
      simp only [keySt, St.hp]
      have key : ∀ l : List Nat, memN n l = false → hwL (keyBlks st l) n = none := by
        intro l
        induction l with
        | nil => intro h; rfl
        | cons k l ih =>
          intro h
          simp only [memN, Bool.or_eq_false_iff] at h
          simp only [keyBlks, hwL, h.1, Bool.false_eq_true, if_false]
          exact ih h.2
      rw [key names m1]
      simp only [hentIn_none m1 k1 hin.2]
      rw [hk.2.1]
      exact hB
  · simp only [stOf, keySt, hk.2.2.1]
  · simp only [stOf, keySt, hk.2.2.2]
  · simp only [stOf, keySt]
    rw [hk.2.2.2]
    exact hN.2.2

/-- What a round came to. -/
def MatchP (Es : Env) (ws : World) (f : Pack → St) : Rd Pack → Exit → Act → World → Prop
  | .norm x, .normal, a, w => SRel Es ws (f x) a w
  | .exit id x, .exit id', a, w => id' = id ∧ SRel Es ws (f x) a w
  | .ret x, .ret, a, w => SRel Es ws (f x) a w
  | _, _, _, _ => False

theorem round_match {N : Nat} {keys scr names : List Nat} {s0 : St}
    (hN : (∀ t, memN t keys = false → memN t scr = false → nlt N (s0.rest t)) ∧ (∀ n B, memN n names = false → s0.hrest n = some B → n < N ∧ nlt N B.v) ∧ s0.lo ≤ N)
    {Es : Env} {ws : World} : ∀ {o : Outc} {r : Rd Pack}, roundOf N keys scr names o = some r → KeepO s0 o → ∀ {e : Exit} {a : Act} {w : World}, MatchO Es ws o e a w →
    MatchP Es ws (fun x => stOf keys scr names x s0.rest s0.hrest N s0.nt s0.lo) r.sel e a w
  | .norm st, r, h, hk, e, a, w, hm => by
    simp only [roundOf] at h
    split at h <;> simp at h
    rename_i x hx
    subst h
    cases e <;> simp only [MatchO] at hm
    exact leaf_ent hx hk hN hm
  | .exit id st, r, h, hk, e, a, w, hm => by
    simp only [roundOf] at h
    split at h <;> simp at h
    rename_i x hx
    subst h
    cases e <;> simp only [MatchO] at hm
    exact ⟨hm.1, leaf_ent hx hk hN hm.2⟩
  | .ret st, r, h, hk, e, a, w, hm => by
    simp only [roundOf] at h
    split at h <;> simp at h
    rename_i x hx
    subst h
    cases e <;> simp only [MatchO] at hm
    exact leaf_ent hx hk hN hm
  | .br b x y, r, h, hk, e, a, w, hm => by
    simp only [roundOf] at h
    split at h <;> simp at h
    rename_i r1 r2 h1 h2
    subst h
    simp only [MatchO] at hm
    cases b with
    | true =>
      simp only [if_true] at hm
      simp only [Rd.sel, if_true]
      exact round_match hN h1 hk.1 hm
    | false =>
      simp only [Bool.false_eq_true, if_false] at hm
      simp only [Rd.sel, Bool.false_eq_true, if_false]
      exact round_match hN h2 hk.2 hm

theorem ot_sel {σ : Type} (L : Lp σ) {st : St} {Es : Env} {ws : World} {e : Exit} {a : Act} {w : World} : ∀ (T : Rd σ), MatchO Es ws ((L.ot T.sel).app st) e a w → MatchO Es ws ((L.ot T).app st) e a w
  | .norm s, h => h
  | .exit id s, h => h
  | .ret s, h => h
  | .br b x y, h => by
    simp only [Lp.ot, OT.app, MatchO]
    cases b with
    | true => simp only [Rd.sel, if_true] at h ⊢; exact ot_sel L x h
    | false => simp only [Rd.sel, Bool.false_eq_true, if_false] at h ⊢; exact ot_sel L y h

theorem SRel_congr {Es : Env} {ws : World} {st st' : St} {a : Act} {w : World} (h1 : ∀ t, st'.look t = st.look t) (h2 : ∀ n, st'.hp n = st.hp n) (h3 : st'.next = st.next) (h4 : st'.nt = st.nt) (h5 : st'.lo = st.lo) (hs : SRel Es ws st a w) : SRel Es ws st' a w := by
  obtain ⟨E, k1, k2, k3, k4, k5, k6, k7, k8, k9, k10⟩ := hs
  refine ⟨E, fun t => by rw [h1]; exact k1 t, by rw [h4]; exact k2, k3, fun n B hB => k4 n B (by rw [← h2]; exact hB), k5, k6, by rw [h3]; exact k7, k8, by rw [h5]; exact k9, by rw [h3, h5]; exact k10⟩

def Good {σ : Type} (inv : σ → Prop) (μ : σ → Nat) (T : σ → Rd σ) (s : σ) : Rd σ → Prop
  | .norm s' => inv s' ∧ μ s' < μ s ∧ (T s').sel = (T s).sel
  | r => (T s).sel = r

def ends {σ : Type} : Rd σ → Prop
  | .exit _ _ => True
  | .ret _ => True
  | _ => False

/-- A loop: its rounds do as step says; from each state it ends as T says. -/
theorem lp_rule {cx : Cx} (hΓ : TabOk cx.P cx.Γ) (hI : InlOk cx.P cx.inl) {Λ : Hook} {p : List Nat} {c : Code} {σ : Type}
    (L : Lp σ) (inv : σ → Prop) (μ : σ → Nat) (step T : σ → Rd σ) (next nt lo : Nat)
    (hlen : ∀ s, (L.vals s).length = L.keys.length ∧ (L.blks s).length = L.names.length)
    (hr : ∀ s r h, inv s → ∃ ob, evalRound cx Λ c p (L.st s r h next nt lo) next L.keys L.scr L.names = some ((step s).map L.pack, ob) ∧ ob.holds)
    (hp : ∀ s, inv s → Good inv μ T s (step s).sel) (s0 : σ) (h0 : inv s0) : LoopGoal cx.P c L T s0 next nt lo := by
  intro r h Es ws a w hs
  have hkz : ∀ (t : Nat) (keys : List Nat) (vs : List AV), vs.length = keys.length → memN t keys = true → ∃ v, lookL (kz keys vs) t = some v := by
    intro t keys
    induction keys with
    | nil => intro vs _ h; simp [memN] at h
    | cons k l ih =>
      intro vs hl h
      cases vs with
      | nil => simp at hl
      | cons v vs =>
        simp only [kz, lookL]
        by_cases hk : k = t
        · subst hk; exact ⟨v, by simp⟩
        · have e : (k == t) = false := by simpa using hk
          simp only [memN, e, Bool.false_or] at h
          simp only [e, Bool.false_eq_true, if_false]
          exact ih vs (by simpa using hl) h
  have hhz : ∀ (t : Nat) (keys : List Nat) (vs : List Blk), vs.length = keys.length → memN t keys = true → ∃ v, hwL (hz keys vs) t = some v := by
    intro t keys
    induction keys with
    | nil => intro vs _ h; simp [memN] at h
    | cons k l ih =>
      intro vs hl h
      cases vs with
      | nil => simp at hl
      | cons v vs =>
        simp only [hz, hwL]
        by_cases hk : k = t
        · subst hk; exact ⟨some v, by simp⟩
        · have e : (k == t) = false := by simpa using hk
          simp only [memN, e, Bool.false_or] at h
          simp only [e, Bool.false_eq_true, if_false]
          exact ih vs (by simpa using hl) h
  have hst : SRel Es ws (L.st s0 r h next nt lo) a w := by
    have hn := names_of hs
    refine Ent.rel (st := L.ent s0 r h next nt lo) (st' := L.st s0 r h next nt lo) ⟨fun t => ?_, fun n B hB => ?_, rfl, rfl, hn.2.2⟩ hs
    · have h1 := hn.1 t
      simp only [Lp.ent, Lp.st, St.look, lookL_append, uns_look] at h1 ⊢
      cases m1 : lookL (kz L.keys (L.vals s0)) t with
      | some v => right; rw [m1] at h1; exact ⟨rfl, h1⟩
      | none =>
        rw [m1] at h1
        simp only at h1 ⊢
        cases memN t L.scr with
        | true => left; rfl
        | false => right; exact ⟨rfl, h1⟩
    · exact ⟨hB, hn.2.1 n B hB⟩
  refine wp_loop_ix (fun s a w => SRel Es ws (L.st s r h next nt lo) a w ∧ inv s ∧ (T s).sel = (T s0).sel) μ ?_ s0 a w ⟨hst, h0, rfl⟩
  rintro s a w ⟨hsr, hi, hT⟩
  obtain ⟨ob, h1, h2⟩ := hr s r h hi
  unfold evalRound at h1
  split at h1 <;> try (simp at h1; done)
  rename_i o ob' he
  split at h1 <;> simp at h1
  rename_i R hR
  obtain ⟨rfl, rfl⟩ := h1
  refine wp_mono (evalCode_wp hΓ hI c p _ o ob' he h2 a w hsr) ?_
  intro e a' w' hm
  have hn := names_of hsr
  have hN : (∀ t, memN t L.keys = false → memN t L.scr = false → nlt next (r t)) ∧ (∀ n B, memN n L.names = false → fixH L.fx h n = some B → n < next ∧ nlt next B.v) ∧ lo ≤ next := by
    refine ⟨fun t m1 m2 => ?_, fun n B m1 hB => ?_, hn.2.2⟩
    · have := hn.1 t
      simp only [Lp.st, St.look, lookL_append, uns_look, kz_none m1, m2, Bool.false_eq_true, if_false] at this
      exact this
    · refine hn.2.1 n B ?_
      simp only [Lp.st, St.hp, hz_none m1]
      exact hB
  have hmp := round_match (s0 := L.st s r h next nt lo) hN hR (evalCode_keep c p _ o ob' he) hm
  rw [Rd.sel_map] at hmp
  have hg := hp s hi
  have hend : ∀ s', SRel Es ws (stOf L.keys L.scr L.names (L.pack s') r (fixH L.fx h) next nt lo) a' w' → SRel Es ws (appSt (kz L.keys (L.vals s') ++ uns L.scr) (hz L.names (L.blks s')) (L.ent s0 r h next nt lo)) a' w' := by
    intro s' hs'
    refine SRel_congr (st := stOf L.keys L.scr L.names (L.pack s') r (fixH L.fx h) next nt lo) (fun t => ?_) (fun n => ?_) rfl rfl rfl hs'
    · rw [appSt_look]
      simp only [stOf, Lp.pack, Lp.ent, St.look, lookL_append, uns_look]
      cases m1 : memN t L.keys with
      | true =>
        obtain ⟨v, hv⟩ := hkz t L.keys (L.vals s') (hlen s').1 m1
        rw [hv]
      | false =>
        rw [kz_none m1]
        cases memN t L.scr with
        | true => rfl
        | false => simp only [Bool.false_eq_true, if_false, kz_none m1]
    · rw [appSt_hp]
      simp only [stOf, Lp.pack, Lp.ent, St.hp]
      cases m1 : memN n L.names with
      | true =>
        obtain ⟨v, hv⟩ := hhz n L.names (L.blks s') (hlen s').2 m1
        rw [hv]
      | false => simp only [hz_none m1]
  cases hsel : (step s).sel with
  | norm s' =>
    rw [hsel] at hmp hg
    cases e <;> simp only [Rd.map, MatchP] at hmp
    obtain ⟨g1, g2, g3⟩ := hg
    exact ⟨s', ⟨hmp, g1, g3.trans hT⟩, g2⟩
  | exit id s' =>
    rw [hsel] at hmp hg
    cases e <;> simp only [Rd.map, MatchP] at hmp
    have hg' : (T s).sel = .exit id s' := hg
    refine ot_sel L (T s0) ?_
    rw [← hT, hg']
    exact ⟨hmp.1, hend s' hmp.2⟩
  | ret s' =>
    rw [hsel] at hmp hg
    cases e <;> simp only [Rd.map, MatchP] at hmp
    have hg' : (T s).sel = .ret s' := hg
    refine ot_sel L (T s0) ?_
    rw [← hT, hg']
    exact hend s' hmp
  | br b x y => exact absurd hsel (Rd.sel_no_br _)

end Go.Rf

/- Loops that go on while a test holds. -/
namespace Go.Rf

def runN {σ : Type} (go : σ → Bool) (next : σ → σ) : Nat → σ → σ
  | 0, s => s
  | k + 1, s => bif go s then runN go next k (next s) else s

theorem runN_stop {σ : Type} {go : σ → Bool} {next : σ → σ} {s : σ} (h : go s = false) : ∀ k, runN go next k s = s
  | 0 => rfl
  | k + 1 => by simp [runN, h]

theorem runN_go {σ : Type} {go : σ → Bool} {next : σ → σ} {s : σ} (h : go s = true) (k : Nat) : runN go next (k + 1) s = runN go next k (next s) := by simp [runN, h]

section
variable {σ : Type} {go : σ → Bool} {next : σ → σ} {inv : σ → Prop} {μ : σ → Nat}

theorem runN_more (hn : ∀ s, inv s → go s = true → inv (next s) ∧ μ (next s) < μ s) : ∀ (k : Nat) (s : σ), inv s → μ s ≤ k → runN go next (k + 1) s = runN go next k s := by
  intro k
  induction k with
  | zero =>
    intro s hi h
    cases hg : go s with
    | false => rw [runN_stop hg, runN_stop hg]
    | true => have := (hn s hi hg).2; omega
  | succ k ih =>
    intro s hi h
    cases hg : go s with
    | false => rw [runN_stop hg, runN_stop hg]
    | true =>
      rw [runN_go hg, runN_go hg]
      obtain ⟨h1, h2⟩ := hn s hi hg
      exact ih _ h1 (by omega)

theorem runN_same (hn : ∀ s, inv s → go s = true → inv (next s) ∧ μ (next s) < μ s) {k : Nat} {s : σ} (hi : inv s) (hk : μ s ≤ k) (hg : go s = true) : runN go next k (next s) = runN go next k s := by
  obtain ⟨h1, h2⟩ := hn s hi hg
  rw [← runN_go hg]
  exact runN_more hn k s hi hk

theorem runN_inv (I : σ → Prop) (hn : ∀ s, I s → go s = true → I (next s)) : ∀ (k : Nat) (s : σ), I s → I (runN go next k s) := by
  intro k
  induction k with
  | zero => intro s h; exact h
  | succ k ih =>
    intro s h
    cases hg : go s with
    | false => rw [runN_stop hg]; exact h
    | true => rw [runN_go hg]; exact ih _ (hn s h hg)

theorem runN_done (hn : ∀ s, inv s → go s = true → inv (next s) ∧ μ (next s) < μ s) : ∀ (k : Nat) (s : σ), inv s → μ s ≤ k → go (runN go next k s) = false := by
  intro k
  induction k with
  | zero =>
    intro s hi h
    cases hg : go s with
    | false => exact hg
    | true => have := (hn s hi hg).2; omega
  | succ k ih =>
    intro s hi h
    cases hg : go s with
    | false => rw [runN_stop hg]; exact hg
    | true =>
      obtain ⟨h1, h2⟩ := hn s hi hg
      rw [runN_go hg]
      exact ih _ h1 (by omega)

/-- A loop whose rounds all go on to the next state, till the test fails. -/
theorem good_run {e : Nat} {k : Nat} {step : σ → Rd σ} (hn : ∀ s, inv s → go s = true → inv (next s) ∧ μ (next s) < μ s) (hk : ∀ s, inv s → μ s ≤ k)
    (h1 : ∀ s, inv s → go s = true → (step s).sel = .norm (next s)) (h2 : ∀ s, inv s → go s = false → (step s).sel = .exit e s) :
    ∀ s, inv s → Good inv μ (fun s => .exit e (runN go next k s)) s (step s).sel := by
  intro s hi
  cases hg : go s with
  | true =>
    rw [h1 s hi hg]
    obtain ⟨a, b⟩ := hn s hi hg
    refine ⟨a, b, ?_⟩
    simp only [Rd.sel, runN_same hn hi (hk s hi) hg]
  | false =>
    rw [h2 s hi hg]
    show (Rd.sel _) = _
    simp only [Rd.sel, runN_stop hg]

/-- A loop that may also return in the midst: at a state that 'out' tells. -/
theorem good_ret {e : Nat} {k : Nat} {step : σ → Rd σ} {out : σ → Bool} {rt : σ → σ} (hn : ∀ s, inv s → go s = true → inv (next s) ∧ μ (next s) < μ s) (hk : ∀ s, inv s → μ s ≤ k)
    (h1 : ∀ s, inv s → go s = true → (step s).sel = .norm (next s))
    (h2 : ∀ s, inv s → go s = false → out s = true → (step s).sel = .ret (rt s))
    (h3 : ∀ s, inv s → go s = false → out s = false → (step s).sel = .exit e s) :
    ∀ s, inv s → Good inv μ (fun s => .br (out (runN go next k s)) (.ret (rt (runN go next k s))) (.exit e (runN go next k s))) s (step s).sel := by
  intro s hi
  cases hg : go s with
  | true =>
    rw [h1 s hi hg]
    obtain ⟨a, b⟩ := hn s hi hg
    refine ⟨a, b, ?_⟩
    simp only [runN_same hn hi (hk s hi) hg]
  | false =>
    cases ho : out s with
    | true =>
      rw [h2 s hi hg ho]
      show (Rd.sel _) = _
      simp only [Rd.sel, runN_stop hg, ho, if_true]
    | false =>
      rw [h3 s hi hg ho]
      show (Rd.sel _) = _
      simp only [Rd.sel, runN_stop hg, ho, Bool.false_eq_true, if_false]
end

/-! ### Numbers that count -/

theorem ltB_nat {x y : BitVec 64} (hx : x.toNat < 2 ^ 63) (hy : y.toNat < 2 ^ 63) : ltB .i64 x y = decide (x.toNat < y.toNat) := by
  have h1 : x.toInt = x.toNat := BitVec.toInt_eq_toNat_of_lt (by omega)
  have h2 : y.toInt = y.toNat := BitVec.toInt_eq_toNat_of_lt (by omega)
  have e : ltB .i64 x y = x.slt y := rfl
  rw [e, BitVec.slt_eq_decide, h1, h2]
  simp

theorem succ_nat {x : BitVec 64} (h : x.toNat < 2 ^ 64 - 1) : (x + 1#64).toNat = x.toNat + 1 := by
  rw [BitVec.toNat_add]
  simp
  omega

/-- What an index is asked. -/
def ixOb (i : BitVec 64) (n : Nat) : Ob := (Ob.pr (0 ≤ toZ .i64 i ∧ toZ .i64 i < (n : Int))).two (Ob.pr ((toZ .i64 i).toNat < n))
def ixN (i : BitVec 64) : Nat := (toZ .i64 i).toNat

theorem toZ_nat {x : BitVec 64} (hx : x.toNat < 2 ^ 63) : toZ .i64 x = (x.toNat : Int) := by
  show x.toInt = _
  exact BitVec.toInt_eq_toNat_of_lt (by omega)

theorem ixN_nat {x : BitVec 64} (hx : x.toNat < 2 ^ 63) : ixN x = x.toNat := by
  rw [ixN, toZ_nat hx]; rfl

theorem ixOb_holds {x : BitVec 64} {n : Nat} (hn : n < 2 ^ 63) (hx : x.toNat < n) : (ixOb x n).holds := by
  have h := toZ_nat (x := x) (by omega)
  refine ⟨?_, ?_⟩
  · show 0 ≤ _ ∧ _
    rw [h]; omega
  · show _ < _
    rw [h]; simpa using hx

/-! ### What is owed, in a row -/

def Ob.flat : Ob → List Prop
  | .tt => []
  | .pr p => [p]
  | .two a b => a.flat ++ b.flat
  | .imp _ _ a => a.flat

theorem Ob.flat_holds : ∀ {o : Ob}, (∀ p ∈ o.flat, p) → o.holds
  | .tt, _ => trivial
  | .pr p, h => h p (by simp [Ob.flat])
  | .two a b, h => ⟨flat_holds fun p hp => h p (by simp [Ob.flat, hp]), flat_holds fun p hp => h p (by simp [Ob.flat, hp])⟩
  | .imp _ _ a, h => fun _ => flat_holds fun p hp => h p hp

/-- The first test apart. -/
def Ob.guard : Ob → Bool
  | .imp b true _ => b
  | .imp b false _ => !b
  | _ => true

theorem Ob.guard_holds {o : Ob} (h : o.guard = true → ∀ p ∈ o.flat, p) : o.holds := by
  cases o with
  | imp b w a => exact fun e => Ob.flat_holds (o := a) (h (by cases w <;> simp [Ob.guard, e]))
  | tt => trivial
  | pr p => exact Ob.flat_holds (h rfl)
  | two a b => exact Ob.flat_holds (o := .two a b) (h rfl)

def fl {α : Type} : Option (α × Ob) → Option (α × Bool × List Prop)
  | some (a, o) => some (a, o.guard, o.flat)
  | none => none

theorem fl_ok {α : Type} {E : Option (α × Ob)} {R : α} {g : Bool} {L : List Prop} (h : fl E = some (R, g, L)) (hL : g = true → ∀ p ∈ L, p) : ∃ ob, E = some (R, ob) ∧ ob.holds := by
  unfold fl at h
  split at h <;> simp at h
  rename_i a o
  obtain ⟨rfl, rfl, rfl⟩ := h
  exact ⟨o, rfl, Ob.guard_holds hL⟩

def cnt {α : Type} : Option (α × Ob) → Nat
  | some (_, o) => o.flat.length / 2
  | none => 0

/-- An index, asked so often. -/
def ixs (i : BitVec 64) (n : Nat) : Nat → List Prop
  | 0 => []
  | k + 1 => (0 ≤ toZ .i64 i ∧ toZ .i64 i < (n : Int)) :: ((toZ .i64 i).toNat < n) :: ixs i n k

theorem ixs_hold {x : BitVec 64} {n : Nat} (hn : n < 2 ^ 63) (hx : x.toNat < n) : ∀ (k : Nat), ∀ p ∈ ixs x n k, p
  | 0, p, hp => by simp [ixs] at hp
  | k + 1, p, hp => by
    simp only [ixs, List.mem_cons] at hp
    obtain ⟨h1, h2⟩ := ixOb_holds hn hx
    rcases hp with rfl | rfl | hp
    · exact h1
    · exact h2
    · exact ixs_hold hn hx k p hp

theorem Ev.fl {P : Program} {Γ : Tab} {Λ : FuncId → Hook} {n : Nat} {f : FuncId} {args : List AV} {r : AV} {g : Bool} {L : List Prop} (h : Rf.fl (evalN P Γ Λ n f args) = some (r, g, L)) (hL : g = true → ∀ p ∈ L, p) : Ev P Γ Λ n f args r := by
  obtain ⟨ob, h1, h2⟩ := fl_ok h hL
  exact Ev.ob h1 h2

end Go.Rf

/- Loops that count up: where they stop. -/
namespace Go.Rf

section
variable {σ : Type} {go : σ → Bool} {next : σ → σ}

/-- A loop over i that stops at the first bad i, or at n. -/
theorem runN_find (st : Nat → σ) (bad : Nat → Bool) (n : Nat) (hgo : ∀ i, i ≤ n → go (st i) = (decide (i < n) && !bad i))
    (hnext : ∀ i, i < n → bad i = false → next (st i) = st (i + 1)) :
    ∀ k i, i + k = n → (∃ j, i ≤ j ∧ j < n ∧ bad j = true ∧ runN go next k (st i) = st j) ∨ ((∀ j, i ≤ j → j < n → bad j = false) ∧ runN go next k (st i) = st n) := by
  intro k
  induction k with
  | zero =>
    intro i hi
    right
    refine ⟨fun j h1 h2 => by omega, ?_⟩
    have : i = n := by omega
    subst this; rfl
  | succ k ih =>
    intro i hi
    cases hb : bad i with
    | true =>
      left
      refine ⟨i, Nat.le_refl _, by omega, hb, ?_⟩
      rw [runN_stop (by rw [hgo i (by omega), hb]; simp)]
    | false =>
      have hg : go (st i) = true := by rw [hgo i (by omega), hb]; simp; omega
      rw [runN_go hg, hnext i (by omega) hb]
      rcases ih (i + 1) (by omega) with ⟨j, h1, h2, h3, h4⟩ | ⟨h1, h2⟩
      · left; exact ⟨j, by omega, h2, h3, h4⟩
      · right
        refine ⟨fun j a b => ?_, h2⟩
        by_cases e : j = i
        · rw [e]; exact hb
        · exact h1 j (by omega) b

/-- A loop over i that goes on to n. -/
theorem runN_count (st : Nat → σ) (n : Nat) (hgo : ∀ i, i ≤ n → go (st i) = decide (i < n)) (hnext : ∀ i, i < n → next (st i) = st (i + 1)) : runN go next n (st 0) = st n := by
  rcases runN_find (go := go) (next := next) st (fun _ => false) n (fun i hi => by rw [hgo i hi]; simp) (fun i hi _ => hnext i hi) n 0 (by omega) with ⟨j, _, _, h, _⟩ | ⟨_, h⟩
  · cases h
  · exact h
end

section
variable {σ : Type} {go : σ → Bool} {next : σ → σ} {inv : σ → Prop} {μ : σ → Nat}

theorem runN_ge (hn : ∀ s, inv s → go s = true → inv (next s) ∧ μ (next s) < μ s) : ∀ (k : Nat) (s : σ), inv s → μ s ≤ k → runN go next k s = runN go next (μ s) s := by
  intro k
  induction k with
  | zero => intro s hi hk; rw [Nat.le_zero.1 hk]
  | succ k ih =>
    intro s hi hk
    by_cases h : μ s ≤ k
    · rw [runN_more hn k s hi h, ih s hi h]
    · rw [show μ s = k + 1 by omega]

/-- As good_run; as many rounds as the measure says. -/
theorem good_mu {e : Nat} {step : σ → Rd σ} (hn : ∀ s, inv s → go s = true → inv (next s) ∧ μ (next s) < μ s)
    (h1 : ∀ s, inv s → go s = true → (step s).sel = .norm (next s)) (h2 : ∀ s, inv s → go s = false → (step s).sel = .exit e s) :
    ∀ s, inv s → Good inv μ (fun s => .exit e (runN go next (μ s) s)) s (step s).sel := by
  intro s hi
  cases hg : go s with
  | true =>
    rw [h1 s hi hg]
    obtain ⟨a, b⟩ := hn s hi hg
    refine ⟨a, b, ?_⟩
    have e1 : runN go next (μ (next s)) (next s) = runN go next (μ s) s := by
      rw [← runN_ge hn (μ s) (next s) a (by omega), runN_same hn hi (Nat.le_refl _) hg]
    simp only [Rd.sel, e1]
  | false =>
    rw [h2 s hi hg]
    show (Rd.sel _) = _
    simp only [Rd.sel, runN_stop hg]

theorem good_retmu {e : Nat} {step : σ → Rd σ} {out : σ → Bool} {rt : σ → σ} (hn : ∀ s, inv s → go s = true → inv (next s) ∧ μ (next s) < μ s)
    (h1 : ∀ s, inv s → go s = true → (step s).sel = .norm (next s))
    (h2 : ∀ s, inv s → go s = false → out s = true → (step s).sel = .ret (rt s))
    (h3 : ∀ s, inv s → go s = false → out s = false → (step s).sel = .exit e s) :
    ∀ s, inv s → Good inv μ (fun s => .br (out (runN go next (μ s) s)) (.ret (rt (runN go next (μ s) s))) (.exit e (runN go next (μ s) s))) s (step s).sel := by
  intro s hi
  cases hg : go s with
  | true =>
    rw [h1 s hi hg]
    obtain ⟨a, b⟩ := hn s hi hg
    refine ⟨a, b, ?_⟩
    have e1 : runN go next (μ (next s)) (next s) = runN go next (μ s) s := by
      rw [← runN_ge hn (μ s) (next s) a (by omega), runN_same hn hi (Nat.le_refl _) hg]
    simp only [e1]
  | false =>
    cases ho : out s with
    | true =>
      rw [h2 s hi hg ho]
      show (Rd.sel _) = _
      simp only [Rd.sel, runN_stop hg, ho, if_true]
    | false =>
      rw [h3 s hi hg ho]
      show (Rd.sel _) = _
      simp only [Rd.sel, runN_stop hg, ho, Bool.false_eq_true, if_false]
end

theorem ofNat_toNat {i : Nat} (h : i < 2 ^ 64) : (BitVec.ofNat 64 i).toNat = i := by simp; omega
theorem ofNat_succ (i : Nat) : BitVec.ofNat 64 i + 1#64 = BitVec.ofNat 64 (i + 1) := by
  rw [BitVec.ofNat_add]
theorem ixN_ofNat {i : Nat} (h : i < 2 ^ 63) : ixN (BitVec.ofNat 64 i) = i := by
  rw [ixN_nat (by rw [ofNat_toNat (by omega)]; exact h), ofNat_toNat (by omega)]
theorem ltB_ofNat {i n : Nat} (hi : i < 2 ^ 63) (hn : n < 2 ^ 63) : ltB .i64 (BitVec.ofNat 64 i) (BitVec.ofNat 64 n) = decide (i < n) := by
  rw [ltB_nat (by rw [ofNat_toNat (by omega)]; exact hi) (by rw [ofNat_toNat (by omega)]; exact hn), ofNat_toNat (by omega), ofNat_toNat (by omega)]

/-! ### What is owed, each with the tests that stand ahead of it -/
def Ob.gflat : List Bool → Ob → List (List Bool × Prop)
  | _, .tt => []
  | gs, .pr p => [(gs, p)]
  | gs, .two a b => a.gflat gs ++ b.gflat gs
  | gs, .imp b true a => a.gflat (b :: gs)
  | gs, .imp b false a => a.gflat ((!b) :: gs)

theorem Ob.gflat_holds : ∀ (o : Ob) (gs : List Bool), (∀ e ∈ o.gflat gs, (∀ g ∈ e.1, g = true) → e.2) → (∀ g ∈ gs, g = true) → o.holds
  | .tt, _, _, _ => trivial
  | .pr p, gs, h, hg => h (gs, p) (by simp [Ob.gflat]) hg
  | .two a b, gs, h, hg => ⟨gflat_holds a gs (fun e he => h e (by simp [Ob.gflat, he])) hg, gflat_holds b gs (fun e he => h e (by simp [Ob.gflat, he])) hg⟩
  | .imp b true a, gs, h, hg => fun eb => gflat_holds a (b :: gs) (fun e he => h e (by simp only [Ob.gflat]; exact he)) (by
      intro g hg'
      simp only [List.mem_cons] at hg'
      rcases hg' with rfl | hg'
      · exact eb
      · exact hg g hg')
  | .imp b false a, gs, h, hg => fun eb => gflat_holds a ((!b) :: gs) (fun e he => h e (by simp only [Ob.gflat]; exact he)) (by
      intro g hg'
      simp only [List.mem_cons] at hg'
      rcases hg' with rfl | hg'
      · rw [eb]; rfl
      · exact hg g hg')

def fg {α : Type} : Option (α × Ob) → Option (α × List (List Bool × Prop))
  | some (a, o) => some (a, o.gflat [])
  | none => none

theorem fg_ok {α : Type} {E : Option (α × Ob)} {R : α} {L : List (List Bool × Prop)} (h : fg E = some (R, L)) (hL : ∀ e ∈ L, (∀ g ∈ e.1, g = true) → e.2) : ∃ ob, E = some (R, ob) ∧ ob.holds := by
  unfold fg at h
  split at h <;> simp at h
  rename_i a o
  obtain ⟨rfl, rfl⟩ := h
  exact ⟨o, rfl, Ob.gflat_holds o [] hL (fun g hg => by simp at hg)⟩

theorem Ev.fg {P : Program} {Γ : Tab} {Λ : FuncId → Hook} {n : Nat} {f : FuncId} {args : List AV} {r : AV} {L : List (List Bool × Prop)} (h : Rf.fg (evalN P Γ Λ n f args) = some (r, L)) (hL : ∀ e ∈ L, (∀ g ∈ e.1, g = true) → e.2) : Ev P Γ Λ n f args r := by
  obtain ⟨ob, h1, h2⟩ := fg_ok h hL
  exact Ev.ob h1 h2
end Go.Rf
