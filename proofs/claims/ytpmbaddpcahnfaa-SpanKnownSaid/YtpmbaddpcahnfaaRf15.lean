/- Codes: Lean data as symbolic data; contracts. -/
import Derived.Test.YtpmbaddpcahnfaaRf14
set_option linter.unusedVariables false
set_option linter.unusedSimpArgs false
namespace Go.Rf

/-- Leaves, each a function of the indices. -/
structure FCod (α : Type) where
  dec : AV → Option (Ix → α)
  enc : (Ix → α) → AV
  pf : ∀ x, Rf.pf (enc x) = true
  /-- How deep it may lie. -/
  dp : Nat → Bool
  spec : ∀ v x, dec v = some x → big v = big (enc x) ∧ ∀ E ix, dp ix.length = true → cells E ix v = cells E ix (enc x)
  bg : ∀ x y, big (enc x) = big (enc y)
  loc : ∀ E x y ix, dp ix.length = true → x ix = y ix → cells E ix (enc x) = cells E ix (enc y)

def FCod.bv (k : IntKind) : FCod (BitVec k.bits) where
  dec := toBV k
  enc x := .int k x
  pf _ := rfl
  dp _ := true
  spec v x h := ⟨by cases v <;> simp [toBV] at h <;> rfl, fun E ix _ => by rw [toBV_cells h]; rfl⟩
  bg _ _ := rfl
  loc E x y ix _ h := by simp only [cells, h]

def FCod.bl : FCod Bool where
  dec := toBl
  enc x := .bool x
  pf _ := rfl
  dp _ := true
  spec v x h := ⟨by cases v <;> simp [toBl] at h <;> rfl, fun E ix _ => by rw [toBl_cells h]; rfl⟩
  bg _ _ := rfl
  loc E x y ix _ h := by simp only [cells, h]

def FCod.agg2 {α β γ : Type} (ca : FCod α) (cb : FCod β) (mk : α → β → γ) (p1 : γ → α) (p2 : γ → β) (h1 : ∀ a b, p1 (mk a b) = a) (h2 : ∀ a b, p2 (mk a b) = b) : FCod γ where
  dec v := match v with
    | .agg (.cons a (.cons b .nil)) => match ca.dec a, cb.dec b with
      | some x, some y => some fun ix => mk (x ix) (y ix)
      | _, _ => none
    | _ => none
  enc g := .agg (.cons (ca.enc fun ix => p1 (g ix)) (.cons (cb.enc fun ix => p2 (g ix)) .nil))
  pf g := by simp [Rf.pf, ca.pf, cb.pf]
  dp d := ca.dp d && cb.dp d
  spec v x h := by
    split at h <;> try (simp at h; done)
    split at h <;> simp at h
    rename_i a b x1 y1 e1 e2
    subst h
    refine ⟨rfl, fun E ix hd => ?_⟩
    simp only [Bool.and_eq_true] at hd
    simp only [cells, (ca.spec _ _ e1).2 E ix hd.1, (cb.spec _ _ e2).2 E ix hd.2, h1, h2]
  bg _ _ := rfl
  loc E x y ix hd h := by
    simp only [Bool.and_eq_true] at hd
    simp only [cells]
    rw [ca.loc E _ (fun ix => p1 (y ix)) ix hd.1 (by simp only [h]), cb.loc E _ (fun ix => p2 (y ix)) ix hd.2 (by simp only [h])]

def FCod.agg3 {α β δ γ : Type} (ca : FCod α) (cb : FCod β) (cd : FCod δ) (mk : α → β → δ → γ) (p1 : γ → α) (p2 : γ → β) (p3 : γ → δ) (h1 : ∀ a b d, p1 (mk a b d) = a) (h2 : ∀ a b d, p2 (mk a b d) = b) (h3 : ∀ a b d, p3 (mk a b d) = d) : FCod γ where
  dec v := match v with
    | .agg (.cons a (.cons b (.cons d .nil))) => match ca.dec a, cb.dec b, cd.dec d with
      | some x, some y, some z => some fun ix => mk (x ix) (y ix) (z ix)
      | _, _, _ => none
    | _ => none
  enc g := .agg (.cons (ca.enc fun ix => p1 (g ix)) (.cons (cb.enc fun ix => p2 (g ix)) (.cons (cd.enc fun ix => p3 (g ix)) .nil)))
  pf g := by simp [Rf.pf, ca.pf, cb.pf, cd.pf]
  dp d := ca.dp d && cb.dp d && cd.dp d
  spec v x h := by
    split at h <;> try (simp at h; done)
    split at h <;> simp at h
    rename_i a b d x1 y1 z1 e1 e2 e3
    subst h
    refine ⟨rfl, fun E ix hd => ?_⟩
    simp only [Bool.and_eq_true] at hd
    simp only [cells, (ca.spec _ _ e1).2 E ix hd.1.1, (cb.spec _ _ e2).2 E ix hd.1.2, (cd.spec _ _ e3).2 E ix hd.2, h1, h2, h3]
  bg _ _ := rfl
  loc E x y ix hd h := by
    simp only [Bool.and_eq_true] at hd
    simp only [cells]
    rw [ca.loc E _ (fun ix => p1 (y ix)) ix hd.1.1 (by simp only [h]), cb.loc E _ (fun ix => p2 (y ix)) ix hd.1.2 (by simp only [h]), cd.loc E _ (fun ix => p3 (y ix)) ix hd.2 (by simp only [h])]

def FCod.agg4 {α β δ ε γ : Type} (ca : FCod α) (cb : FCod β) (cd : FCod δ) (ce : FCod ε) (mk : α → β → δ → ε → γ) (p1 : γ → α) (p2 : γ → β) (p3 : γ → δ) (p4 : γ → ε) (h1 : ∀ a b d e, p1 (mk a b d e) = a) (h2 : ∀ a b d e, p2 (mk a b d e) = b) (h3 : ∀ a b d e, p3 (mk a b d e) = d) (h4 : ∀ a b d e, p4 (mk a b d e) = e) : FCod γ where
  dec v := match v with
    | .agg (.cons a (.cons b (.cons d (.cons e .nil)))) => match ca.dec a, cb.dec b, cd.dec d, ce.dec e with
      | some x, some y, some z, some t => some fun ix => mk (x ix) (y ix) (z ix) (t ix)
      | _, _, _, _ => none
    | _ => none
  enc g := .agg (.cons (ca.enc fun ix => p1 (g ix)) (.cons (cb.enc fun ix => p2 (g ix)) (.cons (cd.enc fun ix => p3 (g ix)) (.cons (ce.enc fun ix => p4 (g ix)) .nil))))
  pf g := by simp [Rf.pf, ca.pf, cb.pf, cd.pf, ce.pf]
  dp d := ca.dp d && cb.dp d && cd.dp d && ce.dp d
  spec v x h := by
    split at h <;> try (simp at h; done)
    split at h <;> simp at h
    rename_i a b d e x1 y1 z1 t1 e1 e2 e3 e4
    subst h
    refine ⟨rfl, fun E ix hd => ?_⟩
    simp only [Bool.and_eq_true] at hd
    simp only [cells, (ca.spec _ _ e1).2 E ix hd.1.1.1, (cb.spec _ _ e2).2 E ix hd.1.1.2, (cd.spec _ _ e3).2 E ix hd.1.2, (ce.spec _ _ e4).2 E ix hd.2, h1, h2, h3, h4]
  bg _ _ := rfl
  loc E x y ix hd h := by
    simp only [Bool.and_eq_true] at hd
    simp only [cells]
    rw [ca.loc E _ (fun ix => p1 (y ix)) ix hd.1.1.1 (by simp only [h]), cb.loc E _ (fun ix => p2 (y ix)) ix hd.1.1.2 (by simp only [h]), cd.loc E _ (fun ix => p3 (y ix)) ix hd.1.2 (by simp only [h]), ce.loc E _ (fun ix => p4 (y ix)) ix hd.2 (by simp only [h])]

/-- An array inside an array. -/
def FCod.arrF {α : Type} (n : Nat) (c : FCod α) : FCod (Nat → α) where
  dec v := match v with
    | .arr m b => if m == n then match c.dec b with
      | some x => some fun ix i => x (ix ++ [i])
      | none => none
      else none
    | _ => none
  enc f := .arr n (c.enc fun ix => f [ix.headD 0] (ix.tail.headD 0))
  pf f := c.pf _
  dp d := d == 1 && c.dp 2
  spec v x h := by
    split at h <;> try (simp at h; done)
    rename_i m b
    split at h
    next hm =>
      split at h
      next y hy =>
        have hm : m = n := by simpa using hm
        simp only [Option.some.injEq] at h
        subst h; subst hm
        refine ⟨rfl, fun E ix hd => ?_⟩
        simp only [Bool.and_eq_true, beq_iff_eq] at hd
        obtain ⟨i, rfl⟩ := List.length_eq_one_iff.1 hd.1
        simp only [cells, List.cons_append, List.nil_append]
        refine congrArg (fun g => (List.range m).flatMap g) (funext fun j => ?_)
        rw [(c.spec _ _ hy).2 E [i, j] hd.2]
        exact c.loc E _ _ [i, j] hd.2 rfl
      next => simp at h
    next => simp at h
  bg _ _ := rfl
  loc E x y ix hd h := by
    simp only [Bool.and_eq_true, beq_iff_eq] at hd
    obtain ⟨i, rfl⟩ := List.length_eq_one_iff.1 hd.1
    simp only [cells, List.cons_append, List.nil_append]
    refine congrArg (fun g => (List.range n).flatMap g) (funext fun j => ?_)
    exact c.loc E _ _ [i, j] hd.2 (by simp only [List.headD_cons, List.tail_cons, h])

/-- A value. -/
structure Cod (α : Type) where
  dec : AV → Option α
  enc : α → AV
  pf : ∀ x, Rf.pf (enc x) = true
  spec : ∀ v x, dec v = some x → big v = big (enc x) ∧ ∀ E, cells E [] v = cells E [] (enc x)

def FCod.one {α : Type} (c : FCod α) (hd : c.dp 0 = true := by rfl) : Cod α where
  dec v := match c.dec v with
    | some x => some (x [])
    | none => none
  enc x := c.enc fun _ => x
  pf x := c.pf _
  spec v x h := by
    split at h <;> simp at h
    rename_i y hy
    subst h
    obtain ⟨h1, h2⟩ := c.spec v y hy
    exact ⟨by rw [h1]; exact c.bg _ _, fun E => by rw [h2 E [] hd]; exact c.loc E _ _ [] hd rfl⟩

def FCod.arr {α : Type} (n : Nat) (c : FCod α) (hd : c.dp 1 = true := by rfl) : Cod (Nat → α) where
  dec v := match v with
    | .arr m b => if m == n then match c.dec b with
      | some x => some fun i => x [i]
      | none => none
      else none
    | _ => none
  enc f := .arr n (c.enc fun ix => f (ix.headD 0))
  pf f := c.pf _
  spec v x h := by
    split at h <;> try (simp at h; done)
    rename_i m b
    split at h
    next hm =>
      split at h
      next y hy =>
        have hm : m = n := by simpa using hm
        simp only [Option.some.injEq] at h
        subst h; subst hm
        refine ⟨rfl, fun E => ?_⟩
        simp only [cells, List.nil_append]
        refine congrArg (fun g => (List.range m).flatMap g) (funext fun i => ?_)
        rw [(c.spec _ _ hy).2 E [i] hd]
        exact c.loc E _ _ [i] hd rfl
      next => simp at h
    next => simp at h

def Cod.agg2 {α β γ : Type} (ca : Cod α) (cb : Cod β) (mk : α → β → γ) (p1 : γ → α) (p2 : γ → β) (h1 : ∀ a b, p1 (mk a b) = a) (h2 : ∀ a b, p2 (mk a b) = b) : Cod γ where
  dec v := match v with
    | .agg (.cons a (.cons b .nil)) => match ca.dec a, cb.dec b with
      | some x, some y => some (mk x y)
      | _, _ => none
    | _ => none
  enc g := .agg (.cons (ca.enc (p1 g)) (.cons (cb.enc (p2 g)) .nil))
  pf g := by simp [Rf.pf, ca.pf, cb.pf]
  spec v x h := by
    split at h <;> try (simp at h; done)
    split at h <;> simp at h
    rename_i a b x1 y1 e1 e2
    subst h
    exact ⟨rfl, fun E => by simp only [cells, (ca.spec _ _ e1).2, (cb.spec _ _ e2).2, h1, h2]⟩

def Cod.agg3 {α β δ γ : Type} (ca : Cod α) (cb : Cod β) (cd : Cod δ) (mk : α → β → δ → γ) (p1 : γ → α) (p2 : γ → β) (p3 : γ → δ) (h1 : ∀ a b d, p1 (mk a b d) = a) (h2 : ∀ a b d, p2 (mk a b d) = b) (h3 : ∀ a b d, p3 (mk a b d) = d) : Cod γ where
  dec v := match v with
    | .agg (.cons a (.cons b (.cons d .nil))) => match ca.dec a, cb.dec b, cd.dec d with
      | some x, some y, some z => some (mk x y z)
      | _, _, _ => none
    | _ => none
  enc g := .agg (.cons (ca.enc (p1 g)) (.cons (cb.enc (p2 g)) (.cons (cd.enc (p3 g)) .nil)))
  pf g := by simp [Rf.pf, ca.pf, cb.pf, cd.pf]
  spec v x h := by
    split at h <;> try (simp at h; done)
    split at h <;> simp at h
    rename_i a b d x1 y1 z1 e1 e2 e3
    subst h
    exact ⟨rfl, fun E => by simp only [cells, (ca.spec _ _ e1).2, (cb.spec _ _ e2).2, (cd.spec _ _ e3).2, h1, h2, h3]⟩

theorem Cod.val {α : Type} (c : Cod α) {v : AV} {x : α} (h : c.dec v = some x) (E : Env) : Rf.val E v = Rf.val E (c.enc x) := by
  obtain ⟨h1, h2⟩ := c.spec v x h
  rw [val_by_cells, val_by_cells, h1, h2]

/-- What the evaluator says, put as v. -/
def Ev (P : Program) (Γ : Tab) (Λ : FuncId → Hook) (n : Nat) (f : FuncId) (args : List AV) (r : AV) : Prop :=
  ∃ v ob, evalFlat P Γ Λ n f args = some (v, ob) ∧ ob.holds ∧ pfT v = true ∧ valT E0 v = valT E0 r

def nrmLT : AV → Option AV
  | .nil => some .nil
  | .cons h t => match nrm h, nrmLT t with
    | some a, some b => some (.cons (canon a) b)
    | _, _ => none
  | _ => none

/-- In one form: numbers as bits, hanging from no index that is not there. -/
def nrmT : AV → Option AV
  | .tup fs => match nrmLT fs with
    | some l => some (.tup l)
    | none => none
  | v => match nrm v with
    | some u => some (canon u)
    | none => none

theorem nrmLT_spec : ∀ (v u : AV), nrmLT v = some u → pfL v = true ∧ pfL u = true ∧ ∀ E, vals E v = vals E u := by
  intro v
  induction v with
  | nil => intro u h; simp [nrmLT] at h; subst h; exact ⟨rfl, rfl, fun _ => rfl⟩
  | cons h t _ ih =>
    intro u hu
    simp only [nrmLT] at hu
    split at hu <;> simp at hu
    rename_i a b h1 h2
    subst hu
    obtain ⟨e1, e2, e3⟩ := ih b h2
    obtain ⟨n1, n2, _⟩ := nrm_spec _ _ h1
    refine ⟨by simp [pfL, n1, e1], by simp [pfL, (canon_cells E0 a).2.1, n2, e2], fun E => ?_⟩
    simp only [vals, e3, canon_val, nrm_val h1]
  | _ => intro u h; simp [nrmLT] at h

theorem nrmT_spec (v u : AV) (h : nrmT v = some u) : pfT v = true ∧ pfT u = true ∧ valT E0 v = valT E0 u := by
  have gen : ∀ v u : AV, (match nrm v with
    | some u => some (canon u)
    | none => none) = some u → pfT v = true ∧ pfT u = true ∧ valT E0 v = valT E0 u := by
    intro v u h
    split at h <;> simp at h
    rename_i u' hu
    subst h
    obtain ⟨n1, n2, _⟩ := nrm_spec _ _ hu
    have n3 : pf (canon u') = true := by rw [(canon_cells E0 u').2.1]; exact n2
    obtain ⟨a1, a2⟩ := pf_not_tup n1
    obtain ⟨b1, b2⟩ := pf_not_tup n3
    exact ⟨a1, b1, by rw [a2, b2, canon_val, nrm_val hu]⟩
  cases v with
  | tup fs =>
    simp only [nrmT] at h
    split at h <;> simp at h
    rename_i l hl
    subst h
    obtain ⟨e1, e2, e3⟩ := nrmLT_spec _ _ hl
    exact ⟨e1, e2, by simp only [valT, e3]⟩
  | _ => exact gen _ _ h

def evalN (P : Program) (Γ : Tab) (Λ : FuncId → Hook) (n : Nat) (f : FuncId) (args : List AV) : Option (AV × Ob) :=
  match evalFlat P Γ Λ n f args with
  | some (v, ob) => match nrmT v with
    | some u => some (u, ob)
    | none => none
  | none => none

theorem Ev.ob {P : Program} {Γ : Tab} {Λ : FuncId → Hook} {n : Nat} {f : FuncId} {args : List AV} {r : AV} {ob : Ob} (h : evalN P Γ Λ n f args = some (r, ob)) (ho : ob.holds) : Ev P Γ Λ n f args r := by
  unfold evalN at h
  split at h <;> try (simp at h; done)
  rename_i v ob' h1
  split at h <;> simp at h
  rename_i u hu
  obtain ⟨rfl, rfl⟩ := h
  obtain ⟨e1, e2, e3⟩ := nrmT_spec _ _ hu
  exact ⟨v, ob', h1, ho, e1, e3⟩

theorem Ev.of {P : Program} {Γ : Tab} {Λ : FuncId → Hook} {n : Nat} {f : FuncId} {args : List AV} {r : AV} (h : evalN P Γ Λ n f args = some (r, .tt)) : Ev P Γ Λ n f args r :=
  Ev.ob h trivial

theorem Ev.calls {P : Program} {Γ : Tab} (hΓ : TabOk P Γ) {Λ : FuncId → Hook} {n : Nat} {f : FuncId} {args : List AV} {r : AV} (h : Ev P Γ Λ n f args r) (ha : ∀ v ∈ args, pf v = true) (w : World) :
    Calls P f (args.map (val E0)).toArray w fun e w' => e = .returned (valT E0 r) ∧ RowKit.Below w.heap.size w w' := by
  obtain ⟨v, ob, h1, h2, h3, h4⟩ := h
  have := (evalFlat_calls hΓ h1 h2 ha h3).2 w
  rw [h4] at this
  exact this

def con0 (g : AV) : Con
  | [] => some (g, .tt)
  | _ => none
def con1 {α : Type} (ca : Cod α) (g : α → AV) : Con
  | [a] => match ca.dec a with
    | some x => some (g x, .tt)
    | none => none
  | _ => none
def con2 {α β : Type} (ca : Cod α) (cb : Cod β) (g : α → β → AV) : Con
  | [a, b] => match ca.dec a, cb.dec b with
    | some x, some y => some (g x y, .tt)
    | _, _ => none
  | _ => none
def con3 {α β γ : Type} (ca : Cod α) (cb : Cod β) (cc : Cod γ) (g : α → β → γ → AV) : Con
  | [a, b, c] => match ca.dec a, cb.dec b, cc.dec c with
    | some x, some y, some z => some (g x y z, .tt)
    | _, _, _ => none
  | _ => none
def con4 {α β γ δ : Type} (ca : Cod α) (cb : Cod β) (cc : Cod γ) (cd : Cod δ) (g : α → β → γ → δ → AV) : Con
  | [a, b, c, d] => match ca.dec a, cb.dec b, cc.dec c, cd.dec d with
    | some x, some y, some z, some t => some (g x y z t, .tt)
    | _, _, _, _ => none
  | _ => none

section

theorem con0_ok {P : Program} {Γ : Tab} (hΓ : TabOk P Γ) {Λ : FuncId → Hook} (n : Nat) {f : FuncId} {g : AV} (hg : pfT g = true) (h : Ev P Γ Λ n f [] g) : ConOk P f (con0 g) := by
  intro args r ob hK hob ha
  unfold con0 at hK
  split at hK <;> simp at hK
  obtain ⟨rfl, rfl⟩ := hK
  exact ⟨hg, fun w => h.calls hΓ ha w⟩

theorem con1_ok {P : Program} {Γ : Tab} (hΓ : TabOk P Γ) {Λ : FuncId → Hook} (n : Nat) {f : FuncId} {α : Type} {ca : Cod α} {g : α → AV} (hg : ∀ x, pfT (g x) = true) (h : ∀ x, Ev P Γ Λ n f [ca.enc x] (g x)) : ConOk P f (con1 ca g) := by
  intro args r ob hK hob ha
  unfold con1 at hK
  split at hK <;> try (simp at hK; done)
  split at hK <;> simp at hK
  rename_i a x e1
  obtain ⟨rfl, rfl⟩ := hK
  refine ⟨hg _, fun w => ?_⟩
  have := (h x).calls hΓ (by simp [ca.pf]) w
  simp only [List.map_cons, List.map_nil, ← ca.val e1] at this ⊢
  exact this

theorem con2_ok {P : Program} {Γ : Tab} (hΓ : TabOk P Γ) {Λ : FuncId → Hook} (n : Nat) {f : FuncId} {α β : Type} {ca : Cod α} {cb : Cod β} {g : α → β → AV} (hg : ∀ x y, pfT (g x y) = true) (h : ∀ x y, Ev P Γ Λ n f [ca.enc x, cb.enc y] (g x y)) : ConOk P f (con2 ca cb g) := by
  intro args r ob hK hob ha
  unfold con2 at hK
  split at hK <;> try (simp at hK; done)
  split at hK <;> simp at hK
  rename_i a b x y e1 e2
  obtain ⟨rfl, rfl⟩ := hK
  refine ⟨hg _ _, fun w => ?_⟩
  have := (h x y).calls hΓ (by simp [ca.pf, cb.pf]) w
  simp only [List.map_cons, List.map_nil, ← ca.val e1, ← cb.val e2] at this ⊢
  exact this

theorem con3_ok {P : Program} {Γ : Tab} (hΓ : TabOk P Γ) {Λ : FuncId → Hook} (n : Nat) {f : FuncId} {α β γ : Type} {ca : Cod α} {cb : Cod β} {cc : Cod γ} {g : α → β → γ → AV} (hg : ∀ x y z, pfT (g x y z) = true) (h : ∀ x y z, Ev P Γ Λ n f [ca.enc x, cb.enc y, cc.enc z] (g x y z)) : ConOk P f (con3 ca cb cc g) := by
  intro args r ob hK hob ha
  unfold con3 at hK
  split at hK <;> try (simp at hK; done)
  split at hK <;> simp at hK
  rename_i a b c x y z e1 e2 e3
  obtain ⟨rfl, rfl⟩ := hK
  refine ⟨hg _ _ _, fun w => ?_⟩
  have := (h x y z).calls hΓ (by simp [ca.pf, cb.pf, cc.pf]) w
  simp only [List.map_cons, List.map_nil, ← ca.val e1, ← cb.val e2, ← cc.val e3] at this ⊢
  exact this

theorem con4_ok {P : Program} {Γ : Tab} (hΓ : TabOk P Γ) {Λ : FuncId → Hook} (n : Nat) {f : FuncId} {α β γ δ : Type} {ca : Cod α} {cb : Cod β} {cc : Cod γ} {cd : Cod δ} {g : α → β → γ → δ → AV} (hg : ∀ x y z t, pfT (g x y z t) = true) (h : ∀ x y z t, Ev P Γ Λ n f [ca.enc x, cb.enc y, cc.enc z, cd.enc t] (g x y z t)) : ConOk P f (con4 ca cb cc cd g) := by
  intro args r ob hK hob ha
  unfold con4 at hK
  split at hK <;> try (simp at hK; done)
  split at hK <;> simp at hK
  rename_i a b c d x y z t e1 e2 e3 e4
  obtain ⟨rfl, rfl⟩ := hK
  refine ⟨hg _ _ _ _, fun w => ?_⟩
  have := (h x y z t).calls hΓ (by simp [ca.pf, cb.pf, cc.pf, cd.pf]) w
  simp only [List.map_cons, List.map_nil, ← ca.val e1, ← cb.val e2, ← cc.val e3, ← cd.val e4] at this ⊢
  exact this
end

/-- As a contract, one whose answer is said otherwise. -/
theorem ConOk.as {P : Program} {f : FuncId} {K K' : Con} (h : ConOk P f K) (he : ∀ args r ob, K' args = some (r, ob) → ∃ r' , K args = some (r', ob) ∧ pfT r = true ∧ valT E0 r' = valT E0 r) : ConOk P f K' := by
  intro args r ob hK hob ha
  obtain ⟨r', h1, h2, h3⟩ := he args r ob hK
  exact ⟨h2, fun w => by rw [← h3]; exact (h args r' ob h1 hob ha).2 w⟩

end Go.Rf
