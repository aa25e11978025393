/- Several texts as one: Rf11 Rf12 Rf13 Rf14. -/
import Derived.Test.YtigiedlngfkfbaaGreatRfD
set_option linter.unusedVariables false
set_option linter.unusedSimpArgs false

/- Code: a walk through a function's body. -/
namespace Go.Rf

/-- What is known at a place of the code: the temporaries, the blocks by their names, the next name, how many temporaries there are. -/
structure St where
  ent : List (Nat × AV)
  rest : Nat → AV
  hent : List (Nat × Option Blk)
  hrest : Hp
  next : Nat
  nt : Nat
  lo : Nat

def St.look (st : St) (t : Nat) : AV := match lookL st.ent t with
  | some v => v
  | none => st.rest t
def St.hp (st : St) (n : Nat) : Option Blk := match hwL st.hent n with
  | some b => b
  | none => st.hrest n

def clean : AV → AV
  | .gd _ _ => .un
  | v => v

def SRel (Es : Env) (ws : World) (st : St) (a : Act) (w : World) : Prop :=
  ∃ E, (∀ t, TRel E (st.look t) (a.tmps.getD t undef)) ∧ a.tmps.size = st.nt ∧ a.defers = [] ∧ HRel E st.hp w ∧ Inj E ∧ Bd E w ∧ (∀ n, st.next ≤ n → E n = none) ∧ Tr Es ws E w ∧ (∀ n, st.lo ≤ n → Es n = none) ∧ st.lo ≤ st.next

def entOf : List Rec → List (Nat × AV)
  | [] => []
  | r :: rs => match r.dst with
    | some d => (d, clean r.res) :: entOf rs
    | none => entOf rs

def hwOf : List Rec → List (Nat × Option Blk)
  | [] => []
  | r :: rs => r.hw ++ hwOf rs

def evalRegion (cx : Cx) (ops : Array Oper) (draw : Bool) (st : St) : Option (St × Ob) :=
  match evalOps cx ops (fun t => clean (st.look t)) st.hp st.nt ops.toList [] st.next with
  | some (fin, n, ob) => if !draw || drawOk cx.P ops fin.reverse then some ({ st with ent := entOf fin ++ st.ent, hent := hwOf fin ++ st.hent, next := n }, ob) else none
  | none => none

theorem lookL_append (l m : List (Nat × AV)) (t : Nat) : lookL (l ++ m) t = match lookL l t with
    | some v => some v
    | none => lookL m t := by
  induction l with
  | nil => rfl
  | cons a l ih =>
    obtain ⟨k, v⟩ := a
    simp only [List.cons_append, lookL]
    split
    · rfl
    · exact ih

theorem hwL_append (l m : List (Nat × Option Blk)) (t : Nat) : hwL (l ++ m) t = match hwL l t with
    | some v => some v
    | none => hwL m t := by
  induction l with
  | nil => rfl
  | cons a l ih =>
    obtain ⟨k, v⟩ := a
    simp only [List.cons_append, hwL]
    split
    · rfl
    · exact ih

theorem entOf_look (base : Nat → AV) (hb : ∀ t, clean (base t) = base t) (t : Nat) : ∀ (fin : List Rec), (match lookL (entOf fin) t with
    | some v => v
    | none => base t) = clean (lookT base fin t)
  | [] => by simp [entOf, lookL, lookT, hb]
  | r :: rs => by
    simp only [entOf, lookT]
    cases r.dst with
    | none => exact entOf_look base hb t rs
    | some d =>
      simp only [lookL]
      by_cases he : d = t
      · simp [he]
      · simp [he]
        exact entOf_look base hb t rs

theorem hwOf_look (hb : Hp) (n : Nat) : ∀ (fin : List Rec), (match hwL (hwOf fin) n with
    | some v => v
    | none => hb n) = lookH hb fin n
  | [] => rfl
  | r :: rs => by
    simp only [hwOf, lookH, hwL_append]
    cases hwL r.hw n with
    | some b => rfl
    | none => exact hwOf_look hb n rs

theorem clean_clean (v : AV) : clean (clean v) = clean v := by cases v <;> rfl

theorem TRel_clean {E : Env} {v : AV} {x : Value} (h : TRel E v x) : TRel E (clean v) x := by cases v <;> exact h

theorem GRel_clean {bt : Nat → Bool} {E : Env} {v : AV} {x : Value} (h : GRel bt E v x) : TRel E (clean v) x := by
  cases v <;> first
    | trivial
    | exact h

theorem GRel_of_clean {bt : Nat → Bool} {E : Env} {v : AV} {x : Value} (h : TRel E v x) : GRel bt E (clean v) x := by
  cases v <;> first
    | trivial
    | exact h

theorem verT_none (l : List Rec) (base : Nat → AV) (D : Nat → Bool) (hD : ∀ j, D j = false) (t : Nat) : verT D l base t = base t := by
  unfold verT
  rw [last_none (fun k _ => by simp [hD])]

theorem verH_none (l : List Rec) (hb : Hp) (D : Nat → Bool) (hD : ∀ j, D j = false) (n : Nat) : verH D l hb n = hb n := by
  unfold verH
  rw [last_none (fun k _ => by simp [hD])]

theorem region_wp {cx : Cx} (hΓ : TabOk cx.P cx.Γ) (hI : InlOk cx.P cx.inl) {ops : Array Oper} {draw : Bool} {st st' : St} {ob : Ob} (h : evalRegion cx ops draw st = some (st', ob)) (hob : ob.holds) {id : Nat}
    {Es : Env} {ws : World} {a : Act} {w : World} (hs : SRel Es ws st a w) {Q : Exit → Act → World → Prop} (hQ : ∀ a' w', SRel Es ws st' a' w' → Q .normal a' w') :
    (Code.region id ops draw).wp cx.P Q a w := by
  unfold evalRegion at h
  split at h <;> try (simp at h; done)
  rename_i fin n ob' hev
  split at h <;> simp at h
  rename_i hd
  obtain ⟨rfl, rfl⟩ := h
  obtain ⟨l, nx, obs, e1, e2, e3, e4, e5, e6⟩ := evalOps_run _ _ _ _ _ _ hev
  simp only [List.append_nil] at e1 e5
  have R : Run cx ops (fun t => clean (st.look t)) st.hp st.nt st.next l nx obs := ⟨by simpa using e2, fun i o r ho hr => e5 i o r (by simpa using ho) hr, e3⟩
  have hobs : ∀ i, i < ops.size → (obs i).holds := fun i hi => e6 hob i (by simpa using hi)
  obtain ⟨E, h1, h2, h3, h4, h5, h6, h7, h8, h9, h10⟩ := hs
  have hfin : ∀ E' a' w', InvD l (fun t => clean (st.look t)) st.hp st.nt st.next Es ws (fun j => decide (j < ops.size)) E' a' w' → Q .normal a' w' := by
    intro E' a' w' I
    have hmono0 := R.nx_mono (i := 0) (j := ops.size) (by omega) (Nat.le_refl _)
    have e40 : nx ops.size = n := by simpa using e4
    refine hQ a' w' ⟨E', ?_, I.sz, I.df, ?_, I.inj, I.bd, ?_, I.tr, h9, by rw [R.first] at hmono0; show st.lo ≤ n; omega⟩
    · intro t
      have ht := I.tm t
      rw [← R.len, verT_below _ l l.length (Nat.le_refl _) t, List.take_length] at ht
      have e := entOf_look (fun t => clean (st.look t)) (fun t => clean_clean _) t fin
      have : St.look { st with ent := entOf fin ++ st.ent, hent := hwOf fin ++ st.hent, next := n } t = (match lookL (entOf fin) t with | some v => v | none => st.look t) := by
        simp only [St.look, lookL_append]
        cases lookL (entOf fin) t <;> rfl
      rw [this]
      rw [e1] at e ⊢
      cases hl : lookL (entOf l.reverse) t with
      | some v =>
        simp only [hl] at e ⊢
        rw [e]
        exact GRel_clean ht
      | none =>
        simp only [hl] at e ⊢
        -- not written: as it was
        have hx : TRel E' (clean (st.look t)) (a'.tmps.getD t undef) := by rw [e]; exact GRel_clean ht
        cases hv : st.look t with
        | gd q u => trivial
        | _ => rw [hv] at hx; exact hx
    · intro m B hB
      refine I.hp m B ?_
      rw [← R.len, verH_below _ l l.length (Nat.le_refl _) m, List.take_length]
      rw [← hwOf_look, ← hB, ← e1]
      simp only [St.hp, hwL_append]
      cases hwL (hwOf fin) m <;> rfl
    · intro m hm
      refine Classical.byContradiction fun hne => ?_
      have e4' : nx ops.size = n := by simpa using e4
      have hmono := R.nx_mono (i := 0) (j := ops.size) (by omega) (Nat.le_refl _)
      simp only at hm
      obtain ⟨j, hj, hnj⟩ := I.nm m (by rw [R.first] at hmono; omega) hne
      obtain ⟨a1, a2, a3⟩ := R.nw_at hnj
      have := R.nx_mono (i := j + 1) (j := ops.size) (by omega) (Nat.le_refl _)
      omega
  have start : ∀ (D : Nat → Bool) (w : World), (∀ j, D j = false) → HRel E st.hp w → Bd E w → Tr Es ws E w → InvD l (fun t => clean (st.look t)) st.hp st.nt st.next Es ws D E a w := by
    intro D w hD hh hb ht
    refine ⟨fun t => ?_, ?_, h5, hb, fun m hm hne => absurd (h7 m hm) hne, h2, h3, ht⟩
    · rw [verT_none l _ D hD t]
      exact GRel_of_clean (h1 t)
    · intro m B hB
      rw [verH_none l _ D hD m] at hB
      exact hh m B hB
  cases draw with
  | false =>
    refine wp_region ?_
    rw [List.range_eq_range']
    exact R.seq hΓ hI hobs hfin ops.size 0 (by omega) E a w (start _ w (by simp) h4 h6 h8)
  | true =>
    simp only [Bool.not_true, Bool.false_or] at hd
    have hm : cx.P.follows .mixedOrders = true := by
      simp only [drawOk, Bool.and_eq_true] at hd
      exact hd.1.1.1
    refine wp_region_any hm ?_
    rw [e1, List.reverse_reverse] at hd
    have hD : ∀ j, (fun j => (Array.replicate ops.size false).getD j false) j = false := by
      intro j
      simp only [Array.getD_eq_getD_getElem?, Array.getElem?_replicate]
      split <;> rfl
    refine R.any hΓ hI hobs hd hfin ops.size _ E a _ (by simp) ?_ ?_ (start _ _ hD h4 h6 (h8.trans (Tr.drew E w)))
    · exact Nat.le_trans (List.length_filter_le _ _) (by simp)
    · intro j hj
      rw [hD j] at hj
      simp at hj

/-! ### Code -/

inductive Outc where
  | norm (st : St)
  | exit (id : Nat) (st : St)
  | ret (st : St)
  | br (b : Bool) (x y : Outc)

def Outc.bind : Outc → (St → Option (Outc × Ob)) → Option (Outc × Ob)
  | .norm st, f => f st
  | .br b x y, f => match Outc.bind x f, Outc.bind y f with
    | some (x', p), some (y', q) => some (.br b x' y', (p.under b true).and (q.under b false))
    | some (x', p), none => some (x', (Ob.pr (b = true)).and p)
    | none, some (y', q) => some (y', (Ob.pr (b = false)).and q)
    | none, none => none
  | o, _ => some (o, .tt)

def Outc.inBlock (id : Nat) : Outc → Outc
  | .exit id' st => if id' == id then .norm st else .exit id' st
  | .br b x y => .br b (Outc.inBlock id x) (Outc.inBlock id y)
  | o => o

def MatchO (Es : Env) (ws : World) : Outc → Exit → Act → World → Prop
  | .norm st, .normal, a, w => SRel Es ws st a w
  | .exit id st, .exit id', a, w => id' = id ∧ SRel Es ws st a w
  | .ret st, .ret, a, w => SRel Es ws st a w
  | .br b x y, e, a, w => if b = true then MatchO Es ws x e a w else MatchO Es ws y e a w
  | _, _, _, _ => False

def LoopOk (P : Program) (c : Code) (st : St) (out : Outc) : Prop :=
  ∀ Es ws a w, SRel Es ws st a w → (Code.loop c).wp P (MatchO Es ws out) a w

/-- How a loop ends: what it puts into temporaries and blocks. -/
inductive OT where
  | norm (e : List (Nat × AV)) (h : List (Nat × Option Blk))
  | exit (id : Nat) (e : List (Nat × AV)) (h : List (Nat × Option Blk))
  | ret (e : List (Nat × AV)) (h : List (Nat × Option Blk))
  | br (b : Bool) (x y : OT)

def appSt (e : List (Nat × AV)) (h : List (Nat × Option Blk)) (st : St) : St := { st with ent := e ++ st.ent, hent := h ++ st.hent }

def OT.app : OT → St → Outc
  | .norm e h, st => .norm (appSt e h st)
  | .exit id e h, st => .exit id (appSt e h st)
  | .ret e h, st => .ret (appSt e h st)
  | .br b x y, st => .br b (x.app st) (y.app st)

/-- What is told of a loop: which temporaries and blocks it is about, and how it ends. -/
structure Hk where
  keys : List Nat
  names : List (Nat × AV) → List Nat
  out : List (Nat × AV) → List (Nat × Option Blk) → Option OT
  /-- Blocks that the loop only reads. -/
  fix : List Nat := []

abbrev Hook := List Nat → Option Hk

/-- Leaves that hang from no index, from one, or from two. -/
def canC : AV → AV
  | .int k x => .int k fun ix => x [ix.headD 0, ix.tail.headD 0]
  | .bool b => .bool fun ix => b [ix.headD 0, ix.tail.headD 0]
  | .cons h t => .cons (canC h) (canC t)
  | .agg fs => .agg (canC fs)
  | v => v
def canB : AV → AV
  | .arr n b => .arr n (canC b)
  | .int k x => .int k fun ix => x [ix.headD 0]
  | .bool b => .bool fun ix => b [ix.headD 0]
  | .cons h t => .cons (canB h) (canB t)
  | .agg fs => .agg (canB fs)
  | v => v
def canon : AV → AV
  | .int k x => .int k fun _ => x []
  | .bool b => .bool fun _ => b []
  | .cons h t => .cons (canon h) (canon t)
  | .agg fs => .agg (canon fs)
  | .arr n b => .arr n (canB b)
  | v => v
def nrmK (v : AV) : AV := match nrm v with
  | some u => canon u
  | none => v
def nrmBlk (b : Option Blk) : Option Blk := b.map fun B => ⟨B.T, nrmK B.v⟩
def keyVals (st : St) : List Nat → List (Nat × AV)
  | [] => []
  | t :: l => (t, nrmK (st.look t)) :: keyVals st l
def keyBlks (st : St) : List Nat → List (Nat × Option Blk)
  | [] => []
  | n :: l => (n, nrmBlk (st.hp n)) :: keyBlks st l

def fixH (l : List (Nat × Option Blk)) (h : Hp) : Hp := fun n => match hwL l n with
  | some b => b
  | none => h n
def fixL (st : St) : List Nat → List (Nat × Option Blk)
  | [] => []
  | n :: l => (n, st.hp n) :: fixL st l
theorem fix_same (st : St) (l : List Nat) : fixH (fixL st l) st.hp = st.hp := by
  funext n
  unfold fixH
  induction l with
  | nil => rfl
  | cons k l ih =>
    simp only [fixL, hwL]
    by_cases h : k = n
    · subst h; simp
    · have e : (k == n) = false := by simpa using h
      simp only [e, Bool.false_eq_true, if_false]
      exact ih

def evalCode (cx : Cx) (Λ : Hook) : Code → List Nat → St → Option (Outc × Ob)
  | .skip, _, st => some (.norm st, .tt)
  | .label _, _, st => some (.norm st, .tt)
  | .region _ ops draw, _, st => match evalRegion cx ops draw st with
    | some (st', ob) => some (.norm st', ob)
    | none => none
  | .seq x y, p, st => match evalCode cx Λ x (p ++ [0]) st with
    | some (o, q) => match o.bind (evalCode cx Λ y (p ++ [1])) with
      | some (o', q') => some (o', q.and q')
      | none => none
    | none => none
  | .cond c x y, p, st => match opd st.look c with
    | .blit true => evalCode cx Λ x (p ++ [2]) st
    | .blit false => evalCode cx Λ y (p ++ [3]) st
    | .bool f => match evalCode cx Λ x (p ++ [2]) st, evalCode cx Λ y (p ++ [3]) st with
      | some (o, q), some (o', q') => some (.br (f []) o o', (q.under (f []) true).and (q'.under (f []) false))
      | some (o, q), none => some (o, (Ob.pr (f [] = true)).and q)
      | none, some (o', q') => some (o', (Ob.pr (f [] = false)).and q')
      | none, none => none
    | _ => none
  | .block id x, p, st => match evalCode cx Λ x (p ++ [4]) st with
    | some (o, q) => some (o.inBlock id, q)
    | none => none
  | .loop c, p, st => match Λ p with
    | some hk => match hk.out (keyVals st hk.keys) (keyBlks st (hk.names (keyVals st hk.keys))) with
      | some ot => some (ot.app st, .pr (∀ r h, LoopOk cx.P c ⟨keyVals st hk.keys, r, keyBlks st (hk.names (keyVals st hk.keys)), fixH (fixL st hk.fix) h, st.next, st.nt, st.lo⟩
          (ot.app ⟨keyVals st hk.keys, r, keyBlks st (hk.names (keyVals st hk.keys)), fixH (fixL st hk.fix) h, st.next, st.nt, st.lo⟩)))
      | none => none
    | none => none
  | .exit id, _, st => some (.exit id st, .tt)
  | .ret, _, st => some (.ret st, .tt)
  | _, _, _ => none

def codeAt : Code → List Nat → Option Code
  | c, [] => some c
  | .seq x _, 0 :: p => codeAt x p
  | .seq _ y, 1 :: p => codeAt y p
  | .cond _ x _, 2 :: p => codeAt x p
  | .cond _ _ y, 3 :: p => codeAt y p
  | .block _ x, 4 :: p => codeAt x p
  | .loop x, 5 :: p => codeAt x p
  | _, _ => none

theorem codeAt_append : ∀ (p q : List Nat) (c : Code), codeAt c (p ++ q) = (codeAt c p).bind fun d => codeAt d q
  | [], q, c => by cases c <;> simp [codeAt]
  | n :: p, q, c => by
    cases c <;> simp only [List.cons_append] <;> first
      | (match n with
         | 0 => first | exact codeAt_append p q _ | rfl
         | 1 => first | exact codeAt_append p q _ | rfl
         | 2 => first | exact codeAt_append p q _ | rfl
         | 3 => first | exact codeAt_append p q _ | rfl
         | 4 => first | exact codeAt_append p q _ | rfl
         | 5 => first | exact codeAt_append p q _ | rfl
         | _ + 6 => rfl)

theorem canC_cells (E : Env) (i j : Nat) : ∀ v, cells E [i, j] (canC v) = cells E [i, j] v ∧ pf (canC v) = pf v := by
  intro v
  induction v with
  | cons h t ih1 ih2 => exact ⟨by simp only [canC, cells, ih1.1, ih2.1], by simp only [canC, pf, ih1.2, ih2.2]⟩
  | agg fs ih => exact ⟨by simp only [canC, cells, ih.1], by simp only [canC, pf, ih.2]⟩
  | _ => exact ⟨rfl, rfl⟩

theorem canB_cells (E : Env) (i : Nat) : ∀ v, cells E [i] (canB v) = cells E [i] v ∧ pf (canB v) = pf v := by
  intro v
  induction v with
  | cons h t ih1 ih2 => exact ⟨by simp only [canB, cells, ih1.1, ih2.1], by simp only [canB, pf, ih1.2, ih2.2]⟩
  | agg fs ih => exact ⟨by simp only [canB, cells, ih.1], by simp only [canB, pf, ih.2]⟩
  | arr n b ih => exact ⟨by simp only [canB, cells, List.cons_append, List.nil_append, (canC_cells E i _ b).1], by simp only [canB, pf, (canC_cells E i 0 b).2]⟩
  | _ => exact ⟨rfl, rfl⟩

theorem canon_cells (E : Env) : ∀ v, cells E [] (canon v) = cells E [] v ∧ pf (canon v) = pf v ∧ big (canon v) = big v := by
  intro v
  induction v with
  | cons h t ih1 ih2 => exact ⟨by simp only [canon, cells, ih1.1, ih2.1], by simp only [canon, pf, ih1.2.1, ih2.2.1], rfl⟩
  | agg fs ih => exact ⟨by simp only [canon, cells, ih.1], by simp only [canon, pf, ih.2.1], rfl⟩
  | arr n b ih =>
    refine ⟨?_, (canB_cells E 0 b).2, rfl⟩
    simp only [canon, cells, List.nil_append, (canB_cells E _ b).1]
  | _ => exact ⟨rfl, rfl, rfl⟩

theorem val_by_cells (E : Env) (v : AV) : val E v = if big v = true then .agg (cells E [] v).toArray else (cells E [] v).headD undef := by
  cases v <;> simp [val, big, cells]

theorem canon_val (E : Env) (v : AV) : val E (canon v) = val E v := by
  obtain ⟨h1, _, h3⟩ := canon_cells E v
  rw [val_by_cells, val_by_cells, h1, h3]

theorem nrmK_TRel {E : Env} {v : AV} {x : Value} (h : TRel E (nrmK v) x) : TRel E v x := by
  unfold nrmK at h
  cases hv : nrm v with
  | none => rw [hv] at h; exact h
  | some u =>
    rw [hv] at h
    simp only at h
    obtain ⟨h1, h2, _⟩ := nrm_spec v u hv
    have e := nrm_val hv E
    have nt : ∀ v, pf v = true → (TRel E v x ↔ val E v = x) := by
      intro v hp
      cases v <;> first
        | (simp [pf] at hp; done)
        | exact ⟨fun h => h.2, fun h => ⟨ok_of_pf E _ hp, h⟩⟩
    rw [nt (canon u) (by rw [(canon_cells E u).2.1]; exact h2), canon_val] at h
    rw [nt v h1, e, h]

theorem nrmK_TRel' {E : Env} {v : AV} {x : Value} (h : TRel E v x) : TRel E (nrmK v) x := by
  unfold nrmK
  cases hv : nrm v with
  | none => exact h
  | some u =>
    simp only
    obtain ⟨h1, h2, _⟩ := nrm_spec v u hv
    have e := nrm_val hv E
    have nt : ∀ v, pf v = true → (TRel E v x ↔ val E v = x) := by
      intro v hp
      cases v <;> first
        | (simp [pf] at hp; done)
        | exact ⟨fun h => h.2, fun h => ⟨ok_of_pf E _ hp, h⟩⟩
    rw [nt v h1] at h
    rw [nt (canon u) (by rw [(canon_cells E u).2.1]; exact h2), canon_val, ← e, h]

theorem nrmK_cells (v : AV) : (∀ E, cells E [] (nrmK v) = cells E [] v) ∧ ∀ E, ok E (nrmK v) ↔ ok E v := by
  unfold nrmK
  cases hv : nrm v with
  | none => exact ⟨fun _ => rfl, fun _ => Iff.rfl⟩
  | some u =>
    obtain ⟨h1, h2, h3⟩ := nrm_spec v u hv
    exact ⟨fun E => by simp only; rw [(canon_cells E u).1]; exact (h3 E []).symm, fun E => ⟨fun _ => ok_of_pf E _ h1, fun _ => ok_of_pf E _ (by rw [(canon_cells E u).2.1]; exact h2)⟩⟩

theorem fz_nrmK (v : AV) : fzOf (nrmK v) = fzOf v := by
  unfold nrmK
  cases h : nrm v with
  | none => rfl
  | some u =>
    obtain ⟨h1, h2, _⟩ := nrm_spec v u h
    have h3 : pf (canon u) = true := by rw [(canon_cells E0 u).2.1]; exact h2
    show fzOf (canon u) = fzOf v
    rw [fz_notRaw (pf_notRaw h3), fz_notRaw (pf_notRaw h1)]
theorem keyVals_look (st : St) (t : Nat) : ∀ (l : List Nat), lookL (keyVals st l) t = none ∨ lookL (keyVals st l) t = some (nrmK (st.look t))
  | [] => .inl rfl
  | k :: l => by
    simp only [keyVals, lookL]
    split
    · rename_i h; simp at h; subst h; exact .inr rfl
    · exact keyVals_look st t l

theorem keyBlks_look (st : St) (n : Nat) : ∀ (l : List Nat), hwL (keyBlks st l) n = none ∨ hwL (keyBlks st l) n = some (nrmBlk (st.hp n))
  | [] => .inl rfl
  | k :: l => by
    simp only [keyBlks, hwL]
    split
    · rename_i h; simp at h; subst h; exact .inr rfl
    · exact keyBlks_look st n l

def keySt (st : St) (ks ns : List Nat) : St := ⟨keyVals st ks, st.look, keyBlks st ns, st.hp, st.next, st.nt, st.lo⟩

theorem keySt_look (st : St) (ks ns : List Nat) (t : Nat) : (keySt st ks ns).look t = st.look t ∨ (keySt st ks ns).look t = nrmK (st.look t) := by
  simp only [keySt, St.look]
  rcases keyVals_look st t ks with h | h <;> simp only [h]
  · left; trivial
  · right; rfl

theorem keySt_hp (st : St) (ks ns : List Nat) (n : Nat) : (keySt st ks ns).hp n = st.hp n ∨ (keySt st ks ns).hp n = nrmBlk (st.hp n) := by
  simp only [keySt, St.hp]
  rcases keyBlks_look st n ns with h | h <;> simp only [h]
  · left; trivial
  · right; rfl

theorem HRel_nrm {E : Env} {hp hp' : Hp} {w : World} (h : HRel E hp w) (hq : ∀ n, hp' n = hp n ∨ hp' n = nrmBlk (hp n)) : HRel E hp' w := by
  intro n B hB
  rcases hq n with e | e
  · exact h n B (by rw [← e, hB])
  · rw [e] at hB
    cases hn : hp n with
    | none => rw [hn] at hB; simp [nrmBlk] at hB
    | some B0 =>
      rw [hn] at hB
      simp only [nrmBlk, Option.map_some, Option.some.injEq] at hB
      subst hB
      obtain ⟨b, h1, h2, h3⟩ := h n B0 hn
      exact ⟨b, h1, ((nrmK_cells B0.v).2 E).2 h2, by rw [h3]; simp only [(nrmK_cells B0.v).1, fz_nrmK]⟩

theorem HRel_unnrm {E : Env} {hp hp' : Hp} {w : World} (h : HRel E hp' w) (hq : ∀ n, hp' n = hp n ∨ hp' n = nrmBlk (hp n)) : HRel E hp w := by
  intro n B hB
  rcases hq n with e | e
  · exact h n B (by rw [e, hB])
  · obtain ⟨b, h1, h2, h3⟩ := h n ⟨B.T, nrmK B.v⟩ (by rw [e, hB]; rfl)
    exact ⟨b, h1, ((nrmK_cells B.v).2 E).1 h2, by rw [h3]; simp only [(nrmK_cells B.v).1, fz_nrmK]⟩

theorem keySt_rel {Es : Env} {ws : World} {st : St} {a : Act} {w : World} (hs : SRel Es ws st a w) (ks ns : List Nat) : SRel Es ws (keySt st ks ns) a w := by
  obtain ⟨E, h1, h2, h3, h4, h5, h6, h7, h8, h9, h10⟩ := hs
  refine ⟨E, fun t => ?_, h2, h3, HRel_nrm h4 (keySt_hp st ks ns), h5, h6, h7, h8, h9, h10⟩
  rcases keySt_look st ks ns t with e | e
  · rw [e]; exact h1 t
  · rw [e]; exact nrmK_TRel' (h1 t)

theorem appSt_look (e : List (Nat × AV)) (h : List (Nat × Option Blk)) (st : St) (t : Nat) : (appSt e h st).look t = match lookL e t with
    | some v => v
    | none => st.look t := by
  simp only [appSt, St.look, lookL_append]
  cases lookL e t <;> rfl

theorem appSt_hp (e : List (Nat × AV)) (h : List (Nat × Option Blk)) (st : St) (n : Nat) : (appSt e h st).hp n = match hwL h n with
    | some v => v
    | none => st.hp n := by
  simp only [appSt, St.hp, hwL_append]
  cases hwL h n <;> rfl

theorem appSt_rel {Es : Env} {ws : World} {st : St} {ks ns : List Nat} {e : List (Nat × AV)} {h : List (Nat × Option Blk)} {a : Act} {w : World} (hs : SRel Es ws (appSt e h (keySt st ks ns)) a w) : SRel Es ws (appSt e h st) a w := by
  obtain ⟨E, h1, h2, h3, h4, h5, h6, h7, h8, h9, h10⟩ := hs
  refine ⟨E, fun t => ?_, h2, h3, HRel_unnrm h4 (fun n => ?_), h5, h6, h7, h8, h9, h10⟩
  · have := h1 t
    rw [appSt_look] at this ⊢
    cases he : lookL e t with
    | some v => rw [he] at this; exact this
    | none =>
      rw [he] at this
      simp only at this ⊢
      rcases keySt_look st ks ns t with q | q
      · rw [q] at this; exact this
      · rw [q] at this; exact nrmK_TRel this
  · rw [appSt_hp, appSt_hp]
    cases hwL h n with
    | some v => exact .inl rfl
    | none => exact keySt_hp st ks ns n

theorem app_match {Es : Env} {ws : World} {st : St} {ks ns : List Nat} : ∀ {ot : OT} {e : Exit} {a : Act} {w : World}, MatchO Es ws (ot.app (keySt st ks ns)) e a w → MatchO Es ws (ot.app st) e a w
  | .norm e h, x, a, w, hm => by cases x <;> simp only [OT.app, MatchO] at hm ⊢; exact appSt_rel hm
  | .exit id e h, x, a, w, hm => by cases x <;> simp only [OT.app, MatchO] at hm ⊢; exact ⟨hm.1, appSt_rel hm.2⟩
  | .ret e h, x, a, w, hm => by cases x <;> simp only [OT.app, MatchO] at hm ⊢; exact appSt_rel hm
  | .br b p q, x, a, w, hm => by
    simp only [OT.app, MatchO] at hm ⊢
    cases b with
    | true => simp only [if_true] at hm ⊢; exact app_match hm
    | false => simp only [Bool.false_eq_true, if_false] at hm ⊢; exact app_match hm

theorem bind_match {Es : Env} {ws : World} {f : St → Option (Outc × Ob)} : ∀ {o o' : Outc} {ob : Ob}, o.bind f = some (o', ob) → ob.holds → ∀ {e : Exit} {a : Act} {w : World}, MatchO Es ws o e a w →
    (e = .normal ∧ ∃ st o2 ob2, SRel Es ws st a w ∧ f st = some (o2, ob2) ∧ ob2.holds ∧ ∀ e a w, MatchO Es ws o2 e a w → MatchO Es ws o' e a w) ∨ (e ≠ .normal ∧ MatchO Es ws o' e a w)
  | .norm st, o', ob, h, hob, e, a, w, hm => by
    simp only [Outc.bind] at h
    cases e <;> simp only [MatchO] at hm
    left
    exact ⟨rfl, st, o', ob, hm, h, hob, fun _ _ _ h => h⟩
  | .exit id st, o', ob, h, hob, e, a, w, hm => by
    simp only [Outc.bind, Option.some.injEq, Prod.mk.injEq] at h
    obtain ⟨rfl, rfl⟩ := h
    right
    refine ⟨?_, hm⟩
    cases e <;> simp [MatchO] at hm <;> simp
  | .ret st, o', ob, h, hob, e, a, w, hm => by
    simp only [Outc.bind, Option.some.injEq, Prod.mk.injEq] at h
    obtain ⟨rfl, rfl⟩ := h
    right
    refine ⟨?_, hm⟩
    cases e <;> simp [MatchO] at hm <;> simp
  | .br b x y, o', ob, h, hob, e, a, w, hm => by
    simp only [Outc.bind] at h
    split at h <;> simp at h
    · rename_i x' p y' q hx hy
      obtain ⟨rfl, rfl⟩ := h
      rw [Ob.and_holds, Ob.under_holds, Ob.under_holds] at hob
      simp only [MatchO] at hm
      cases b with
      | true =>
        simp only [if_true] at hm
        rcases bind_match hx (hob.1 rfl) hm with ⟨h1, st, o2, ob2, h2, h3, h4, h5⟩ | ⟨h1, h2⟩
        · exact .inl ⟨h1, st, o2, ob2, h2, h3, h4, fun e a w hh => by simp only [MatchO, if_true]; exact h5 e a w hh⟩
        · exact .inr ⟨h1, by simp only [MatchO, if_true]; exact h2⟩
      | false =>
        simp only [Bool.false_eq_true, if_false] at hm
        rcases bind_match hy (hob.2 rfl) hm with ⟨h1, st, o2, ob2, h2, h3, h4, h5⟩ | ⟨h1, h2⟩
        · exact .inl ⟨h1, st, o2, ob2, h2, h3, h4, fun e a w hh => by simp only [MatchO, Bool.false_eq_true, if_false]; exact h5 e a w hh⟩
        · exact .inr ⟨h1, by simp only [MatchO, Bool.false_eq_true, if_false]; exact h2⟩
    · rename_i x' p hx hy
      obtain ⟨rfl, rfl⟩ := h
      rw [Ob.and_holds] at hob
      have hb : b = true := hob.1
      subst hb
      simp only [MatchO, if_true] at hm
      exact bind_match hx hob.2 hm
    · rename_i y' q hx hy
      obtain ⟨rfl, rfl⟩ := h
      rw [Ob.and_holds] at hob
      have hb : b = false := hob.1
      subst hb
      simp only [MatchO, Bool.false_eq_true, if_false] at hm
      exact bind_match hy hob.2 hm

theorem inBlock_match {Es : Env} {ws : World} {id : Nat} : ∀ {o : Outc} {e : Exit} {a : Act} {w : World}, MatchO Es ws o e a w → Exit.inBlock id (MatchO Es ws (o.inBlock id)) e a w
  | .norm st, e, a, w, hm => by cases e <;> simp only [MatchO] at hm; exact hm
  | .exit id' st, e, a, w, hm => by
    cases e <;> simp only [MatchO] at hm
    obtain ⟨rfl, hm⟩ := hm
    rename_i i
    simp only [Exit.inBlock, Outc.inBlock]
    by_cases h : i = id
    · simp [h, MatchO, hm]
    · simp [h, MatchO, hm]
  | .ret st, e, a, w, hm => by cases e <;> simp only [MatchO] at hm; exact hm
  | .br b x y, e, a, w, hm => by
    simp only [MatchO] at hm
    cases b with
    | true =>
      simp only [if_true] at hm
      have := inBlock_match (id := id) hm
      cases e <;> simpa [Exit.inBlock, Outc.inBlock, MatchO] using this
    | false =>
      simp only [Bool.false_eq_true, if_false] at hm
      have := inBlock_match (id := id) hm
      cases e <;> simpa [Exit.inBlock, Outc.inBlock, MatchO] using this

theorem cond_rel {Es : Env} {ws : World} {st : St} {a : Act} {w : World} (hs : SRel Es ws st a w) (c : Operand) : ∃ E, TRel E (opd st.look c) (a.eval c) := by
  obtain ⟨E, h1, _⟩ := hs
  refine ⟨E, ?_⟩
  cases c with
  | tmp t => exact h1 t
  | const v => cases v <;> first | trivial | exact ⟨trivial, rfl⟩
  | func f => exact ⟨trivial, rfl⟩
  | global g => trivial

theorem evalCode_wp {cx : Cx} (hΓ : TabOk cx.P cx.Γ) (hI : InlOk cx.P cx.inl) {Λ : Hook} {Es : Env} {ws : World} :
    ∀ (c : Code) (p : List Nat) (st : St) (o : Outc) (ob : Ob), evalCode cx Λ c p st = some (o, ob) → ob.holds → ∀ (a : Act) (w : World), SRel Es ws st a w → c.wp cx.P (MatchO Es ws o) a w := by
  intro c
  induction c with
  | skip =>
    intro p st o ob h hob a w hs
    simp [evalCode] at h
    obtain ⟨rfl, rfl⟩ := h
    exact wp_skip hs
  | label l =>
    intro p st o ob h hob a w hs
    simp [evalCode] at h
    obtain ⟨rfl, rfl⟩ := h
    exact wp_label hs
  | region id ops draw =>
    intro p st o ob h hob a w hs
    simp only [evalCode] at h
    split at h <;> simp at h
    rename_i st' ob' hr
    obtain ⟨rfl, rfl⟩ := h
    exact region_wp hΓ hI hr hob hs (fun a' w' h => h)
  | seq x y ihx ihy =>
    intro p st o ob h hob a w hs
    simp only [evalCode] at h
    split at h <;> try (simp at h; done)
    rename_i o1 q1 h1
    split at h <;> simp at h
    rename_i o2 q2 h2
    obtain ⟨rfl, rfl⟩ := h
    rw [Ob.and_holds] at hob
    refine wp_seq (wp_mono (ihx _ st o1 q1 h1 hob.1 a w hs) ?_)
    intro e a' w' hm
    rcases bind_match h2 hob.2 hm with ⟨rfl, st', o3, ob3, h3, h4, h5, h6⟩ | ⟨he, h3⟩
    · exact wp_mono (ihy _ st' o3 ob3 h4 h5 a' w' h3) h6
    · cases e <;> first | exact h3 | exact absurd rfl he
  | cond cnd x y ihx ihy =>
    intro p st o ob h hob a w hs
    simp only [evalCode] at h
    obtain ⟨E, hcr⟩ := cond_rel hs cnd
    split at h <;> try (simp at h; done)
    · rename_i hcv
      rw [hcv] at hcr
      exact wp_cond_true ((TRel_bl rfl _).1 hcr) (ihx _ st o ob h hob a w hs)
    · rename_i hcv
      rw [hcv] at hcr
      exact wp_cond_false ((TRel_bl rfl _).1 hcr) (ihy _ st o ob h hob a w hs)
    · rename_i f hcv
      rw [hcv] at hcr
      have hc' : a.eval cnd = .bool (f []) := by simpa [bv] using (TRel_bl rfl _).1 hcr
      split at h <;> simp at h
      · rename_i o1 q1 o2 q2 h1 h2
        obtain ⟨rfl, rfl⟩ := h
        rw [Ob.and_holds, Ob.under_holds, Ob.under_holds] at hob
        refine wp_cond hc' ?_
        cases hf : f [] with
        | true =>
          simp only [if_true]
          refine wp_mono (ihx _ st o1 q1 h1 (hob.1 hf) a w hs) ?_
          intro e a' w' hm
          simp only [MatchO, if_true]; exact hm
        | false =>
          simp only [Bool.false_eq_true, if_false]
          refine wp_mono (ihy _ st o2 q2 h2 (hob.2 hf) a w hs) ?_
          intro e a' w' hm
          simp only [MatchO, Bool.false_eq_true, if_false]; exact hm
      · rename_i o1 q1 h1 h2
        obtain ⟨rfl, rfl⟩ := h
        rw [Ob.and_holds] at hob
        have hf : f [] = true := hob.1
        rw [hf] at hc'
        exact wp_cond_true hc' (ihx _ st o1 q1 h1 hob.2 a w hs)
      · rename_i o2 q2 h1 h2
        obtain ⟨rfl, rfl⟩ := h
        rw [Ob.and_holds] at hob
        have hf : f [] = false := hob.1
        rw [hf] at hc'
        exact wp_cond_false hc' (ihy _ st o2 q2 h2 hob.2 a w hs)
  | block id x ih =>
    intro p st o ob h hob a w hs
    simp only [evalCode] at h
    split at h <;> simp at h
    rename_i o1 q1 h1
    obtain ⟨rfl, rfl⟩ := h
    refine wp_block (wp_mono (ih _ st o1 q1 h1 hob a w hs) ?_)
    intro e a' w' hm
    exact inBlock_match hm
  | loop x ih =>
    intro p st o ob h hob a w hs
    simp only [evalCode] at h
    split at h <;> try (simp at h; done)
    rename_i hk _
    split at h <;> simp at h
    rename_i ot _
    obtain ⟨rfl, rfl⟩ := h
    have hob' := hob st.look st.hp
    rw [fix_same] at hob'
    refine wp_mono (hob' Es ws a w (keySt_rel hs hk.keys (hk.names (keyVals st hk.keys)))) ?_
    intro e a' w' hm
    exact app_match (ks := hk.keys) (ns := hk.names (keyVals st hk.keys)) hm
  | exit id =>
    intro p st o ob h hob a w hs
    simp [evalCode] at h
    obtain ⟨rfl, rfl⟩ := h
    exact wp_exit ⟨rfl, hs⟩
  | ret =>
    intro p st o ob h hob a w hs
    simp [evalCode] at h
    obtain ⟨rfl, rfl⟩ := h
    exact wp_ret hs
  | _ => intro p st o ob h; simp [evalCode] at h

end Go.Rf

/- Functions: a call's answer; functions that are entered in place; loops. -/
namespace Go.Rf

def argEnt : Nat → List AV → List (Nat × AV)
  | _, [] => []
  | i, v :: l => (i, v) :: argEnt (i + 1) l

def St.enter (args : List AV) (hp : Hp) (next nt : Nat) : St :=
  { ent := argEnt 0 args, rest := fun _ => .tup .nil, hent := [], hrest := hp, next := next, nt := nt, lo := next }

/-- One result, out of a temporary or a cell. -/
def resOne (P : Program) (st : St) : ResultVar → Option (AV × Ob)
  | .tmp t => let v := st.look t
    if sca v || big v then some (v, .tt) else none
  | .cell t T => match st.look t with
    | .ptr n p => match st.hp n with
      | some B => match get p B.v with
        | some u => if fits P T u then some (u, getOb p B.v) else none
        | none => none
      | none => none
    | _ => none

def resList (P : Program) (st : St) : List ResultVar → Option (List AV × Ob)
  | [] => some ([], .tt)
  | r :: rs => match resOne P st r, resList P st rs with
    | some (v, o), some (vs, o') => some (v :: vs, o.and o')
    | _, _ => none

def listAV : List AV → AV
  | [] => .nil
  | v :: l => .cons v (listAV l)

def packAV : List AV → AV
  | [v] => v
  | l => .tup (listAV l)

inductive Res where
  | leaf (v : AV) (hw : List (Nat × Option Blk))
  | br (b : Bool) (x y : Res)

def keepB (b : Option Blk) : Option Blk := match b with
  | some B => if pf B.v then some B else none
  | none => none

/-- The blocks that the caller knows, as they are left. -/
def leftOver (hp : Hp) : List (Nat × Option Blk) → List (Nat × Option Blk)
  | [] => []
  | (n, b) :: l => if (hp n).isSome then (n, keepB b) :: leftOver hp l else leftOver hp l

def resOf (P : Program) (fn : Func) (hp : Hp) : Outc → Option (Res × Ob)
  | .norm st => match resList P st fn.results.toList with
    | some (vs, o) => some (.leaf (packAV vs) (leftOver hp st.hent), o)
    | none => none
  | .ret st => match resList P st fn.results.toList with
    | some (vs, o) => some (.leaf (packAV vs) (leftOver hp st.hent), o)
    | none => none
  | .br b x y => match resOf P fn hp x, resOf P fn hp y with
    | some (r, p), some (s, q) => some (.br b r s, (p.under b true).and (q.under b false))
    | _, _ => none
  | .exit _ _ => none

def evalFn (cx : Cx) (Λ : FuncId → Hook) (f : FuncId) (args : List AV) (hp : Hp) (next : Nat) : Option (Res × Ob) :=
  match cx.P.funcs[f]? with
  | some fn => match fn.body with
    | some c => if args.length ≤ fn.ntmps then match evalCode cx (Λ f) c [] (St.enter args hp next fn.ntmps) with
      | some (o, ob) => match resOf cx.P fn hp o with
        | some (r, ob') => some (r, ob.and ob')
        | none => none
      | none => none
      else none
    | none => none
  | none => none

/-- The leaf that the tests choose. -/
def Res.sel : Res → AV × List (Nat × Option Blk)
  | .leaf v hw => (v, hw)
  | .br b x y => if b = true then x.sel else y.sel

def MatchR (Es : Env) (ws : World) (hp : Hp) (r : AV × List (Nat × Option Blk)) (e : Ending) (w' : World) : Prop :=
  ∃ E, okT E r.1 ∧ e = .returned (valT E r.1) ∧ Tr Es ws E w' ∧ HRel Es (updH hp r.2) w'

def rvSem (tmps : Array Value) : ResultVar → Sem Value
  | .tmp t => pure (tmps.getD t undef)
  | .cell t T => do loadVar T (← asAddr (tmps.getD t undef))

theorem resOne_run {P : Program} {st : St} {rv : ResultVar} {v : AV} {o : Ob} (h : resOne P st rv = some (v, o)) (ho : o.holds) {E : Env} {a : Act} {w : World}
    (hl : ∀ t, TRel E (st.look t) (a.tmps.getD t undef)) (hh : HRel E st.hp w) : ok E v ∧
    (rvSem a.tmps rv).run P w = .ok (val E v) w := by
  cases rv with
  | tmp t =>
    simp only [resOne] at h
    split at h <;> simp at h
    rename_i hs
    obtain ⟨rfl, rfl⟩ := h
    obtain ⟨h1, h2⟩ := TRel_ok (hl t) (sca_big hs)
    exact ⟨h1, by simp only [rvSem, Sem.run_pure, h2]⟩
  | cell t T =>
    simp only [resOne] at h
    split at h <;> try (simp at h; done)
    rename_i n p hp
    split at h <;> try (simp at h; done)
    rename_i B hB
    split at h <;> try (simp at h; done)
    rename_i u hu
    split at h <;> simp at h
    rename_i hf
    obtain ⟨rfl, rfl⟩ := h
    have ht := hl t
    rw [hp] at ht
    obtain ⟨b, hb, hv⟩ := val_ptr_run ht
    obtain ⟨b2, h1, h2, h3⟩ := hh n B hB
    obtain rfl : b = b2 := by rw [hb] at h1; exact Option.some.inj h1
    refine ⟨get_ok E p B.v _ hu h2, ?_⟩
    simp only [rvSem, hv, asAddr, Sem.run_bind, Sem.run_pure, Result.andThen_ok]
    exact loadVar_run h3 hu ((getOb_holds p B.v).1 ho) hf

theorem resList_run {P : Program} {st : St} {E : Env} {a : Act} {w : World} (hl : ∀ t, TRel E (st.look t) (a.tmps.getD t undef)) (hh : HRel E st.hp w) :
    ∀ (rs : List ResultVar) (vs : List AV) (o : Ob), resList P st rs = some (vs, o) → o.holds → (∀ v ∈ vs, ok E v) ∧
      (rs.mapM (rvSem a.tmps)).run P w = .ok (vs.map (val E)) w
  | [], vs, o, h, ho => by simp [resList] at h; obtain ⟨rfl, rfl⟩ := h; simp
  | r :: rs, vs, o, h, ho => by
    simp only [resList] at h
    split at h <;> simp at h
    rename_i v o1 vs' o2 h1 h2
    obtain ⟨rfl, rfl⟩ := h
    rw [Ob.and_holds] at ho
    obtain ⟨a1, a2⟩ := resOne_run h1 ho.1 hl hh
    obtain ⟨b1, b2⟩ := resList_run hl hh rs vs' o2 h2 ho.2
    refine ⟨?_, ?_⟩
    · intro x hx
      simp at hx
      rcases hx with rfl | hx
      · exact a1
      · exact b1 x hx
    · rw [List.mapM_cons, Sem.run_bind, a2]
      simp only [Result.andThen_ok]
      rw [Sem.run_bind, b2]
      rfl

theorem listAV_okl {E : Env} : ∀ (l : List AV), (∀ v ∈ l, ok E v) → okl E (listAV l) ∧ vals E (listAV l) = l.map (val E)
  | [], _ => ⟨trivial, rfl⟩
  | v :: l, h => by
    obtain ⟨h1, h2⟩ := listAV_okl l (fun x hx => h x (by simp [hx]))
    exact ⟨⟨h v (by simp), h1⟩, by simp only [listAV, vals, h2, List.map_cons]⟩

theorem ok_not_tup {E : Env} {v : AV} (h : ok E v) : okT E v ∧ valT E v = val E v := by
  cases v <;> first
    | exact h.elim
    | exact ⟨h, rfl⟩

theorem pack_run {E : Env} {l : List AV} (h : ∀ v ∈ l, ok E v) : okT E (packAV l) ∧
    valT E (packAV l) = (if h : (l.map (val E)).toArray.size = 1 then (l.map (val E)).toArray[0] else .tuple (l.map (val E)).toArray) := by
  match l, h with
  | [], _ => exact ⟨trivial, rfl⟩
  | [v], h =>
    obtain ⟨h1, h2⟩ := ok_not_tup (h v (by simp))
    exact ⟨h1, by simp [packAV, h2]⟩
  | a :: b :: l, h =>
    obtain ⟨h1, h2⟩ := listAV_okl _ h
    refine ⟨h1, ?_⟩
    simp only [packAV, valT, h2]
    simp

theorem leftOver_upd {hp : Hp} {n : Nat} (hn : (hp n).isSome = true) : ∀ (l : List (Nat × Option Blk)) (B : Blk), updH hp (leftOver hp l) n = some B → (match hwL l n with | some b => b | none => hp n) = some B ∧ (hwL l n ≠ none → pf B.v = true)
  | [], B, h => by simp [leftOver, updH, hwL] at h ⊢; exact h
  | (k, b) :: l, B, h => by
    simp only [leftOver] at h
    by_cases hk : k = n
    · subst hk
      simp only [hn, if_true, updH, hwL, beq_self_eq_true] at h ⊢
      simp only [keepB] at h
      split at h <;> try (simp at h; done)
      rename_i B'
      split at h <;> simp at h
      rename_i hpf
      subst h
      exact ⟨rfl, fun _ => hpf⟩
    · have hkn : (k == n) = false := by simpa using hk
      have h2 : updH hp (leftOver hp l) n = some B := by
        split at h
        · simp only [updH, hwL, hkn] at h ⊢; exact h
        · exact h
      have ih := leftOver_upd hn l B h2
      simp only [hwL, hkn, Bool.false_eq_true, if_false]
      exact ih

theorem leftOver_none {hp : Hp} {n : Nat} (hn : hp n = none) : ∀ (l : List (Nat × Option Blk)), updH hp (leftOver hp l) n = none
  | [] => by simp [leftOver, updH, hwL, hn]
  | (k, b) :: l => by
    have ih := leftOver_none hn l
    simp only [leftOver]
    split
    · rename_i hs
      have hkn : (k == n) = false := by
        have : k ≠ n := fun e => by subst e; simp [hn] at hs
        simpa using this
      simp only [updH, hwL, hkn] at ih ⊢
      exact ih
    · exact ih

theorem leaf_run {P : Program} {fn : Func} {hp : Hp} {st : St} {vs : List AV} {o : Ob} (h : resList P st fn.results.toList = some (vs, o)) (ho : o.holds) {Es : Env} {ws : World} {a : Act} {w : World}
    (hs : SRel Es ws st a w) (hrest : st.hrest = hp) (hent : HRel Es hp ws) (hbd : Bd Es ws) :
    a.defers = [] ∧ ∃ v, (results fn a.tmps).run P w = .ok v w ∧ MatchR Es ws hp (packAV vs, leftOver hp st.hent) (.returned v) w := by
  obtain ⟨E, h1, h2, h3, h4, h5, h6, h7, h8, _, _⟩ := hs
  obtain ⟨a1, a2⟩ := resList_run h1 h4 _ vs o h ho
  obtain ⟨p1, p2⟩ := pack_run a1
  refine ⟨h3, valT E (packAV vs), ?_, E, p1, rfl, h8, ?_⟩
  · have e : results fn a.tmps = (do
        let vs ← fn.results.mapM (rvSem a.tmps)
        pure (if h : vs.size = 1 then vs[0] else .tuple vs)) := rfl
    rw [e, Sem.run_bind, Array.mapM_eq_mapM_toList, Sem.run_map, a2]
    simp only [Result.andThen_ok]
    rw [p2]
    rfl
  · intro n B hB
    cases hn : hp n with
    | none => rw [leftOver_none hn] at hB; simp at hB
    | some B0 =>
      obtain ⟨b, e1, e2, e3⟩ := hent n B0 hn
      obtain ⟨q1, q2⟩ := leftOver_upd (hp := hp) (n := n) (by simp [hn]) st.hent B hB
      have hhp : st.hp n = some B := by
        simp only [St.hp, hrest]
        exact q1
      obtain ⟨k, k1, k2, k3⟩ := h4 n B hhp
      have hEn : E n = some b := h8.sub n b e1
      obtain rfl : k = b := by rw [k1] at hEn; exact Option.some.inj hEn
      refine ⟨k, e1, ?_⟩
      cases hw : hwL st.hent n with
      | some bb =>
        have hpf := q2 (by simp [hw])
        exact ⟨ok_of_pf Es _ hpf, by rw [k3, cells_pf E Es _ hpf]⟩
      | none =>
        simp only [hw, hn, Option.some.injEq] at q1
        subst q1
        exact ⟨e2, by rw [k3, cells_mono h8.sub e2]⟩

/-- The code leaves alone what it does not know. -/
def RestIs (hp : Hp) : Outc → Prop
  | .norm st => st.hrest = hp
  | .exit _ st => st.hrest = hp
  | .ret st => st.hrest = hp
  | .br _ x y => RestIs hp x ∧ RestIs hp y

theorem app_rest {st : St} : ∀ {ot : OT}, RestIs st.hrest (ot.app st)
  | .norm _ _ => rfl
  | .exit _ _ _ => rfl
  | .ret _ _ => rfl
  | .br _ _ _ => ⟨app_rest, app_rest⟩

theorem evalRegion_rest {cx : Cx} {ops : Array Oper} {draw : Bool} {st st' : St} {ob : Ob} (h : evalRegion cx ops draw st = some (st', ob)) : st'.hrest = st.hrest := by
  unfold evalRegion at h
  split at h <;> try (simp at h; done)
  split at h <;> simp at h
  rw [← h.1]

theorem bind_rest {hp : Hp} {f : St → Option (Outc × Ob)} (hf : ∀ st o ob, st.hrest = hp → f st = some (o, ob) → RestIs hp o) : ∀ {o o' : Outc} {ob : Ob}, o.bind f = some (o', ob) → RestIs hp o → RestIs hp o'
  | .norm st, o', ob, h, hr => hf st o' ob hr h
  | .exit id st, o', ob, h, hr => by simp only [Outc.bind, Option.some.injEq, Prod.mk.injEq] at h; rw [← h.1]; exact hr
  | .ret st, o', ob, h, hr => by simp only [Outc.bind, Option.some.injEq, Prod.mk.injEq] at h; rw [← h.1]; exact hr
  | .br b x y, o', ob, h, hr => by
    simp only [Outc.bind] at h
    split at h <;> simp at h
    · rename_i x' p y' q hx hy
      rw [← h.1]
      exact ⟨bind_rest hf hx hr.1, bind_rest hf hy hr.2⟩
    · rename_i x' p hx hy
      rw [← h.1]
      exact bind_rest hf hx hr.1
    · rename_i y' q hx hy
      rw [← h.1]
      exact bind_rest hf hy hr.2

theorem inBlock_rest {hp : Hp} {id : Nat} : ∀ {o : Outc}, RestIs hp o → RestIs hp (o.inBlock id)
  | .norm st, h => h
  | .exit id' st, h => by simp only [Outc.inBlock]; split <;> exact h
  | .ret st, h => h
  | .br b x y, h => ⟨inBlock_rest h.1, inBlock_rest h.2⟩

theorem evalCode_rest {cx : Cx} {Λ : Hook} : ∀ (c : Code) (p : List Nat) (st : St) (o : Outc) (ob : Ob), evalCode cx Λ c p st = some (o, ob) → RestIs st.hrest o := by
  intro c
  induction c with
  | skip => intro p st o ob h; simp [evalCode] at h; rw [← h.1]; exact rfl
  | label l => intro p st o ob h; simp [evalCode] at h; rw [← h.1]; exact rfl
  | region id ops draw =>
    intro p st o ob h
    simp only [evalCode] at h
    split at h <;> simp at h
    rename_i st' ob' hr
    rw [← h.1]
    exact evalRegion_rest hr
  | seq x y ihx ihy =>
    intro p st o ob h
    simp only [evalCode] at h
    split at h <;> try (simp at h; done)
    rename_i o1 q1 h1
    split at h <;> simp at h
    rename_i o2 q2 h2
    rw [← h.1]
    exact bind_rest (fun st' o ob e h => by rw [← e]; exact ihy _ st' o ob h) h2 (ihx _ st o1 q1 h1)
  | cond c x y ihx ihy =>
    intro p st o ob h
    simp only [evalCode] at h
    split at h <;> try (simp at h; done)
    · exact ihx _ st o ob h
    · exact ihy _ st o ob h
    · split at h <;> simp at h
      · rename_i o1 q1 o2 q2 h1 h2
        rw [← h.1]
        exact ⟨ihx _ st o1 q1 h1, ihy _ st o2 q2 h2⟩
      · rename_i o1 q1 h1 h2
        rw [← h.1]
        exact ihx _ st o1 q1 h1
      · rename_i o2 q2 h1 h2
        rw [← h.1]
        exact ihy _ st o2 q2 h2
  | block id x ih =>
    intro p st o ob h
    simp only [evalCode] at h
    split at h <;> simp at h
    rename_i o1 q1 h1
    rw [← h.1]
    exact inBlock_rest (ih _ st o1 q1 h1)
  | loop x ih =>
    intro p st o ob h
    simp only [evalCode] at h
    split at h <;> try (simp at h; done)
    split at h <;> simp at h
    rw [← h.1]
    exact app_rest
  | exit id => intro p st o ob h; simp [evalCode] at h; rw [← h.1]; exact rfl
  | ret => intro p st o ob h; simp [evalCode] at h; rw [← h.1]; exact rfl
  | _ => intro p st o ob h; simp [evalCode] at h

theorem resOf_run {P : Program} {fn : Func} {hp : Hp} {Es : Env} {ws : World} (hent : HRel Es hp ws) (hbd : Bd Es ws) : ∀ {o : Outc} {r : Res} {ob : Ob}, resOf P fn hp o = some (r, ob) → ob.holds → RestIs hp o →
    ∀ {e : Exit} {a : Act} {w : World}, MatchO Es ws o e a w → bodyPost P fn (MatchR Es ws hp r.sel) e a w
  | .norm st, r, ob, h, hob, hr, e, a, w, hm => by
    simp only [resOf] at h
    split at h <;> simp at h
    rename_i vs o' hv
    obtain ⟨rfl, rfl⟩ := h
    cases e <;> simp only [MatchO] at hm
    exact leaf_run hv hob hm hr hent hbd
  | .ret st, r, ob, h, hob, hr, e, a, w, hm => by
    simp only [resOf] at h
    split at h <;> simp at h
    rename_i vs o' hv
    obtain ⟨rfl, rfl⟩ := h
    cases e <;> simp only [MatchO] at hm
    exact leaf_run hv hob hm hr hent hbd
  | .exit id st, r, ob, h, hob, hr, e, a, w, hm => by simp [resOf] at h
  | .br b x y, r, ob, h, hob, hr, e, a, w, hm => by
    simp only [resOf] at h
    split at h <;> simp at h
    rename_i r1 p r2 q h1 h2
    obtain ⟨rfl, rfl⟩ := h
    rw [Ob.and_holds, Ob.under_holds, Ob.under_holds] at hob
    simp only [MatchO] at hm
    cases b with
    | true =>
      simp only [if_true] at hm
      simp only [Res.sel, if_true]
      exact resOf_run hent hbd h1 (hob.1 rfl) hr.1 hm
    | false =>
      simp only [Bool.false_eq_true, if_false] at hm
      simp only [Res.sel, Bool.false_eq_true, if_false]
      exact resOf_run hent hbd h2 (hob.2 rfl) hr.2 hm

theorem argEnt_look : ∀ (args : List AV) (i t : Nat), lookL (argEnt i args) t = if i ≤ t then args[t - i]? else none
  | [], i, t => by simp [argEnt, lookL]
  | v :: l, i, t => by
    simp only [argEnt, lookL]
    by_cases h : i = t
    · subst h; simp
    · have : (i == t) = false := by simpa using h
      simp only [this, Bool.false_eq_true, if_false, argEnt_look l (i + 1) t]
      by_cases h2 : i ≤ t
      · have e : t - i = (t - (i + 1)) + 1 := by omega
        have : i + 1 ≤ t := by omega
        simp [h2, this, e]
      · have : ¬ i + 1 ≤ t := by omega
        simp [h2, this]

theorem evalFn_calls {cx : Cx} (hΓ : TabOk cx.P cx.Γ) (hI : InlOk cx.P cx.inl) {Λ : FuncId → Hook} {f : FuncId} {args : List AV} {hp : Hp} {next : Nat} {r : Res} {ob : Ob}
    (h : evalFn cx Λ f args hp next = some (r, ob)) (hob : ob.holds) {E : Env} {w : World} (hargs : ∀ v ∈ args, ok E v) (hh : HRel E hp w) (hinj : Inj E) (hbd : Bd E w) (hnext : ∀ n, next ≤ n → E n = none) :
    Calls cx.P f (args.map (val E)).toArray w (MatchR E w hp r.sel) := by
  unfold evalFn at h
  split at h <;> try (simp at h; done)
  rename_i fn hf
  split at h <;> try (simp at h; done)
  rename_i c hc
  split at h <;> try (simp at h; done)
  rename_i hlen
  split at h <;> try (simp at h; done)
  rename_i o ob1 h1
  split at h <;> simp at h
  rename_i r' ob2 h2
  obtain ⟨rfl, rfl⟩ := h
  rw [Ob.and_holds] at hob
  refine calls_of_wp hf hc ?_
  have hrest := evalCode_rest (Λ := Λ f) c [] _ o ob1 h1
  have hs : SRel E w (St.enter args hp next fn.ntmps) { tmps := (args.map (val E)).toArray ++ Array.replicate (fn.ntmps - (args.map (val E)).toArray.size) undef, defers := [] } w := by
    refine ⟨E, ?_, ?_, rfl, ?_, hinj, hbd, hnext, Tr.refl E w, hnext, Nat.le_refl _⟩
    · intro t
      simp only [St.look, St.enter, argEnt_look, Nat.zero_le, if_true, Nat.sub_zero]
      simp only [Array.getD_eq_getD_getElem?, Array.getElem?_append]
      by_cases ht : t < args.length
      · have e : args[t]? = some args[t] := List.getElem?_eq_getElem ht
        simp only [e, List.size_toArray, List.length_map, ht, if_true]
        simp only [List.getElem?_toArray, List.getElem?_map, e, Option.map_some, Option.getD_some]
        exact TRel_of (hargs _ (List.getElem_mem ht))
      · have e : args[t]? = none := by simp; omega
        simp only [e, List.size_toArray, List.length_map, ht, if_false]
        refine ⟨trivial, ?_⟩
        simp only [Array.getElem?_replicate]
        split <;> rfl
    · simp [St.enter]; omega
    · intro n B hB
      exact hh n B hB
  exact wp_mono (evalCode_wp hΓ hI c [] _ o ob1 h1 hob.1 _ w hs) fun e a w' hm => resOf_run hh hbd h2 hob.2 hrest hm

end Go.Rf

/- Functions entered in place; what a call answers; loops. -/
namespace Go.Rf

/-- The one or the other, leaf by leaf. -/
def mergeB (b : Bool) : AV → AV → Option AV
  | .lit k n, u => match u with
    | .lit k' m => if k == k' && n == m then some (.lit k n) else match toBV k (.lit k n), toBV k u with
      | some x, some y => some (.int k fun ix => bif b then x ix else y ix)
      | _, _ => none
    | u => match toBV k (.lit k n), toBV k u with
      | some x, some y => some (.int k fun ix => bif b then x ix else y ix)
      | _, _ => none
  | .int k x, u => match toBV k u with
    | some y => some (.int k fun ix => bif b then x ix else y ix)
    | none => none
  | .blit c, u => match u with
    | .blit d => if c == d then some (.blit c) else some (.bool fun _ => bif b then c else d)
    | .bool g => some (.bool fun ix => bif b then c else g ix)
    | _ => none
  | .bool f, u => match toBl u with
    | some g => some (.bool fun ix => bif b then f ix else g ix)
    | none => none
  | .nil, .nil => some .nil
  | .cons h t, .cons h' t' => match mergeB b h h', mergeB b t t' with
    | some x, some y => some (.cons x y)
    | _, _ => none
  | .agg fs, .agg fs' => (mergeB b fs fs').map .agg
  | .arr n x, .arr n' y => if n == n' then (mergeB b x y).map (.arr n) else none
  | _, _ => none

theorem mergeB_cells (b : Bool) (E : Env) : ∀ (x y m : AV), mergeB b x y = some m → pf m = true ∧ ∀ ix, cells E ix m = if b = true then cells E ix x else cells E ix y := by
  intro x
  induction x with
  | lit k n =>
    intro y m h
    have gen : ∀ u, (match toBV k (.lit k n), toBV k u with
      | some x, some y => some (AV.int k fun ix => bif b then x ix else y ix)
      | _, _ => none) = some m → pf m = true ∧ ∀ ix, cells E ix m = if b = true then cells E ix (.lit k n) else cells E ix u := by
      intro u h
      split at h <;> simp at h
      rename_i x y hx hy
      subst h
      refine ⟨rfl, fun ix => ?_⟩
      rw [toBV_cells hx, toBV_cells hy]
      cases b <;> rfl
    simp only [mergeB] at h
    split at h
    · split at h
      · rename_i hc
        simp at h hc
        subst h
        obtain ⟨rfl, rfl⟩ := hc
        exact ⟨rfl, fun ix => by cases b <;> rfl⟩
      · exact gen _ h
    · exact gen _ h
  | int k x =>
    intro y m h
    simp only [mergeB] at h
    split at h <;> simp at h
    rename_i z hz
    subst h
    refine ⟨rfl, fun ix => ?_⟩
    rw [toBV_cells hz]
    cases b <;> rfl
  | blit c =>
    intro y m h
    simp only [mergeB] at h
    split at h <;> try (simp at h; done)
    · split at h <;> simp at h <;> subst h
      · rename_i hc
        simp at hc
        subst hc
        exact ⟨rfl, fun ix => by cases b <;> rfl⟩
      · exact ⟨rfl, fun ix => by cases b <;> rfl⟩
    · simp at h; subst h
      exact ⟨rfl, fun ix => by cases b <;> rfl⟩
  | bool f =>
    intro y m h
    simp only [mergeB] at h
    split at h <;> simp at h
    rename_i g hg
    subst h
    refine ⟨rfl, fun ix => ?_⟩
    rw [toBl_cells hg]
    cases b <;> rfl
  | nil => intro y m h; cases y <;> simp [mergeB] at h; subst h; exact ⟨rfl, fun ix => by cases b <;> rfl⟩
  | cons x1 x2 ih1 ih2 =>
    intro y m h
    cases y <;> simp [mergeB] at h
    split at h <;> simp at h
    rename_i m1 m2 h1 h2
    subst h
    obtain ⟨a1, a2⟩ := ih1 _ _ h1
    obtain ⟨b1, b2⟩ := ih2 _ _ h2
    refine ⟨by simp [pf, a1, b1], fun ix => ?_⟩
    simp only [cells, a2, b2]
    cases b <;> rfl
  | agg fs ih =>
    intro y m h
    cases y <;> simp [mergeB] at h
    obtain ⟨m1, h1, rfl⟩ := h
    obtain ⟨a1, a2⟩ := ih _ _ h1
    exact ⟨a1, fun ix => by simp only [cells, a2]⟩
  | arr n x ih =>
    intro y m h
    cases y <;> simp [mergeB] at h
    obtain ⟨rfl, m1, h1, rfl⟩ := h
    obtain ⟨a1, a2⟩ := ih _ _ h1
    refine ⟨a1, fun ix => ?_⟩
    simp only [cells, a2]
    cases b <;> rfl
  | _ => intro y m h; cases y <;> simp [mergeB] at h

theorem mergeB_big {b : Bool} : ∀ {x y m : AV}, mergeB b x y = some m → big m = big x ∧ big m = big y
  | .lit k n, u, m, h => by
    have gen : ∀ (k : IntKind) (p : Option (Ix → BitVec k.bits)) (u m : AV), (match p, toBV k u with
      | some x, some y => some (AV.int k fun ix => bif b then x ix else y ix)
      | _, _ => none) = some m → big m = false ∧ big m = big u := by
      intro k p u m h
      split at h <;> simp at h
      rename_i x y hy
      subst h
      cases u <;> simp [toBV] at hy <;> exact ⟨rfl, rfl⟩
    simp only [mergeB] at h
    split at h
    · split at h
      · simp at h; subst h; exact ⟨rfl, rfl⟩
      · exact gen _ _ _ _ h
    · exact gen _ _ _ _ h
  | .int k x, u, m, h => by
    simp only [mergeB] at h
    split at h <;> simp at h
    rename_i y hy
    subst h
    cases u <;> simp [toBV] at hy <;> exact ⟨rfl, rfl⟩
  | .blit c, u, m, h => by
    simp only [mergeB] at h
    split at h <;> try (simp at h; done)
    · split at h <;> simp at h <;> subst h <;> exact ⟨rfl, rfl⟩
    · simp at h; subst h; exact ⟨rfl, rfl⟩
  | .bool f, u, m, h => by
    simp only [mergeB] at h
    split at h <;> simp at h
    rename_i y hy
    subst h
    cases u <;> simp [toBl] at hy <;> exact ⟨rfl, rfl⟩
  | .nil, u, m, h => by cases u <;> simp [mergeB] at h; subst h; exact ⟨rfl, rfl⟩
  | .cons _ _, u, m, h => by
    cases u <;> simp [mergeB] at h
    split at h <;> simp at h
    subst h; exact ⟨rfl, rfl⟩
  | .agg _, u, m, h => by
    cases u <;> simp [mergeB] at h
    obtain ⟨_, _, rfl⟩ := h; exact ⟨rfl, rfl⟩
  | .arr _ _, u, m, h => by
    cases u <;> simp [mergeB] at h
    obtain ⟨_, _, _, rfl⟩ := h; exact ⟨rfl, rfl⟩
  | .un, u, m, h => by cases u <;> simp [mergeB] at h
  | .tup _, u, m, h => by cases u <;> simp [mergeB] at h
  | .ptr _ _, u, m, h => by cases u <;> simp [mergeB] at h
  | .fn _ _, u, m, h => by cases u <;> simp [mergeB] at h
  | .gd _ _, u, m, h => by cases u <;> simp [mergeB] at h
  | .slc _ _ _ _, u, m, h => by cases u <;> simp [mergeB] at h
  | .raw _ _ _ _, u, m, h => by cases u <;> simp [mergeB] at h
  | .vsl _ _, u, m, h => by cases u <;> simp [mergeB] at h

theorem mergeB_val {b : Bool} {x y m : AV} (h : mergeB b x y = some m) (E : Env) : val E m = if b = true then val E x else val E y := by
  obtain ⟨_, h2⟩ := mergeB_cells b E x y m h
  obtain ⟨h3, h4⟩ := mergeB_big h
  rw [val_by_cells E m, val_by_cells E x, val_by_cells E y, h2 [], ← h3, ← h4]
  cases b <;> rfl

def mergeL (b : Bool) : AV → AV → Option AV
  | .nil, .nil => some .nil
  | .cons h t, .cons h' t' => match mergeB b h h', mergeL b t t' with
    | some x, some y => some (.cons x y)
    | _, _ => none
  | _, _ => none

def mergeT (b : Bool) : AV → AV → Option AV
  | .tup fs, .tup fs' => (mergeL b fs fs').map .tup
  | x, y => mergeB b x y

theorem mergeL_vals {b : Bool} (E : Env) : ∀ {x y m : AV}, mergeL b x y = some m → pfL m = true ∧ vals E m = if b = true then vals E x else vals E y := by
  intro x
  induction x with
  | nil => intro y m h; cases y <;> simp [mergeL] at h; subst h; exact ⟨rfl, by cases b <;> rfl⟩
  | cons x1 x2 _ ih =>
    intro y m h
    cases y <;> simp [mergeL] at h
    split at h <;> simp at h
    rename_i m1 m2 h1 h2
    subst h
    obtain ⟨a1, a2⟩ := ih h2
    refine ⟨by simp [pfL, (mergeB_cells b E _ _ _ h1).1, a1], ?_⟩
    simp only [vals, mergeB_val h1, a2]
    cases b <;> rfl
  | _ => intro y m h; cases y <;> simp [mergeL] at h

theorem pf_not_tup {v : AV} (h : pf v = true) : pfT v = true ∧ ∀ E, valT E v = val E v := by
  cases v <;> first
    | (simp [pf] at h; done)
    | exact ⟨h, fun _ => rfl⟩

theorem mergeT_val {b : Bool} {x y m : AV} (h : mergeT b x y = some m) (E : Env) : pfT m = true ∧ valT E m = if b = true then valT E x else valT E y := by
  unfold mergeT at h
  split at h
  · simp only [Option.map_eq_some_iff] at h
    obtain ⟨m1, h1, rfl⟩ := h
    obtain ⟨a1, a2⟩ := mergeL_vals E h1
    refine ⟨a1, ?_⟩
    simp only [valT, a2]
    cases b <;> rfl
  · rename_i hnt
    have h1 := (mergeB_cells b E _ _ _ h).1
    obtain ⟨h2, h3⟩ := pf_not_tup h1
    refine ⟨h2, ?_⟩
    rw [h3, mergeB_val h]
    have nt : ∀ v : AV, (∀ fs, v ≠ .tup fs) → valT E v = val E v := by intro v hv; cases v <;> first | rfl | exact absurd rfl (hv _)
    have hx : ∀ fs, x ≠ .tup fs := by
      intro fs e; subst e
      cases y <;> simp [mergeB] at h
    have hy : ∀ fs, y ≠ .tup fs := by
      intro fs e; subst e
      cases x <;> simp [mergeB, toBV, toBl] at h
    rw [nt x hx, nt y hy]

def dropAll (l : List (Nat × Option Blk)) : List (Nat × Option Blk) := l.map fun x => (x.1, none)

def flat : Res → Option (AV × List (Nat × Option Blk))
  | .leaf v hw => some (v, hw)
  | .br b x y => match flat x, flat y with
    | some (u, hw), some (v, hw') => match mergeT b u v with
      | some m => some (m, dropAll (hw ++ hw'))
      | none => none
    | _, _ => none

theorem hwL_dropAll {l : List (Nat × Option Blk)} {n : Nat} : hwL (dropAll l) n = (hwL l n).map fun _ => none := by
  induction l with
  | nil => rfl
  | cons a l ih =>
    obtain ⟨k, v⟩ := a
    simp only [dropAll, List.map_cons, hwL] at ih ⊢
    split
    · rfl
    · exact ih

theorem flat_spec (E : Env) (hp : Hp) : ∀ {r : Res} {v : AV} {hw : List (Nat × Option Blk)}, flat r = some (v, hw) → (r.sel.1 = v ∨ pfT v = true) ∧ valT E v = valT E r.sel.1 ∧ (∀ n B, updH hp hw n = some B → updH hp r.sel.2 n = some B)
  | .leaf u hw', v, hw, h => by
    simp [flat] at h
    obtain ⟨rfl, rfl⟩ := h
    exact ⟨.inl rfl, rfl, fun _ _ h => h⟩
  | .br b x y, v, hw, h => by
    simp only [flat] at h
    split at h <;> try (simp at h; done)
    rename_i u hw1 u' hw2 h1 h2
    split at h <;> simp at h
    rename_i m hm
    obtain ⟨rfl, rfl⟩ := h
    obtain ⟨a1, a2⟩ := mergeT_val hm E
    obtain ⟨_, b2, b3⟩ := flat_spec E hp h1
    obtain ⟨_, c2, c3⟩ := flat_spec E hp h2
    have key : ∀ n B, updH hp (dropAll (hw1 ++ hw2)) n = some B → updH hp hw1 n = some B ∧ updH hp hw2 n = some B := by
      intro n B hB
      simp only [updH, hwL_dropAll, hwL_append] at hB ⊢
      cases e1 : hwL hw1 n with
      | some z => simp [e1] at hB
      | none =>
        simp only [e1] at hB ⊢
        cases e2 : hwL hw2 n with
        | some z => simp [e2] at hB
        | none => simp only [e2] at hB ⊢; exact ⟨hB, hB⟩
    refine ⟨.inr a1, ?_, ?_⟩
    · rw [a2, b2, c2]
      cases b <;> simp [Res.sel]
    · intro n B hB
      obtain ⟨k1, k2⟩ := key n B hB
      cases b
      · simp only [Res.sel]; exact c3 n B k2
      · simp only [Res.sel]; exact b3 n B k1

/-- Blocks of which the one or the other is so. -/
def mrgB (b : Bool) : Option Blk → Option Blk → Option Blk
  | some X, some Y => if X.T == Y.T && !isRaw X.v && !isRaw Y.v then match mergeB b X.v Y.v with
    | some m => some ⟨X.T, m⟩
    | none => none
    else none
  | _, _ => none
def mrgAll (b : Bool) (hp : Hp) (hw hw' : List (Nat × Option Blk)) : List Nat → List (Nat × Option Blk)
  | [] => []
  | n :: l => (n, mrgB b (updH hp hw n) (updH hp hw' n)) :: mrgAll b hp hw hw' l

def flatH (hp : Hp) : Res → Option (AV × List (Nat × Option Blk))
  | .leaf v hw => some (v, hw)
  | .br b x y => match flatH hp x, flatH hp y with
    | some (u, hw), some (v, hw') => match mergeT b u v with
      | some m => some (m, mrgAll b hp hw hw' ((hw ++ hw').map (·.1)))
      | none => none
    | _, _ => none

def Beq (E : Env) (B B' : Blk) : Prop := B.T = B'.T ∧ (ok E B'.v → ok E B.v) ∧ cells E [] B.v = cells E [] B'.v ∧ fzOf B.v = fzOf B'.v

theorem hwL_mrgAll {b : Bool} {hp : Hp} {hw hw' : List (Nat × Option Blk)} {n : Nat} : ∀ {l : List Nat}, hwL (mrgAll b hp hw hw' l) n = if n ∈ l then some (mrgB b (updH hp hw n) (updH hp hw' n)) else none := by
  intro l
  induction l with
  | nil => simp [mrgAll, hwL]
  | cons k l ih =>
    simp only [mrgAll, hwL]
    by_cases h : k = n
    · subst h; simp
    · have h' : ¬ n = k := fun e => h e.symm
      simp [h, h', ih]

theorem hwL_none_mem {n : Nat} : ∀ {l : List (Nat × Option Blk)}, n ∉ l.map (·.1) → hwL l n = none := by
  intro l
  induction l with
  | nil => intro _; rfl
  | cons a l ih =>
    obtain ⟨k, v⟩ := a
    intro h
    simp only [List.map_cons, List.mem_cons, not_or] at h
    have h' : ¬ k = n := fun e => h.1 e.symm
    simp [hwL, h', ih h.2]

theorem mrgB_eq {b : Bool} {x y : Option Blk} {B : Blk} (h : mrgB b x y = some B) (E : Env) : ∃ X Y, x = some X ∧ y = some Y ∧ Beq E B (if b = true then X else Y) := by
  unfold mrgB at h
  split at h <;> try (simp at h; done)
  rename_i X Y
  split at h <;> try (simp at h; done)
  rename_i hT
  split at h <;> simp at h
  rename_i m hm
  subst h
  obtain ⟨a1, a2⟩ := mergeB_cells b E _ _ _ hm
  refine ⟨X, Y, rfl, rfl, ?_⟩
  simp only [Bool.and_eq_true, Bool.not_eq_true', beq_iff_eq] at hT
  obtain ⟨⟨hT, r1⟩, r2⟩ := hT
  have h2 := a2 []
  have h3 := fz_notRaw (pf_notRaw a1)
  cases b with
  | true => exact ⟨rfl, fun _ => ok_of_pf E _ a1, h2, by show fzOf m = fzOf X.v; rw [h3, fz_notRaw r1]⟩
  | false => exact ⟨hT, fun _ => ok_of_pf E _ a1, h2, by show fzOf m = fzOf Y.v; rw [h3, fz_notRaw r2]⟩

theorem flatH_spec (E : Env) (hp : Hp) : ∀ {r : Res} {v : AV} {hw : List (Nat × Option Blk)}, flatH hp r = some (v, hw) → (r.sel.1 = v ∨ pfT v = true) ∧ valT E v = valT E r.sel.1 ∧ (∀ n B, updH hp hw n = some B → ∃ B', updH hp r.sel.2 n = some B' ∧ Beq E B B')
  | .leaf u hw', v, hw, h => by
    simp [flatH] at h
    obtain ⟨rfl, rfl⟩ := h
    exact ⟨.inl rfl, rfl, fun _ B h => ⟨B, h, rfl, id, rfl, rfl⟩⟩
  | .br b x y, v, hw, h => by
    simp only [flatH] at h
    split at h <;> try (simp at h; done)
    rename_i u hw1 u' hw2 h1 h2
    split at h <;> simp at h
    rename_i m hm
    obtain ⟨rfl, rfl⟩ := h
    obtain ⟨a1, a2⟩ := mergeT_val hm E
    obtain ⟨_, b2, b3⟩ := flatH_spec E hp h1
    obtain ⟨_, c2, c3⟩ := flatH_spec E hp h2
    refine ⟨.inr a1, ?_, ?_⟩
    · rw [a2, b2, c2]
      cases b <;> simp [Res.sel]
    · intro n B hB
      have key : (∃ X, updH hp hw1 n = some X ∧ (b = true → Beq E B X)) ∧ (∃ Y, updH hp hw2 n = some Y ∧ (b = false → Beq E B Y)) := by
        by_cases hm : n ∈ (hw1 ++ hw2).map (·.1)
        · have e : updH hp (mrgAll b hp hw1 hw2 ((hw1 ++ hw2).map (·.1))) n = mrgB b (updH hp hw1 n) (updH hp hw2 n) := by
            unfold updH
            rw [hwL_mrgAll, if_pos hm]
            rfl
          have hB' : updH hp (mrgAll b hp hw1 hw2 ((hw1 ++ hw2).map (·.1))) n = some B := by simpa using hB
          rw [e] at hB'
          obtain ⟨X, Y, e1, e2, e3⟩ := mrgB_eq hB' E
          refine ⟨⟨X, e1, fun hb => ?_⟩, ⟨Y, e2, fun hb => ?_⟩⟩
          · subst hb; exact e3
          · subst hb; exact e3
        · have e : updH hp (mrgAll b hp hw1 hw2 ((hw1 ++ hw2).map (·.1))) n = hp n := by
            unfold updH
            rw [hwL_mrgAll, if_neg hm]
          have hB' : updH hp (mrgAll b hp hw1 hw2 ((hw1 ++ hw2).map (·.1))) n = some B := by simpa using hB
          rw [e] at hB'
          simp only [List.map_append, List.mem_append, not_or] at hm
          have e1 : updH hp hw1 n = hp n := by unfold updH; rw [hwL_none_mem hm.1]
          have e2 : updH hp hw2 n = hp n := by unfold updH; rw [hwL_none_mem hm.2]
          exact ⟨⟨B, by rw [e1, hB'], fun _ => ⟨rfl, id, rfl, rfl⟩⟩, ⟨B, by rw [e2, hB'], fun _ => ⟨rfl, id, rfl, rfl⟩⟩⟩
      obtain ⟨⟨X, x1, x2⟩, ⟨Y, y1, y2⟩⟩ := key
      cases b
      · simp only [Res.sel]
        obtain ⟨B', q1, q2⟩ := c3 n Y y1
        obtain ⟨p1, p2, p3⟩ := y2 rfl
        exact ⟨B', q1, p1.trans q2.1, fun h => p2 (q2.2.1 h), p3.1.trans q2.2.2.1, p3.2.trans q2.2.2.2⟩
      · simp only [Res.sel]
        obtain ⟨B', q1, q2⟩ := b3 n X x1
        obtain ⟨p1, p2, p3⟩ := x2 rfl
        exact ⟨B', q1, p1.trans q2.1, fun h => p2 (q2.2.1 h), p3.1.trans q2.2.2.1, p3.2.trans q2.2.2.2⟩

/-- Functions that are entered in place, so deep. -/
def inlF (P : Program) (Γ : Tab) (Λ : FuncId → Hook) : Nat → Inl
  | 0 => fun _ _ _ _ => none
  | n + 1 => fun f args hp next => match evalFn ⟨P, Γ, inlF P Γ Λ n⟩ Λ f args hp next with
    | some (r, ob) => match flatH hp r with
      | some (v, hw) => if pfT v then some (v, hw, ob) else none
      | none => none
    | none => none

theorem inlF_ok {P : Program} {Γ : Tab} {Λ : FuncId → Hook} (hΓ : TabOk P Γ) : ∀ n, InlOk P (inlF P Γ Λ n)
  | 0 => fun f args hp next r hw ob h => by simp [inlF] at h
  | n + 1 => by
    intro f args hp next r hw ob h hob
    simp only [inlF] at h
    split at h <;> try (simp at h; done)
    rename_i r0 ob0 h1
    split at h <;> try (simp at h; done)
    rename_i v hw' h2
    split at h <;> simp at h
    rename_i hpf
    obtain ⟨rfl, rfl, rfl⟩ := h
    refine ⟨(pfT_spec hpf E0).2.2, ?_⟩
    intro E w hargs hh hinj hbd hnext
    refine (evalFn_calls hΓ (inlF_ok hΓ n) h1 hob hargs hh hinj hbd hnext).mono ?_
    rintro e w' ⟨E', k1, rfl, k3, k4⟩
    obtain ⟨_, f2, _⟩ := flatH_spec E' hp h2
    obtain ⟨_, _, f3⟩ := flatH_spec E hp h2
    refine ⟨_, rfl, ?_, ⟨Sub.refl E, fun _ _ h => .inl h, k3.os, k3.tape, k3.output, k3.size, k3.keep⟩, ?_⟩
    · rw [← f2, (pfT_spec hpf E').2.1]
      exact TRel_pfT hpf E
    · intro m B hB
      obtain ⟨B', e1, e2, e3, e4, e5⟩ := f3 m B hB
      obtain ⟨bl, q1, q2, q3⟩ := k4 m B' e1
      exact ⟨bl, q1, e3 q2, by rw [q3, e4, e2, e5]⟩

/-- A call of a function whose arguments name nothing. -/
def evalTop (P : Program) (Γ : Tab) (Λ : FuncId → Hook) (n : Nat) (f : FuncId) (args : List AV) : Option (Res × Ob) :=
  evalFn ⟨P, Γ, inlF P Γ Λ n⟩ Λ f args (fun _ => none) 0

theorem evalTop_calls {P : Program} {Γ : Tab} {Λ : FuncId → Hook} (hΓ : TabOk P Γ) {n : Nat} {f : FuncId} {args : List AV} {r : Res} {ob : Ob}
    (h : evalTop P Γ Λ n f args = some (r, ob)) (hob : ob.holds) (hargs : ∀ v ∈ args, pf v = true) (hr : pfT r.sel.1 = true) (w : World) :
    Calls P f (args.map (val E0)).toArray w fun e w' => e = .returned (valT E0 r.sel.1) ∧ RowKit.Below w.heap.size w w' := by
  refine (evalFn_calls hΓ (inlF_ok hΓ n) h hob (E := E0) (w := w) (fun v hv => ok_of_pf E0 v (hargs v hv)) (fun n B hB => by simp at hB) (fun n m b h => by simp at h) (fun n b h => by simp at h) (fun _ _ => rfl)).mono ?_
  rintro e w' ⟨E', k1, rfl, k3, k4⟩
  exact ⟨by rw [(pfT_spec hr E').2.1], k3.below⟩

end Go.Rf

/- Tables of contracts; loops. -/
namespace Go.Rf

abbrev Con := List AV → Option (AV × Ob)

def ConOk (P : Program) (f : FuncId) (K : Con) : Prop :=
  ∀ args r ob, K args = some (r, ob) → ob.holds → (∀ v ∈ args, pf v = true) →
    pfT r = true ∧ ∀ w, Calls P f (args.map (val E0)).toArray w fun e w' => e = .returned (valT E0 r) ∧ RowKit.Below w.heap.size w w'

def tabOf : List (FuncId × Con) → Tab
  | [], _, _ => none
  | (g, K) :: l, f, args => if f == g then K args else tabOf l f args

theorem tabOf_nil (P : Program) : TabOk P (tabOf []) := by intro f args r ob h; simp [tabOf] at h

theorem tabOf_cons {P : Program} {l : List (FuncId × Con)} {g : FuncId} {K : Con} (h : TabOk P (tabOf l)) (hK : ConOk P g K) : TabOk P (tabOf ((g, K) :: l)) := by
  intro f args r ob hh
  simp only [tabOf] at hh
  split at hh
  · rename_i hf
    have : f = g := by simpa using hf
    subst this
    exact hK args r ob hh
  · exact h f args r ob hh

/-- A function's answer as one value. -/
def evalFlat (P : Program) (Γ : Tab) (Λ : FuncId → Hook) (n : Nat) (f : FuncId) (args : List AV) : Option (AV × Ob) :=
  match evalTop P Γ Λ n f args with
  | some (r, ob) => match flat r with
    | some (v, _) => some (v, ob)
    | none => none
  | none => none

theorem evalFlat_calls {P : Program} {Γ : Tab} {Λ : FuncId → Hook} (hΓ : TabOk P Γ) {n : Nat} {f : FuncId} {args : List AV} {v : AV} {ob : Ob}
    (h : evalFlat P Γ Λ n f args = some (v, ob)) (hob : ob.holds) (hargs : ∀ v ∈ args, pf v = true) (hv : pfT v = true) :
    pfT v = true ∧ ∀ w, Calls P f (args.map (val E0)).toArray w fun e w' => e = .returned (valT E0 v) ∧ RowKit.Below w.heap.size w w' := by
  refine ⟨hv, fun w => ?_⟩
  unfold evalFlat at h
  split at h <;> try (simp at h; done)
  rename_i r ob' h1
  split at h <;> simp at h
  rename_i v' hw h2
  obtain ⟨rfl, rfl⟩ := h
  unfold evalTop at h1
  refine (evalFn_calls hΓ (inlF_ok hΓ n) h1 hob (E := E0) (w := w) (fun v hv => ok_of_pf E0 v (hargs v hv)) (fun n B hB => by simp at hB) (fun n m b h => by simp at h) (fun n b h => by simp at h) (fun _ _ => rfl)).mono ?_
  rintro e w' ⟨E', k1, rfl, k3, k4⟩
  obtain ⟨_, f2, _⟩ := flat_spec E' (fun _ => none) h2
  exact ⟨by rw [← f2, (pfT_spec hv E').2.1], k3.below⟩

/-- A contract by evaluation: as the table's function says. -/
theorem con_ok {P : Program} {Γ : Tab} {Λ : FuncId → Hook} (hΓ : TabOk P Γ) (n : Nat) {f : FuncId} {K : Con}
    (h : ∀ args r ob, K args = some (r, ob) → ob.holds → ∃ v ob', evalFlat P Γ Λ n f args = some (v, ob') ∧ ob'.holds ∧ pfT v = true ∧ pfT r = true ∧ valT E0 v = valT E0 r) : ConOk P f K := by
  intro args r ob hK hob hargs
  obtain ⟨v, ob', h1, h2, h3, h4, h5⟩ := h args r ob hK hob
  obtain ⟨_, h6⟩ := evalFlat_calls hΓ h1 h2 hargs h3
  exact ⟨h4, fun w => by rw [← h5]; exact h6 w⟩

theorem con_same {P : Program} {Γ : Tab} {Λ : FuncId → Hook} (hΓ : TabOk P Γ) (n : Nat) {f : FuncId} {K : Con}
    (h : ∀ args r ob, K args = some (r, ob) → evalFlat P Γ Λ n f args = some (r, ob) ∧ pfT r = true) : ConOk P f K :=
  con_ok hΓ n fun args r ob hK hob => ⟨r, ob, (h args r ob hK).1, hob, (h args r ob hK).2, (h args r ob hK).2, rfl⟩

def noHooks : FuncId → Hook := fun _ _ => none

/-! ### Loops -/

/-- All names are below n. -/
def nlt (n : Nat) : AV → Prop
  | .cons h t => nlt n h ∧ nlt n t
  | .agg fs => nlt n fs
  | .tup fs => nlt n fs
  | .arr _ b => nlt n b
  | .ptr m _ => m < n
  | .slc m _ _ _ => m < n
  | .fn _ cap => nlt n cap
  | .raw _ v _ _ => nlt n v
  | _ => True

def cut (n : Nat) (E : Env) : Env := fun m => if m < n then E m else none

theorem cut_sub (n : Nat) (E : Env) : Sub (cut n E) E := fun m b h => by
  simp only [cut] at h
  split at h
  · exact h
  · simp at h

theorem ok_cut {n : Nat} {E : Env} {v : AV} (h : ok E v) (hn : nlt n v) : ok (cut n E) v := by
  induction v with
  | cons a b iha ihb => exact ⟨iha h.1 hn.1, ihb h.2 hn.2⟩
  | agg fs ih => exact ih h hn
  | arr m b ih => exact ih h hn
  | fn f cap ih => exact ih h hn
  | raw pre v post fz ih => exact ih h hn
  | ptr m p => simp only [ok, cut] at h ⊢; simp only [nlt] at hn; simp [hn, h]
  | slc m p len cap => simp only [ok, cut] at h ⊢; simp only [nlt] at hn; simp [hn, h]
  | _ => exact h

theorem okl_cut {n : Nat} {E : Env} {v : AV} (h : okl E v) (hn : nlt n v) : okl (cut n E) v := by
  induction v with
  | cons a b _ ih => exact ⟨ok_cut h.1 hn.1, ih h.2 hn.2⟩
  | _ => exact h

theorem TRel_cut {n : Nat} {E : Env} {v : AV} {x : Value} (h : TRel E v x) (hn : nlt n v) : TRel (cut n E) v x := by
  have key : ∀ v, okT E v → nlt n v → okT (cut n E) v := by
    intro v h hn
    cases v <;> first
      | exact okl_cut h hn
      | exact ok_cut h hn
  cases v <;> first
    | trivial
    | (have hk := key _ h.1 hn
       exact ⟨hk, by rw [← h.2]; exact (valT_mono (cut_sub n E) hk).symm⟩)

theorem nlt_of_ok {n : Nat} {E : Env} (hE : ∀ m, n ≤ m → E m = none) {v : AV} (h : ok E v) : nlt n v := by
  induction v with
  | cons a b iha ihb => exact ⟨iha h.1, ihb h.2⟩
  | agg fs ih => exact ih h
  | arr m b ih => exact ih h
  | fn f cap ih => exact ih h
  | raw pre v post fz ih => exact ih h
  | ptr m p =>
    simp only [ok] at h
    refine Classical.byContradiction fun hne => ?_
    rw [hE m (by simp only [nlt] at hne; omega)] at h
    simp at h
  | slc m p len cap =>
    simp only [ok] at h
    refine Classical.byContradiction fun hne => ?_
    rw [hE m (by simp only [nlt] at hne; omega)] at h
    simp at h
  | _ => first | trivial | exact h.elim

theorem nlt_of_okl {n : Nat} {E : Env} (hE : ∀ m, n ≤ m → E m = none) {v : AV} (h : okl E v) : nlt n v := by
  induction v with
  | cons a b _ ih => exact ⟨nlt_of_ok hE h.1, ih h.2⟩
  | _ => first | trivial | exact h.elim

theorem nlt_of_TRel {n : Nat} {E : Env} (hE : ∀ m, n ≤ m → E m = none) {v : AV} {x : Value} (h : TRel E v x) : nlt n v := by
  cases v with
  | un => trivial
  | gd _ _ => trivial
  | tup fs =>
    have h1 : okl E fs := h.1
    exact nlt_of_okl (v := fs) hE h1
  | _ => exact nlt_of_ok hE h.1

/-- What is known in st is known enough for st'. -/
structure Ent (st st' : St) : Prop where
  look : ∀ t, st'.look t = .un ∨ (st.look t = st'.look t ∧ nlt st'.next (st'.look t))
  hp : ∀ n B, st'.hp n = some B → st.hp n = some B ∧ n < st'.next ∧ nlt st'.next B.v
  nt : st'.nt = st.nt
  lo : st'.lo = st.lo
  le : st.lo ≤ st'.next

theorem Ent.rel {st st' : St} (h : Ent st st') {Es : Env} {ws : World} {a : Act} {w : World} (hs : SRel Es ws st a w) : SRel Es ws st' a w := by
  obtain ⟨E, h1, h2, h3, h4, h5, h6, h7, h8, h9, h10⟩ := hs
  refine ⟨cut st'.next E, ?_, by rw [h.nt]; exact h2, h3, ?_, ?_, ?_, ?_, ?_, by rw [h.lo]; exact h9, by rw [h.lo]; exact h.le⟩
  · intro t
    rcases h.look t with e | ⟨e, hn⟩
    · rw [e]; trivial
    · have := h1 t
      rw [e] at this
      exact TRel_cut this hn
  · intro n B hB
    obtain ⟨e1, e2, e3⟩ := h.hp n B hB
    obtain ⟨b, k1, k2, k3⟩ := h4 n B e1
    have hk := ok_cut k2 e3
    exact ⟨b, by simp [cut, e2, k1], hk, by rw [k3, cells_mono (cut_sub _ E) hk]⟩
  · intro n m b hn hm
    exact h5 n m b (cut_sub _ _ n b hn) (cut_sub _ _ m b hm)
  · intro n b hn
    exact h6 n b (cut_sub _ _ n b hn)
  · intro n hn
    simp [cut]; omega
  · refine ⟨?_, ?_, h8.os, h8.tape, h8.output, h8.size, h8.keep⟩
    · intro n b hn
      have hlt : n < st'.next := by
        refine Classical.byContradiction fun hne => ?_
        have := h.le
        rw [h9 n (by omega)] at hn
        simp at hn
      simp [cut, hlt, h8.sub n b hn]
    · intro n b hn
      exact h8.new n b (cut_sub _ _ n b hn)

def OLe (o o' : Outc) : Prop := ∀ Es ws e a w, MatchO Es ws o e a w → MatchO Es ws o' e a w

theorem OLe.refl (o : Outc) : OLe o o := fun _ _ _ _ _ h => h
theorem OLe.exit {id : Nat} {st st' : St} (h : Ent st st') : OLe (.exit id st) (.exit id st') := by
  intro Es ws e a w hm
  cases e <;> simp only [MatchO] at hm ⊢
  exact ⟨hm.1, h.rel hm.2⟩
theorem OLe.ret {st st' : St} (h : Ent st st') : OLe (.ret st) (.ret st') := by
  intro Es ws e a w hm
  cases e <;> simp only [MatchO] at hm ⊢
  exact h.rel hm
theorem OLe.left {o x y : Outc} {b : Bool} (hb : b = true) (h : OLe o x) : OLe o (.br b x y) := by
  intro Es ws e a w hm
  simp only [MatchO, hb, if_true]
  exact h Es ws e a w hm
theorem OLe.right {o x y : Outc} {b : Bool} (hb : b = false) (h : OLe o y) : OLe o (.br b x y) := by
  intro Es ws e a w hm
  simp only [MatchO, hb, Bool.false_eq_true, if_false]
  exact h Es ws e a w hm

/-- Each way out of a round: it ends the loop as F says, or goes on to a state of the family, with less to do. -/
def LeafOk {ι : Type} (S : ι → St) (F : ι → Outc) (μ : ι → Nat) (i : ι) : Outc → Prop
  | .norm st => ∃ i', Ent st (S i') ∧ μ i' < μ i ∧ OLe (F i') (F i)
  | .br b x y => (b = true → LeafOk S F μ i x) ∧ (b = false → LeafOk S F μ i y)
  | o => OLe o (F i)

/-- What holds of the names at a round's head. -/
def Names (st : St) : Prop := (∀ t, nlt st.next (st.look t)) ∧ (∀ n B, st.hp n = some B → n < st.next ∧ nlt st.next B.v) ∧ st.lo ≤ st.next

theorem names_of {Es : Env} {ws : World} {st : St} {a : Act} {w : World} (hs : SRel Es ws st a w) : Names st := by
  obtain ⟨E, h1, h2, h3, h4, h5, h6, h7, h8, h9, h10⟩ := hs
  refine ⟨fun t => nlt_of_TRel h7 (h1 t), fun n B hB => ?_, h10⟩
  obtain ⟨b, k1, k2, _⟩ := h4 n B hB
  refine ⟨?_, nlt_of_ok h7 k2⟩
  refine Classical.byContradiction fun hne => ?_
  rw [h7 n (by omega)] at k1
  simp at k1

theorem wp_loop_ix {P : Program} {c : Code} {Q : Exit → Act → World → Prop} {ι : Type} (I : ι → Act → World → Prop) (μ : ι → Nat)
    (round : ∀ i a w, I i a w → c.wp P (Exit.then (fun a' w' => ∃ i', I i' a' w' ∧ μ i' < μ i) Q) a w) : ∀ i a w, I i a w → (Code.loop c).wp P Q a w := by
  intro i a w h₀ b k cs
  have key : ∀ n i a w, μ i = n → I i a w →
      ∃ e a' w', Q e a' w' ∧ Arrives P (lone (b.at a (.code c :: .inLoop c :: k)) cs w) b k cs e a' w' := by
    intro n
    induction n using Nat.strongRecOn with
    | _ n ih =>
      intro i a w hn hI
      obtain ⟨e, a₁, w₁, hq, harr⟩ := round i a w hI b (.inLoop c :: k) cs
      cases e with
      | normal =>
        obtain ⟨i₁, hI₁, hlt⟩ := hq
        obtain ⟨e₂, a₂, w₂, hq₂, harr₂⟩ := ih (μ i₁) (hn ▸ hlt) i₁ a₁ w₁ rfl hI₁
        exact ⟨e₂, a₂, w₂, hq₂, .of_steps (Steps.trans harr (.one step_inLoop)) harr₂⟩
      | exit id => exact ⟨_, a₁, w₁, hq, .pass (x := .inLoop c) rfl (fun _ _ => .inl (by simp)) harr⟩
      | goto l => exact ⟨_, a₁, w₁, hq, .pass (x := .inLoop c) rfl (fun _ _ => .inl (by simp)) harr⟩
      | ret => exact ⟨_, a₁, w₁, hq, .pass (x := .inLoop c) rfl (fun _ _ => .inl (by simp)) harr⟩
      | panic ch => exact ⟨_, a₁, w₁, hq, .pass (x := .inLoop c) rfl (fun _ _ => .inl (by simp)) harr⟩
      | outgrown => exact ⟨_, a₁, w₁, hq, .pass (x := .inLoop c) rfl (fun _ _ => .inl (by simp)) harr⟩
  obtain ⟨e, a', w', hq, harr⟩ := key _ i a w rfl h₀
  exact ⟨e, a', w', hq, .of_steps (.one step_loop) harr⟩

theorem leaf_match {ι : Type} {S : ι → St} {F : ι → Outc} {μ : ι → Nat} {i i0 : ι} (hle : OLe (F i) (F i0)) {Es : Env} {ws : World} : ∀ {o : Outc}, LeafOk S F μ i o → ∀ {e : Exit} {a : Act} {w : World}, MatchO Es ws o e a w →
    Exit.then (fun a' w' => ∃ i', (SRel Es ws (S i') a' w' ∧ OLe (F i') (F i0)) ∧ μ i' < μ i) (MatchO Es ws (F i0)) e a w
  | .norm st, h, e, a, w, hm => by
    cases e <;> simp only [MatchO] at hm
    obtain ⟨i', h1, h2, h3⟩ := h
    exact ⟨i', ⟨h1.rel hm, fun Es ws e a w hh => hle Es ws e a w (h3 Es ws e a w hh)⟩, h2⟩
  | .exit id st, h, e, a, w, hm => by
    have := hle Es ws e a w (h Es ws e a w hm)
    cases e <;> simp only [MatchO] at hm <;> exact this
  | .ret st, h, e, a, w, hm => by
    have := hle Es ws e a w (h Es ws e a w hm)
    cases e <;> simp only [MatchO] at hm <;> exact this
  | .br b x y, h, e, a, w, hm => by
    simp only [MatchO] at hm
    cases b with
    | true => simp only [if_true] at hm; exact leaf_match hle (h.1 rfl) hm
    | false => simp only [Bool.false_eq_true, if_false] at hm; exact leaf_match hle (h.2 rfl) hm

/-- A loop, over a family of states at its head. -/
theorem loop_rule {cx : Cx} (hΓ : TabOk cx.P cx.Γ) (hI : InlOk cx.P cx.inl) {Λ : Hook} {p : List Nat} {c : Code}
    {ι : Type} (S : ι → St) (F : ι → Outc) (μ : ι → Nat)
    (step : ∀ i, Names (S i) → ∃ o ob, evalCode cx Λ c (p ++ [5]) (S i) = some (o, ob) ∧ ob.holds ∧ LeafOk S F μ i o) :
    ∀ i, LoopOk cx.P c (S i) (F i) := by
  intro i0 Es ws a w hs
  refine wp_loop_ix (fun i a w => SRel Es ws (S i) a w ∧ OLe (F i) (F i0)) μ ?_ i0 a w ⟨hs, OLe.refl _⟩
  rintro i a w ⟨hsi, hle⟩
  obtain ⟨o, ob, h1, h2, h3⟩ := step i (names_of hsi)
  refine wp_mono (evalCode_wp hΓ hI c (p ++ [5]) (S i) o ob h1 h2 a w hsi) ?_
  intro e a' w' hm
  exact leaf_match hle h3 hm

/-- The loop that lies at a place of a function. -/
def loopAt (P : Program) (f : FuncId) (p : List Nat) : Code :=
  match P.funcs[f]? with
  | some fn => match fn.body with
    | some c => match codeAt c p with
      | some (.loop b) => b
      | _ => .skip
    | none => .skip
  | none => .skip

/-- States by lists: explicit entries over whatever else. -/
def entOk (L1 : List (Nat × AV)) (N : Nat) : List (Nat × AV) → Prop
  | [] => True
  | (t, v) :: l => (v = .un ∨ (lookL L1 t = some v ∧ nlt N v)) ∧ entOk L1 N l

def hentOk (L1 : List (Nat × Option Blk)) (N : Nat) : List (Nat × Option Blk) → Prop
  | [] => True
  | (n, b) :: l => (match b with
    | none => True
    | some B => hwL L1 n = some (some B) ∧ n < N ∧ nlt N B.v) ∧ hentOk L1 N l

def keysIn (L1 L : List (Nat × AV)) : Bool := L1.all fun x => (lookL L x.1).isSome
def hkeysIn (L1 L : List (Nat × Option Blk)) (N : Nat) : Bool := L1.all fun x => (hwL L x.1).isSome || decide (N ≤ x.1)

theorem entOk_look {L1 : List (Nat × AV)} {N : Nat} : ∀ {L : List (Nat × AV)}, entOk L1 N L → ∀ {t : Nat} {v : AV}, lookL L t = some v → v = .un ∨ (lookL L1 t = some v ∧ nlt N v)
  | (k, u) :: l, h, t, v, hv => by
    simp only [lookL] at hv
    split at hv
    · rename_i hk
      simp at hk hv
      subst hk; subst hv
      exact h.1
    · exact entOk_look h.2 hv

theorem hentOk_look {L1 : List (Nat × Option Blk)} {N : Nat} : ∀ {L : List (Nat × Option Blk)}, hentOk L1 N L → ∀ {n : Nat} {B : Blk}, hwL L n = some (some B) → hwL L1 n = some (some B) ∧ n < N ∧ nlt N B.v
  | (k, u) :: l, h, n, B, hv => by
    simp only [hwL] at hv
    split at hv
    · rename_i hk
      simp at hk hv
      subst hk; subst hv
      exact h.1
    · exact hentOk_look h.2 hv

theorem lookL_none_of {L : List (Nat × AV)} {t : Nat} (h : ∀ x ∈ L, x.1 ≠ t) : lookL L t = none := by
  induction L with
  | nil => rfl
  | cons a l ih =>
    obtain ⟨k, v⟩ := a
    simp only [lookL]
    have : (k == t) = false := by have := h (k, v) (by simp); simpa using this
    rw [this]
    exact ih (fun x hx => h x (by simp [hx]))

theorem hwL_none_of {L : List (Nat × Option Blk)} {t : Nat} (h : ∀ x ∈ L, x.1 ≠ t) : hwL L t = none := by
  induction L with
  | nil => rfl
  | cons a l ih =>
    obtain ⟨k, v⟩ := a
    simp only [hwL]
    have : (k == t) = false := by have := h (k, v) (by simp); simpa using this
    rw [this]
    exact ih (fun x hx => h x (by simp [hx]))

theorem ent_lists {L1 L : List (Nat × AV)} {r : Nat → AV} {H1 H : List (Nat × Option Blk)} {hr : Hp} {n1 N nt lo : Nat}
    (hN : (∀ t, nlt N (r t)) ∧ (∀ n B, hr n = some B → n < N ∧ nlt N B.v) ∧ lo ≤ N)
    (h1 : entOk L1 N L) (h2 : keysIn L1 L = true) (h3 : hentOk H1 N H) (h4 : hkeysIn H1 H N = true) :
    Ent ⟨L1, r, H1, hr, n1, nt, lo⟩ ⟨L, r, H, hr, N, nt, lo⟩ where
  look := fun t => by
    simp only [St.look]
    cases hv : lookL L t with
    | some v =>
      rcases entOk_look h1 hv with e | ⟨e, hn⟩
      · exact .inl e
      · right; rw [e]; exact ⟨rfl, hn⟩
    | none =>
      right
      have : lookL L1 t = none := by
        refine lookL_none_of fun x hx e => ?_
        unfold keysIn at h2
        rw [List.all_eq_true] at h2
        have := h2 x hx
        rw [e, hv] at this
        simp at this
      rw [this]
      exact ⟨rfl, hN.1 t⟩
  hp := fun n B hB => by
    simp only [St.hp] at hB ⊢
    cases hv : hwL H n with
    | some b =>
      rw [hv] at hB
      simp only at hB
      subst hB
      obtain ⟨e1, e2, e3⟩ := hentOk_look h3 hv
      rw [e1]
      exact ⟨rfl, e2, e3⟩
    | none =>
      rw [hv] at hB
      simp only at hB
      obtain ⟨k1, k2⟩ := hN.2.1 n B hB
      have : hwL H1 n = none := by
        refine hwL_none_of fun x hx e => ?_
        unfold hkeysIn at h4
        rw [List.all_eq_true] at h4
        have := h4 x hx
        rw [e, hv] at this
        simp at this
        omega
      rw [this]
      exact ⟨hB, k1, k2⟩
  nt := rfl
  lo := rfl
  le := hN.2.2

end Go.Rf
