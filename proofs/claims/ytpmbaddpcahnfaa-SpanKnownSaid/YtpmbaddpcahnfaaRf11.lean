/- Code: a walk through a function's body. -/
import Derived.Test.YtpmbaddpcahnfaaRf10
set_option linter.unusedVariables false
set_option linter.unusedSimpArgs false
namespace Go.Rf

/-- What is known at a place of the code: the temporaries, the blocks by their names, the next name, how many temporaries there are. -/
structure St where
  ent : List (Nat × AV)
  rest : Nat → AV
  hent : List (Nat × Option Blk)
  hrest : Hp
  next : Nat
  nt : Nat
  lo : Nat

def St.look (st : St) (t : Nat) : AV := match lookL st.ent t with
  | some v => v
  | none => st.rest t
def St.hp (st : St) (n : Nat) : Option Blk := match hwL st.hent n with
  | some b => b
  | none => st.hrest n

def clean : AV → AV
  | .gd _ _ => .un
  | v => v

def SRel (Es : Env) (ws : World) (st : St) (a : Act) (w : World) : Prop :=
  ∃ E, (∀ t, TRel E (st.look t) (a.tmps.getD t undef)) ∧ a.tmps.size = st.nt ∧ a.defers = [] ∧ HRel E st.hp w ∧ Inj E ∧ Bd E w ∧ (∀ n, st.next ≤ n → E n = none) ∧ Tr Es ws E w ∧ (∀ n, st.lo ≤ n → Es n = none) ∧ st.lo ≤ st.next

def entOf : List Rec → List (Nat × AV)
  | [] => []
  | r :: rs => match r.dst with
    | some d => (d, clean r.res) :: entOf rs
    | none => entOf rs

def hwOf : List Rec → List (Nat × Option Blk)
  | [] => []
  | r :: rs => r.hw ++ hwOf rs

def evalRegion (cx : Cx) (ops : Array Oper) (draw : Bool) (st : St) : Option (St × Ob) :=
  match evalOps cx ops (fun t => clean (st.look t)) st.hp st.nt ops.toList [] st.next with
  | some (fin, n, ob) => if !draw || drawOk cx.P ops fin.reverse then some ({ st with ent := entOf fin ++ st.ent, hent := hwOf fin ++ st.hent, next := n }, ob) else none
  | none => none

theorem lookL_append (l m : List (Nat × AV)) (t : Nat) : lookL (l ++ m) t = match lookL l t with
    | some v => some v
    | none => lookL m t := by
  induction l with
  | nil => rfl
  | cons a l ih =>
    obtain ⟨k, v⟩ := a
    simp only [List.cons_append, lookL]
    split
    · rfl
    · exact ih

theorem hwL_append (l m : List (Nat × Option Blk)) (t : Nat) : hwL (l ++ m) t = match hwL l t with
    | some v => some v
    | none => hwL m t := by
  induction l with
  | nil => rfl
  | cons a l ih =>
    obtain ⟨k, v⟩ := a
    simp only [List.cons_append, hwL]
    split
    · rfl
    · exact ih

theorem entOf_look (base : Nat → AV) (hb : ∀ t, clean (base t) = base t) (t : Nat) : ∀ (fin : List Rec), (match lookL (entOf fin) t with
    | some v => v
    | none => base t) = clean (lookT base fin t)
  | [] => by simp [entOf, lookL, lookT, hb]
  | r :: rs => by
    simp only [entOf, lookT]
    cases r.dst with
    | none => exact entOf_look base hb t rs
    | some d =>
      simp only [lookL]
      by_cases he : d = t
      · simp [he]
      · simp [he]
        exact entOf_look base hb t rs

theorem hwOf_look (hb : Hp) (n : Nat) : ∀ (fin : List Rec), (match hwL (hwOf fin) n with
    | some v => v
    | none => hb n) = lookH hb fin n
  | [] => rfl
  | r :: rs => by
    simp only [hwOf, lookH, hwL_append]
    cases hwL r.hw n with
    | some b => rfl
    | none => exact hwOf_look hb n rs

theorem clean_clean (v : AV) : clean (clean v) = clean v := by cases v <;> rfl

theorem TRel_clean {E : Env} {v : AV} {x : Value} (h : TRel E v x) : TRel E (clean v) x := by cases v <;> exact h

theorem GRel_clean {bt : Nat → Bool} {E : Env} {v : AV} {x : Value} (h : GRel bt E v x) : TRel E (clean v) x := by
  cases v <;> first
    | trivial
    | exact h

theorem GRel_of_clean {bt : Nat → Bool} {E : Env} {v : AV} {x : Value} (h : TRel E v x) : GRel bt E (clean v) x := by
  cases v <;> first
    | trivial
    | exact h

theorem verT_none (l : List Rec) (base : Nat → AV) (D : Nat → Bool) (hD : ∀ j, D j = false) (t : Nat) : verT D l base t = base t := by
  unfold verT
  rw [last_none (fun k _ => by simp [hD])]

theorem verH_none (l : List Rec) (hb : Hp) (D : Nat → Bool) (hD : ∀ j, D j = false) (n : Nat) : verH D l hb n = hb n := by
  unfold verH
  rw [last_none (fun k _ => by simp [hD])]

theorem region_wp {cx : Cx} (hΓ : TabOk cx.P cx.Γ) (hI : InlOk cx.P cx.inl) {ops : Array Oper} {draw : Bool} {st st' : St} {ob : Ob} (h : evalRegion cx ops draw st = some (st', ob)) (hob : ob.holds) {id : Nat}
    {Es : Env} {ws : World} {a : Act} {w : World} (hs : SRel Es ws st a w) {Q : Exit → Act → World → Prop} (hQ : ∀ a' w', SRel Es ws st' a' w' → Q .normal a' w') :
    (Code.region id ops draw).wp cx.P Q a w := by
  unfold evalRegion at h
  split at h <;> try (simp at h; done)
  rename_i fin n ob' hev
  split at h <;> simp at h
  rename_i hd
  obtain ⟨rfl, rfl⟩ := h
  obtain ⟨l, nx, obs, e1, e2, e3, e4, e5, e6⟩ := evalOps_run _ _ _ _ _ _ hev
  simp only [List.append_nil] at e1 e5
  have R : Run cx ops (fun t => clean (st.look t)) st.hp st.nt st.next l nx obs := ⟨by simpa using e2, fun i o r ho hr => e5 i o r (by simpa using ho) hr, e3⟩
  have hobs : ∀ i, i < ops.size → (obs i).holds := fun i hi => e6 hob i (by simpa using hi)
  obtain ⟨E, h1, h2, h3, h4, h5, h6, h7, h8, h9, h10⟩ := hs
  have hfin : ∀ E' a' w', InvD l (fun t => clean (st.look t)) st.hp st.nt st.next Es ws (fun j => decide (j < ops.size)) E' a' w' → Q .normal a' w' := by
    intro E' a' w' I
    have hmono0 := R.nx_mono (i := 0) (j := ops.size) (by omega) (Nat.le_refl _)
    have e40 : nx ops.size = n := by simpa using e4
    refine hQ a' w' ⟨E', ?_, I.sz, I.df, ?_, I.inj, I.bd, ?_, I.tr, h9, by rw [R.first] at hmono0; show st.lo ≤ n; omega⟩
    · intro t
      have ht := I.tm t
      rw [← R.len, verT_below _ l l.length (Nat.le_refl _) t, List.take_length] at ht
      have e := entOf_look (fun t => clean (st.look t)) (fun t => clean_clean _) t fin
      have : St.look { st with ent := entOf fin ++ st.ent, hent := hwOf fin ++ st.hent, next := n } t = (match lookL (entOf fin) t with | some v => v | none => st.look t) := by
        simp only [St.look, lookL_append]
        cases lookL (entOf fin) t <;> rfl
      rw [this]
      rw [e1] at e ⊢
      cases hl : lookL (entOf l.reverse) t with
      | some v =>
        simp only [hl] at e ⊢
        rw [e]
        exact GRel_clean ht
      | none =>
        simp only [hl] at e ⊢
        -- not written: as it was
        have hx : TRel E' (clean (st.look t)) (a'.tmps.getD t undef) := by rw [e]; exact GRel_clean ht
        cases hv : st.look t with
        | gd q u => trivial
        | _ => rw [hv] at hx; exact hx
    · intro m B hB
      refine I.hp m B ?_
      rw [← R.len, verH_below _ l l.length (Nat.le_refl _) m, List.take_length]
      rw [← hwOf_look, ← hB, ← e1]
      simp only [St.hp, hwL_append]
      cases hwL (hwOf fin) m <;> rfl
    · intro m hm
      refine Classical.byContradiction fun hne => ?_
      have e4' : nx ops.size = n := by simpa using e4
      have hmono := R.nx_mono (i := 0) (j := ops.size) (by omega) (Nat.le_refl _)
      simp only at hm
      obtain ⟨j, hj, hnj⟩ := I.nm m (by rw [R.first] at hmono; omega) hne
      obtain ⟨a1, a2, a3⟩ := R.nw_at hnj
      have := R.nx_mono (i := j + 1) (j := ops.size) (by omega) (Nat.le_refl _)
      omega
  have start : ∀ (D : Nat → Bool) (w : World), (∀ j, D j = false) → HRel E st.hp w → Bd E w → Tr Es ws E w → InvD l (fun t => clean (st.look t)) st.hp st.nt st.next Es ws D E a w := by
    intro D w hD hh hb ht
    refine ⟨fun t => ?_, ?_, h5, hb, fun m hm hne => absurd (h7 m hm) hne, h2, h3, ht⟩
    · rw [verT_none l _ D hD t]
      exact GRel_of_clean (h1 t)
    · intro m B hB
      rw [verH_none l _ D hD m] at hB
      exact hh m B hB
  cases draw with
  | false =>
    refine wp_region ?_
    rw [List.range_eq_range']
    exact R.seq hΓ hI hobs hfin ops.size 0 (by omega) E a w (start _ w (by simp) h4 h6 h8)
  | true =>
    simp only [Bool.not_true, Bool.false_or] at hd
    have hm : cx.P.follows .mixedOrders = true := by
      simp only [drawOk, Bool.and_eq_true] at hd
      exact hd.1.1.1
    refine wp_region_any hm ?_
    rw [e1, List.reverse_reverse] at hd
    have hD : ∀ j, (fun j => (Array.replicate ops.size false).getD j false) j = false := by
      intro j
      simp only [Array.getD_eq_getD_getElem?, Array.getElem?_replicate]
      split <;> rfl
    refine R.any hΓ hI hobs hd hfin ops.size _ E a _ (by simp) ?_ ?_ (start _ _ hD h4 h6 (h8.trans (Tr.drew E w)))
    · exact Nat.le_trans (List.length_filter_le _ _) (by simp)
    · intro j hj
      rw [hD j] at hj
      simp at hj

/-! ### Code -/

inductive Outc where
  | norm (st : St)
  | exit (id : Nat) (st : St)
  | ret (st : St)
  | br (b : Bool) (x y : Outc)

def Outc.bind : Outc → (St → Option (Outc × Ob)) → Option (Outc × Ob)
  | .norm st, f => f st
  | .br b x y, f => match Outc.bind x f, Outc.bind y f with
    | some (x', p), some (y', q) => some (.br b x' y', (p.under b true).and (q.under b false))
    | _, _ => none
  | o, _ => some (o, .tt)

def Outc.inBlock (id : Nat) : Outc → Outc
  | .exit id' st => if id' == id then .norm st else .exit id' st
  | .br b x y => .br b (Outc.inBlock id x) (Outc.inBlock id y)
  | o => o

def MatchO (Es : Env) (ws : World) : Outc → Exit → Act → World → Prop
  | .norm st, .normal, a, w => SRel Es ws st a w
  | .exit id st, .exit id', a, w => id' = id ∧ SRel Es ws st a w
  | .ret st, .ret, a, w => SRel Es ws st a w
  | .br b x y, e, a, w => if b = true then MatchO Es ws x e a w else MatchO Es ws y e a w
  | _, _, _, _ => False

def LoopOk (P : Program) (c : Code) (st : St) (out : Outc) : Prop :=
  ∀ Es ws a w, SRel Es ws st a w → (Code.loop c).wp P (MatchO Es ws out) a w

/-- How a loop ends: what it puts into temporaries and blocks. -/
inductive OT where
  | norm (e : List (Nat × AV)) (h : List (Nat × Option Blk))
  | exit (id : Nat) (e : List (Nat × AV)) (h : List (Nat × Option Blk))
  | ret (e : List (Nat × AV)) (h : List (Nat × Option Blk))
  | br (b : Bool) (x y : OT)

def appSt (e : List (Nat × AV)) (h : List (Nat × Option Blk)) (st : St) : St := { st with ent := e ++ st.ent, hent := h ++ st.hent }

def OT.app : OT → St → Outc
  | .norm e h, st => .norm (appSt e h st)
  | .exit id e h, st => .exit id (appSt e h st)
  | .ret e h, st => .ret (appSt e h st)
  | .br b x y, st => .br b (x.app st) (y.app st)

/-- What is told of a loop: which temporaries and blocks it is about, and how it ends. -/
structure Hk where
  keys : List Nat
  names : List Nat
  out : List (Nat × AV) → List (Nat × Option Blk) → Option OT

abbrev Hook := List Nat → Option Hk

/-- Leaves that hang from no index, from one, or from two. -/
def canC : AV → AV
  | .int k x => .int k fun ix => x [ix.headD 0, ix.tail.headD 0]
  | .bool b => .bool fun ix => b [ix.headD 0, ix.tail.headD 0]
  | .cons h t => .cons (canC h) (canC t)
  | .agg fs => .agg (canC fs)
  | v => v
def canB : AV → AV
  | .arr n b => .arr n (canC b)
  | .int k x => .int k fun ix => x [ix.headD 0]
  | .bool b => .bool fun ix => b [ix.headD 0]
  | .cons h t => .cons (canB h) (canB t)
  | .agg fs => .agg (canB fs)
  | v => v
def canon : AV → AV
  | .int k x => .int k fun _ => x []
  | .bool b => .bool fun _ => b []
  | .cons h t => .cons (canon h) (canon t)
  | .agg fs => .agg (canon fs)
  | .arr n b => .arr n (canB b)
  | v => v
def nrmK (v : AV) : AV := match nrm v with
  | some u => canon u
  | none => v
def nrmBlk (b : Option Blk) : Option Blk := b.map fun B => ⟨B.T, nrmK B.v⟩
def keyVals (st : St) : List Nat → List (Nat × AV)
  | [] => []
  | t :: l => (t, nrmK (st.look t)) :: keyVals st l
def keyBlks (st : St) : List Nat → List (Nat × Option Blk)
  | [] => []
  | n :: l => (n, nrmBlk (st.hp n)) :: keyBlks st l

def evalCode (cx : Cx) (Λ : Hook) : Code → List Nat → St → Option (Outc × Ob)
  | .skip, _, st => some (.norm st, .tt)
  | .label _, _, st => some (.norm st, .tt)
  | .region _ ops draw, _, st => match evalRegion cx ops draw st with
    | some (st', ob) => some (.norm st', ob)
    | none => none
  | .seq x y, p, st => match evalCode cx Λ x (p ++ [0]) st with
    | some (o, q) => match o.bind (evalCode cx Λ y (p ++ [1])) with
      | some (o', q') => some (o', q.and q')
      | none => none
    | none => none
  | .cond c x y, p, st => match opd st.look c with
    | .blit true => evalCode cx Λ x (p ++ [2]) st
    | .blit false => evalCode cx Λ y (p ++ [3]) st
    | .bool f => match evalCode cx Λ x (p ++ [2]) st, evalCode cx Λ y (p ++ [3]) st with
      | some (o, q), some (o', q') => some (.br (f []) o o', (q.under (f []) true).and (q'.under (f []) false))
      | _, _ => none
    | _ => none
  | .block id x, p, st => match evalCode cx Λ x (p ++ [4]) st with
    | some (o, q) => some (o.inBlock id, q)
    | none => none
  | .loop c, p, st => match Λ p with
    | some hk => match hk.out (keyVals st hk.keys) (keyBlks st hk.names) with
      | some ot => some (ot.app st, .pr (∀ r h, LoopOk cx.P c ⟨keyVals st hk.keys, r, keyBlks st hk.names, h, st.next, st.nt, st.lo⟩
          (ot.app ⟨keyVals st hk.keys, r, keyBlks st hk.names, h, st.next, st.nt, st.lo⟩)))
      | none => none
    | none => none
  | .exit id, _, st => some (.exit id st, .tt)
  | .ret, _, st => some (.ret st, .tt)
  | _, _, _ => none

def codeAt : Code → List Nat → Option Code
  | c, [] => some c
  | .seq x _, 0 :: p => codeAt x p
  | .seq _ y, 1 :: p => codeAt y p
  | .cond _ x _, 2 :: p => codeAt x p
  | .cond _ _ y, 3 :: p => codeAt y p
  | .block _ x, 4 :: p => codeAt x p
  | .loop x, 5 :: p => codeAt x p
  | _, _ => none

theorem codeAt_append : ∀ (p q : List Nat) (c : Code), codeAt c (p ++ q) = (codeAt c p).bind fun d => codeAt d q
  | [], q, c => by cases c <;> simp [codeAt]
  | n :: p, q, c => by
    cases c <;> simp only [List.cons_append] <;> first
      | (match n with
         | 0 => first | exact codeAt_append p q _ | rfl
         | 1 => first | exact codeAt_append p q _ | rfl
         | 2 => first | exact codeAt_append p q _ | rfl
         | 3 => first | exact codeAt_append p q _ | rfl
         | 4 => first | exact codeAt_append p q _ | rfl
         | 5 => first | exact codeAt_append p q _ | rfl
         | _ + 6 => rfl)

theorem canC_cells (E : Env) (i j : Nat) : ∀ v, cells E [i, j] (canC v) = cells E [i, j] v ∧ pf (canC v) = pf v := by
  intro v
  induction v with
  | cons h t ih1 ih2 => exact ⟨by simp only [canC, cells, ih1.1, ih2.1], by simp only [canC, pf, ih1.2, ih2.2]⟩
  | agg fs ih => exact ⟨by simp only [canC, cells, ih.1], by simp only [canC, pf, ih.2]⟩
  | _ => exact ⟨rfl, rfl⟩

theorem canB_cells (E : Env) (i : Nat) : ∀ v, cells E [i] (canB v) = cells E [i] v ∧ pf (canB v) = pf v := by
  intro v
  induction v with
  | cons h t ih1 ih2 => exact ⟨by simp only [canB, cells, ih1.1, ih2.1], by simp only [canB, pf, ih1.2, ih2.2]⟩
  | agg fs ih => exact ⟨by simp only [canB, cells, ih.1], by simp only [canB, pf, ih.2]⟩
  | arr n b ih => exact ⟨by simp only [canB, cells, List.cons_append, List.nil_append, (canC_cells E i _ b).1], by simp only [canB, pf, (canC_cells E i 0 b).2]⟩
  | _ => exact ⟨rfl, rfl⟩

theorem canon_cells (E : Env) : ∀ v, cells E [] (canon v) = cells E [] v ∧ pf (canon v) = pf v ∧ big (canon v) = big v := by
  intro v
  induction v with
  | cons h t ih1 ih2 => exact ⟨by simp only [canon, cells, ih1.1, ih2.1], by simp only [canon, pf, ih1.2.1, ih2.2.1], rfl⟩
  | agg fs ih => exact ⟨by simp only [canon, cells, ih.1], by simp only [canon, pf, ih.2.1], rfl⟩
  | arr n b ih =>
    refine ⟨?_, (canB_cells E 0 b).2, rfl⟩
    simp only [canon, cells, List.nil_append, (canB_cells E _ b).1]
  | _ => exact ⟨rfl, rfl, rfl⟩

theorem val_by_cells (E : Env) (v : AV) : val E v = if big v = true then .agg (cells E [] v).toArray else (cells E [] v).headD undef := by
  cases v <;> simp [val, big, cells]

theorem canon_val (E : Env) (v : AV) : val E (canon v) = val E v := by
  obtain ⟨h1, _, h3⟩ := canon_cells E v
  rw [val_by_cells, val_by_cells, h1, h3]

theorem nrmK_TRel {E : Env} {v : AV} {x : Value} (h : TRel E (nrmK v) x) : TRel E v x := by
  unfold nrmK at h
  cases hv : nrm v with
  | none => rw [hv] at h; exact h
  | some u =>
    rw [hv] at h
    simp only at h
    obtain ⟨h1, h2, _⟩ := nrm_spec v u hv
    have e := nrm_val hv E
    have nt : ∀ v, pf v = true → (TRel E v x ↔ val E v = x) := by
      intro v hp
      cases v <;> first
        | (simp [pf] at hp; done)
        | exact ⟨fun h => h.2, fun h => ⟨ok_of_pf E _ hp, h⟩⟩
    rw [nt (canon u) (by rw [(canon_cells E u).2.1]; exact h2), canon_val] at h
    rw [nt v h1, e, h]

theorem nrmK_TRel' {E : Env} {v : AV} {x : Value} (h : TRel E v x) : TRel E (nrmK v) x := by
  unfold nrmK
  cases hv : nrm v with
  | none => exact h
  | some u =>
    simp only
    obtain ⟨h1, h2, _⟩ := nrm_spec v u hv
    have e := nrm_val hv E
    have nt : ∀ v, pf v = true → (TRel E v x ↔ val E v = x) := by
      intro v hp
      cases v <;> first
        | (simp [pf] at hp; done)
        | exact ⟨fun h => h.2, fun h => ⟨ok_of_pf E _ hp, h⟩⟩
    rw [nt v h1] at h
    rw [nt (canon u) (by rw [(canon_cells E u).2.1]; exact h2), canon_val, ← e, h]

theorem nrmK_cells (v : AV) : (∀ E, cells E [] (nrmK v) = cells E [] v) ∧ ∀ E, ok E (nrmK v) ↔ ok E v := by
  unfold nrmK
  cases hv : nrm v with
  | none => exact ⟨fun _ => rfl, fun _ => Iff.rfl⟩
  | some u =>
    obtain ⟨h1, h2, h3⟩ := nrm_spec v u hv
    exact ⟨fun E => by simp only; rw [(canon_cells E u).1]; exact (h3 E []).symm, fun E => ⟨fun _ => ok_of_pf E _ h1, fun _ => ok_of_pf E _ (by rw [(canon_cells E u).2.1]; exact h2)⟩⟩

theorem keyVals_look (st : St) (t : Nat) : ∀ (l : List Nat), lookL (keyVals st l) t = none ∨ lookL (keyVals st l) t = some (nrmK (st.look t))
  | [] => .inl rfl
  | k :: l => by
    simp only [keyVals, lookL]
    split
    · rename_i h; simp at h; subst h; exact .inr rfl
    · exact keyVals_look st t l

theorem keyBlks_look (st : St) (n : Nat) : ∀ (l : List Nat), hwL (keyBlks st l) n = none ∨ hwL (keyBlks st l) n = some (nrmBlk (st.hp n))
  | [] => .inl rfl
  | k :: l => by
    simp only [keyBlks, hwL]
    split
    · rename_i h; simp at h; subst h; exact .inr rfl
    · exact keyBlks_look st n l

def keySt (st : St) (ks ns : List Nat) : St := ⟨keyVals st ks, st.look, keyBlks st ns, st.hp, st.next, st.nt, st.lo⟩

theorem keySt_look (st : St) (ks ns : List Nat) (t : Nat) : (keySt st ks ns).look t = st.look t ∨ (keySt st ks ns).look t = nrmK (st.look t) := by
  simp only [keySt, St.look]
  rcases keyVals_look st t ks with h | h <;> simp only [h]
  · left; trivial
  · right; rfl

theorem keySt_hp (st : St) (ks ns : List Nat) (n : Nat) : (keySt st ks ns).hp n = st.hp n ∨ (keySt st ks ns).hp n = nrmBlk (st.hp n) := by
  simp only [keySt, St.hp]
  rcases keyBlks_look st n ns with h | h <;> simp only [h]
  · left; trivial
  · right; rfl

theorem HRel_nrm {E : Env} {hp hp' : Hp} {w : World} (h : HRel E hp w) (hq : ∀ n, hp' n = hp n ∨ hp' n = nrmBlk (hp n)) : HRel E hp' w := by
  intro n B hB
  rcases hq n with e | e
  · exact h n B (by rw [← e, hB])
  · rw [e] at hB
    cases hn : hp n with
    | none => rw [hn] at hB; simp [nrmBlk] at hB
    | some B0 =>
      rw [hn] at hB
      simp only [nrmBlk, Option.map_some, Option.some.injEq] at hB
      subst hB
      obtain ⟨b, h1, h2, h3⟩ := h n B0 hn
      exact ⟨b, h1, ((nrmK_cells B0.v).2 E).2 h2, by rw [h3]; simp only [(nrmK_cells B0.v).1]⟩

theorem HRel_unnrm {E : Env} {hp hp' : Hp} {w : World} (h : HRel E hp' w) (hq : ∀ n, hp' n = hp n ∨ hp' n = nrmBlk (hp n)) : HRel E hp w := by
  intro n B hB
  rcases hq n with e | e
  · exact h n B (by rw [e, hB])
  · obtain ⟨b, h1, h2, h3⟩ := h n ⟨B.T, nrmK B.v⟩ (by rw [e, hB]; rfl)
    exact ⟨b, h1, ((nrmK_cells B.v).2 E).1 h2, by rw [h3]; simp only [(nrmK_cells B.v).1]⟩

theorem keySt_rel {Es : Env} {ws : World} {st : St} {a : Act} {w : World} (hs : SRel Es ws st a w) (ks ns : List Nat) : SRel Es ws (keySt st ks ns) a w := by
  obtain ⟨E, h1, h2, h3, h4, h5, h6, h7, h8, h9, h10⟩ := hs
  refine ⟨E, fun t => ?_, h2, h3, HRel_nrm h4 (keySt_hp st ks ns), h5, h6, h7, h8, h9, h10⟩
  rcases keySt_look st ks ns t with e | e
  · rw [e]; exact h1 t
  · rw [e]; exact nrmK_TRel' (h1 t)

theorem appSt_look (e : List (Nat × AV)) (h : List (Nat × Option Blk)) (st : St) (t : Nat) : (appSt e h st).look t = match lookL e t with
    | some v => v
    | none => st.look t := by
  simp only [appSt, St.look, lookL_append]
  cases lookL e t <;> rfl

theorem appSt_hp (e : List (Nat × AV)) (h : List (Nat × Option Blk)) (st : St) (n : Nat) : (appSt e h st).hp n = match hwL h n with
    | some v => v
    | none => st.hp n := by
  simp only [appSt, St.hp, hwL_append]
  cases hwL h n <;> rfl

theorem appSt_rel {Es : Env} {ws : World} {st : St} {ks ns : List Nat} {e : List (Nat × AV)} {h : List (Nat × Option Blk)} {a : Act} {w : World} (hs : SRel Es ws (appSt e h (keySt st ks ns)) a w) : SRel Es ws (appSt e h st) a w := by
  obtain ⟨E, h1, h2, h3, h4, h5, h6, h7, h8, h9, h10⟩ := hs
  refine ⟨E, fun t => ?_, h2, h3, HRel_unnrm h4 (fun n => ?_), h5, h6, h7, h8, h9, h10⟩
  · have := h1 t
    rw [appSt_look] at this ⊢
    cases he : lookL e t with
    | some v => rw [he] at this; exact this
    | none =>
      rw [he] at this
      simp only at this ⊢
      rcases keySt_look st ks ns t with q | q
      · rw [q] at this; exact this
      · rw [q] at this; exact nrmK_TRel this
  · rw [appSt_hp, appSt_hp]
    cases hwL h n with
    | some v => exact .inl rfl
    | none => exact keySt_hp st ks ns n

theorem app_match {Es : Env} {ws : World} {st : St} {ks ns : List Nat} : ∀ {ot : OT} {e : Exit} {a : Act} {w : World}, MatchO Es ws (ot.app (keySt st ks ns)) e a w → MatchO Es ws (ot.app st) e a w
  | .norm e h, x, a, w, hm => by cases x <;> simp only [OT.app, MatchO] at hm ⊢; exact appSt_rel hm
  | .exit id e h, x, a, w, hm => by cases x <;> simp only [OT.app, MatchO] at hm ⊢; exact ⟨hm.1, appSt_rel hm.2⟩
  | .ret e h, x, a, w, hm => by cases x <;> simp only [OT.app, MatchO] at hm ⊢; exact appSt_rel hm
  | .br b p q, x, a, w, hm => by
    simp only [OT.app, MatchO] at hm ⊢
    cases b with
    | true => simp only [if_true] at hm ⊢; exact app_match hm
    | false => simp only [Bool.false_eq_true, if_false] at hm ⊢; exact app_match hm

theorem bind_match {Es : Env} {ws : World} {f : St → Option (Outc × Ob)} : ∀ {o o' : Outc} {ob : Ob}, o.bind f = some (o', ob) → ob.holds → ∀ {e : Exit} {a : Act} {w : World}, MatchO Es ws o e a w →
    (e = .normal ∧ ∃ st o2 ob2, SRel Es ws st a w ∧ f st = some (o2, ob2) ∧ ob2.holds ∧ ∀ e a w, MatchO Es ws o2 e a w → MatchO Es ws o' e a w) ∨ (e ≠ .normal ∧ MatchO Es ws o' e a w)
  | .norm st, o', ob, h, hob, e, a, w, hm => by
    simp only [Outc.bind] at h
    cases e <;> simp only [MatchO] at hm
    left
    exact ⟨rfl, st, o', ob, hm, h, hob, fun _ _ _ h => h⟩
  | .exit id st, o', ob, h, hob, e, a, w, hm => by
    simp only [Outc.bind, Option.some.injEq, Prod.mk.injEq] at h
    obtain ⟨rfl, rfl⟩ := h
    right
    refine ⟨?_, hm⟩
    cases e <;> simp [MatchO] at hm <;> simp
  | .ret st, o', ob, h, hob, e, a, w, hm => by
    simp only [Outc.bind, Option.some.injEq, Prod.mk.injEq] at h
    obtain ⟨rfl, rfl⟩ := h
    right
    refine ⟨?_, hm⟩
    cases e <;> simp [MatchO] at hm <;> simp
  | .br b x y, o', ob, h, hob, e, a, w, hm => by
    simp only [Outc.bind] at h
    split at h <;> simp at h
    rename_i x' p y' q hx hy
    obtain ⟨rfl, rfl⟩ := h
    rw [Ob.and_holds, Ob.under_holds, Ob.under_holds] at hob
    simp only [MatchO] at hm
    cases b with
    | true =>
      simp only [if_true] at hm
      rcases bind_match hx (hob.1 rfl) hm with ⟨h1, st, o2, ob2, h2, h3, h4, h5⟩ | ⟨h1, h2⟩
      · exact .inl ⟨h1, st, o2, ob2, h2, h3, h4, fun e a w hh => by simp only [MatchO, if_true]; exact h5 e a w hh⟩
      · exact .inr ⟨h1, by simp only [MatchO, if_true]; exact h2⟩
    | false =>
      simp only [Bool.false_eq_true, if_false] at hm
      rcases bind_match hy (hob.2 rfl) hm with ⟨h1, st, o2, ob2, h2, h3, h4, h5⟩ | ⟨h1, h2⟩
      · exact .inl ⟨h1, st, o2, ob2, h2, h3, h4, fun e a w hh => by simp only [MatchO, Bool.false_eq_true, if_false]; exact h5 e a w hh⟩
      · exact .inr ⟨h1, by simp only [MatchO, Bool.false_eq_true, if_false]; exact h2⟩

theorem inBlock_match {Es : Env} {ws : World} {id : Nat} : ∀ {o : Outc} {e : Exit} {a : Act} {w : World}, MatchO Es ws o e a w → Exit.inBlock id (MatchO Es ws (o.inBlock id)) e a w
  | .norm st, e, a, w, hm => by cases e <;> simp only [MatchO] at hm; exact hm
  | .exit id' st, e, a, w, hm => by
    cases e <;> simp only [MatchO] at hm
    obtain ⟨rfl, hm⟩ := hm
    rename_i i
    simp only [Exit.inBlock, Outc.inBlock]
    by_cases h : i = id
    · simp [h, MatchO, hm]
    · simp [h, MatchO, hm]
  | .ret st, e, a, w, hm => by cases e <;> simp only [MatchO] at hm; exact hm
  | .br b x y, e, a, w, hm => by
    simp only [MatchO] at hm
    cases b with
    | true =>
      simp only [if_true] at hm
      have := inBlock_match (id := id) hm
      cases e <;> simpa [Exit.inBlock, Outc.inBlock, MatchO] using this
    | false =>
      simp only [Bool.false_eq_true, if_false] at hm
      have := inBlock_match (id := id) hm
      cases e <;> simpa [Exit.inBlock, Outc.inBlock, MatchO] using this

theorem cond_rel {Es : Env} {ws : World} {st : St} {a : Act} {w : World} (hs : SRel Es ws st a w) (c : Operand) : ∃ E, TRel E (opd st.look c) (a.eval c) := by
  obtain ⟨E, h1, _⟩ := hs
  refine ⟨E, ?_⟩
  cases c with
  | tmp t => exact h1 t
  | const v => cases v <;> first | trivial | exact ⟨trivial, rfl⟩
  | func f => exact ⟨trivial, rfl⟩
  | global g => trivial

theorem evalCode_wp {cx : Cx} (hΓ : TabOk cx.P cx.Γ) (hI : InlOk cx.P cx.inl) {Λ : Hook} {Es : Env} {ws : World} :
    ∀ (c : Code) (p : List Nat) (st : St) (o : Outc) (ob : Ob), evalCode cx Λ c p st = some (o, ob) → ob.holds → ∀ (a : Act) (w : World), SRel Es ws st a w → c.wp cx.P (MatchO Es ws o) a w := by
  intro c
  induction c with
  | skip =>
    intro p st o ob h hob a w hs
    simp [evalCode] at h
    obtain ⟨rfl, rfl⟩ := h
    exact wp_skip hs
  | label l =>
    intro p st o ob h hob a w hs
    simp [evalCode] at h
    obtain ⟨rfl, rfl⟩ := h
    exact wp_label hs
  | region id ops draw =>
    intro p st o ob h hob a w hs
    simp only [evalCode] at h
    split at h <;> simp at h
    rename_i st' ob' hr
    obtain ⟨rfl, rfl⟩ := h
    exact region_wp hΓ hI hr hob hs (fun a' w' h => h)
  | seq x y ihx ihy =>
    intro p st o ob h hob a w hs
    simp only [evalCode] at h
    split at h <;> try (simp at h; done)
    rename_i o1 q1 h1
    split at h <;> simp at h
    rename_i o2 q2 h2
    obtain ⟨rfl, rfl⟩ := h
    rw [Ob.and_holds] at hob
    refine wp_seq (wp_mono (ihx _ st o1 q1 h1 hob.1 a w hs) ?_)
    intro e a' w' hm
    rcases bind_match h2 hob.2 hm with ⟨rfl, st', o3, ob3, h3, h4, h5, h6⟩ | ⟨he, h3⟩
    · exact wp_mono (ihy _ st' o3 ob3 h4 h5 a' w' h3) h6
    · cases e <;> first | exact h3 | exact absurd rfl he
  | cond cnd x y ihx ihy =>
    intro p st o ob h hob a w hs
    simp only [evalCode] at h
    obtain ⟨E, hcr⟩ := cond_rel hs cnd
    split at h <;> try (simp at h; done)
    · rename_i hcv
      rw [hcv] at hcr
      exact wp_cond_true ((TRel_bl rfl _).1 hcr) (ihx _ st o ob h hob a w hs)
    · rename_i hcv
      rw [hcv] at hcr
      exact wp_cond_false ((TRel_bl rfl _).1 hcr) (ihy _ st o ob h hob a w hs)
    · rename_i f hcv
      rw [hcv] at hcr
      split at h <;> simp at h
      rename_i o1 q1 o2 q2 h1 h2
      obtain ⟨rfl, rfl⟩ := h
      rw [Ob.and_holds, Ob.under_holds, Ob.under_holds] at hob
      have hc' : a.eval cnd = .bool (f []) := by simpa [bv] using (TRel_bl rfl _).1 hcr
      refine wp_cond hc' ?_
      cases hf : f [] with
      | true =>
        simp only [if_true]
        refine wp_mono (ihx _ st o1 q1 h1 (hob.1 hf) a w hs) ?_
        intro e a' w' hm
        simp only [MatchO, if_true]; exact hm
      | false =>
        simp only [Bool.false_eq_true, if_false]
        refine wp_mono (ihy _ st o2 q2 h2 (hob.2 hf) a w hs) ?_
        intro e a' w' hm
        simp only [MatchO, Bool.false_eq_true, if_false]; exact hm
  | block id x ih =>
    intro p st o ob h hob a w hs
    simp only [evalCode] at h
    split at h <;> simp at h
    rename_i o1 q1 h1
    obtain ⟨rfl, rfl⟩ := h
    refine wp_block (wp_mono (ih _ st o1 q1 h1 hob a w hs) ?_)
    intro e a' w' hm
    exact inBlock_match hm
  | loop x ih =>
    intro p st o ob h hob a w hs
    simp only [evalCode] at h
    split at h <;> try (simp at h; done)
    rename_i hk _
    split at h <;> simp at h
    rename_i ot _
    obtain ⟨rfl, rfl⟩ := h
    refine wp_mono (hob st.look st.hp Es ws a w (keySt_rel hs hk.keys hk.names)) ?_
    intro e a' w' hm
    exact app_match (ks := hk.keys) (ns := hk.names) hm
  | exit id =>
    intro p st o ob h hob a w hs
    simp [evalCode] at h
    obtain ⟨rfl, rfl⟩ := h
    exact wp_exit ⟨rfl, hs⟩
  | ret =>
    intro p st o ob h hob a w hs
    simp [evalCode] at h
    obtain ⟨rfl, rfl⟩ := h
    exact wp_ret hs
  | _ => intro p st o ob h; simp [evalCode] at h

end Go.Rf
