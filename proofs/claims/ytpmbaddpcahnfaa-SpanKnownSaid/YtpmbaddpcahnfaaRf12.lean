/- Functions: a call's answer; functions that are entered in place; loops. -/
import Derived.Test.YtpmbaddpcahnfaaRf11
set_option linter.unusedVariables false
set_option linter.unusedSimpArgs false
namespace Go.Rf

def argEnt : Nat → List AV → List (Nat × AV)
  | _, [] => []
  | i, v :: l => (i, v) :: argEnt (i + 1) l

def St.enter (args : List AV) (hp : Hp) (next nt : Nat) : St :=
  { ent := argEnt 0 args, rest := fun _ => .tup .nil, hent := [], hrest := hp, next := next, nt := nt, lo := next }

/-- One result, out of a temporary or a cell. -/
def resOne (P : Program) (st : St) : ResultVar → Option (AV × Ob)
  | .tmp t => let v := st.look t
    if sca v || big v then some (v, .tt) else none
  | .cell t T => match st.look t with
    | .ptr n p => match st.hp n with
      | some B => match get p B.v with
        | some u => if fits P T u then some (u, getOb p B.v) else none
        | none => none
      | none => none
    | _ => none

def resList (P : Program) (st : St) : List ResultVar → Option (List AV × Ob)
  | [] => some ([], .tt)
  | r :: rs => match resOne P st r, resList P st rs with
    | some (v, o), some (vs, o') => some (v :: vs, o.and o')
    | _, _ => none

def listAV : List AV → AV
  | [] => .nil
  | v :: l => .cons v (listAV l)

def packAV : List AV → AV
  | [v] => v
  | l => .tup (listAV l)

inductive Res where
  | leaf (v : AV) (hw : List (Nat × Option Blk))
  | br (b : Bool) (x y : Res)

def keepB (b : Option Blk) : Option Blk := match b with
  | some B => if pf B.v then some B else none
  | none => none

/-- The blocks that the caller knows, as they are left. -/
def leftOver (hp : Hp) : List (Nat × Option Blk) → List (Nat × Option Blk)
  | [] => []
  | (n, b) :: l => if (hp n).isSome then (n, keepB b) :: leftOver hp l else leftOver hp l

def resOf (P : Program) (fn : Func) (hp : Hp) : Outc → Option (Res × Ob)
  | .norm st => match resList P st fn.results.toList with
    | some (vs, o) => some (.leaf (packAV vs) (leftOver hp st.hent), o)
    | none => none
  | .ret st => match resList P st fn.results.toList with
    | some (vs, o) => some (.leaf (packAV vs) (leftOver hp st.hent), o)
    | none => none
  | .br b x y => match resOf P fn hp x, resOf P fn hp y with
    | some (r, p), some (s, q) => some (.br b r s, (p.under b true).and (q.under b false))
    | _, _ => none
  | .exit _ _ => none

def evalFn (cx : Cx) (Λ : FuncId → Hook) (f : FuncId) (args : List AV) (hp : Hp) (next : Nat) : Option (Res × Ob) :=
  match cx.P.funcs[f]? with
  | some fn => match fn.body with
    | some c => if args.length ≤ fn.ntmps then match evalCode cx (Λ f) c [] (St.enter args hp next fn.ntmps) with
      | some (o, ob) => match resOf cx.P fn hp o with
        | some (r, ob') => some (r, ob.and ob')
        | none => none
      | none => none
      else none
    | none => none
  | none => none

/-- The leaf that the tests choose. -/
def Res.sel : Res → AV × List (Nat × Option Blk)
  | .leaf v hw => (v, hw)
  | .br b x y => if b = true then x.sel else y.sel

def MatchR (Es : Env) (ws : World) (hp : Hp) (r : AV × List (Nat × Option Blk)) (e : Ending) (w' : World) : Prop :=
  ∃ E, okT E r.1 ∧ e = .returned (valT E r.1) ∧ Tr Es ws E w' ∧ HRel Es (updH hp r.2) w'

def rvSem (tmps : Array Value) : ResultVar → Sem Value
  | .tmp t => pure (tmps.getD t undef)
  | .cell t T => do loadVar T (← asAddr (tmps.getD t undef))

theorem resOne_run {P : Program} {st : St} {rv : ResultVar} {v : AV} {o : Ob} (h : resOne P st rv = some (v, o)) (ho : o.holds) {E : Env} {a : Act} {w : World}
    (hl : ∀ t, TRel E (st.look t) (a.tmps.getD t undef)) (hh : HRel E st.hp w) : ok E v ∧
    (rvSem a.tmps rv).run P w = .ok (val E v) w := by
  cases rv with
  | tmp t =>
    simp only [resOne] at h
    split at h <;> simp at h
    rename_i hs
    obtain ⟨rfl, rfl⟩ := h
    obtain ⟨h1, h2⟩ := TRel_ok (hl t) (sca_big hs)
    exact ⟨h1, by simp only [rvSem, Sem.run_pure, h2]⟩
  | cell t T =>
    simp only [resOne] at h
    split at h <;> try (simp at h; done)
    rename_i n p hp
    split at h <;> try (simp at h; done)
    rename_i B hB
    split at h <;> try (simp at h; done)
    rename_i u hu
    split at h <;> simp at h
    rename_i hf
    obtain ⟨rfl, rfl⟩ := h
    have ht := hl t
    rw [hp] at ht
    obtain ⟨b, hb, hv⟩ := val_ptr_run ht
    obtain ⟨b2, h1, h2, h3⟩ := hh n B hB
    obtain rfl : b = b2 := by rw [hb] at h1; exact Option.some.inj h1
    refine ⟨get_ok E p B.v _ hu h2, ?_⟩
    simp only [rvSem, hv, asAddr, Sem.run_bind, Sem.run_pure, Result.andThen_ok]
    exact loadVar_run h3 hu ((getOb_holds p B.v).1 ho) hf

theorem resList_run {P : Program} {st : St} {E : Env} {a : Act} {w : World} (hl : ∀ t, TRel E (st.look t) (a.tmps.getD t undef)) (hh : HRel E st.hp w) :
    ∀ (rs : List ResultVar) (vs : List AV) (o : Ob), resList P st rs = some (vs, o) → o.holds → (∀ v ∈ vs, ok E v) ∧
      (rs.mapM (rvSem a.tmps)).run P w = .ok (vs.map (val E)) w
  | [], vs, o, h, ho => by simp [resList] at h; obtain ⟨rfl, rfl⟩ := h; simp
  | r :: rs, vs, o, h, ho => by
    simp only [resList] at h
    split at h <;> simp at h
    rename_i v o1 vs' o2 h1 h2
    obtain ⟨rfl, rfl⟩ := h
    rw [Ob.and_holds] at ho
    obtain ⟨a1, a2⟩ := resOne_run h1 ho.1 hl hh
    obtain ⟨b1, b2⟩ := resList_run hl hh rs vs' o2 h2 ho.2
    refine ⟨?_, ?_⟩
    · intro x hx
      simp at hx
      rcases hx with rfl | hx
      · exact a1
      · exact b1 x hx
    · rw [List.mapM_cons, Sem.run_bind, a2]
      simp only [Result.andThen_ok]
      rw [Sem.run_bind, b2]
      rfl

theorem listAV_okl {E : Env} : ∀ (l : List AV), (∀ v ∈ l, ok E v) → okl E (listAV l) ∧ vals E (listAV l) = l.map (val E)
  | [], _ => ⟨trivial, rfl⟩
  | v :: l, h => by
    obtain ⟨h1, h2⟩ := listAV_okl l (fun x hx => h x (by simp [hx]))
    exact ⟨⟨h v (by simp), h1⟩, by simp only [listAV, vals, h2, List.map_cons]⟩

theorem ok_not_tup {E : Env} {v : AV} (h : ok E v) : okT E v ∧ valT E v = val E v := by
  cases v <;> first
    | exact h.elim
    | exact ⟨h, rfl⟩

theorem pack_run {E : Env} {l : List AV} (h : ∀ v ∈ l, ok E v) : okT E (packAV l) ∧
    valT E (packAV l) = (if h : (l.map (val E)).toArray.size = 1 then (l.map (val E)).toArray[0] else .tuple (l.map (val E)).toArray) := by
  match l, h with
  | [], _ => exact ⟨trivial, rfl⟩
  | [v], h =>
    obtain ⟨h1, h2⟩ := ok_not_tup (h v (by simp))
    exact ⟨h1, by simp [packAV, h2]⟩
  | a :: b :: l, h =>
    obtain ⟨h1, h2⟩ := listAV_okl _ h
    refine ⟨h1, ?_⟩
    simp only [packAV, valT, h2]
    simp

theorem leftOver_upd {hp : Hp} {n : Nat} (hn : (hp n).isSome = true) : ∀ (l : List (Nat × Option Blk)) (B : Blk), updH hp (leftOver hp l) n = some B → (match hwL l n with | some b => b | none => hp n) = some B ∧ (hwL l n ≠ none → pf B.v = true)
  | [], B, h => by simp [leftOver, updH, hwL] at h ⊢; exact h
  | (k, b) :: l, B, h => by
    simp only [leftOver] at h
    by_cases hk : k = n
    · subst hk
      simp only [hn, if_true, updH, hwL, beq_self_eq_true] at h ⊢
      simp only [keepB] at h
      split at h <;> try (simp at h; done)
      rename_i B'
      split at h <;> simp at h
      rename_i hpf
      subst h
      exact ⟨rfl, fun _ => hpf⟩
    · have hkn : (k == n) = false := by simpa using hk
      have h2 : updH hp (leftOver hp l) n = some B := by
        split at h
        · simp only [updH, hwL, hkn] at h ⊢; exact h
        · exact h
      have ih := leftOver_upd hn l B h2
      simp only [hwL, hkn, Bool.false_eq_true, if_false]
      exact ih

theorem leftOver_none {hp : Hp} {n : Nat} (hn : hp n = none) : ∀ (l : List (Nat × Option Blk)), updH hp (leftOver hp l) n = none
  | [] => by simp [leftOver, updH, hwL, hn]
  | (k, b) :: l => by
    have ih := leftOver_none hn l
    simp only [leftOver]
    split
    · rename_i hs
      have hkn : (k == n) = false := by
        have : k ≠ n := fun e => by subst e; simp [hn] at hs
        simpa using this
      simp only [updH, hwL, hkn] at ih ⊢
      exact ih
    · exact ih

theorem leaf_run {P : Program} {fn : Func} {hp : Hp} {st : St} {vs : List AV} {o : Ob} (h : resList P st fn.results.toList = some (vs, o)) (ho : o.holds) {Es : Env} {ws : World} {a : Act} {w : World}
    (hs : SRel Es ws st a w) (hrest : st.hrest = hp) (hent : HRel Es hp ws) (hbd : Bd Es ws) :
    a.defers = [] ∧ ∃ v, (results fn a.tmps).run P w = .ok v w ∧ MatchR Es ws hp (packAV vs, leftOver hp st.hent) (.returned v) w := by
  obtain ⟨E, h1, h2, h3, h4, h5, h6, h7, h8, _, _⟩ := hs
  obtain ⟨a1, a2⟩ := resList_run h1 h4 _ vs o h ho
  obtain ⟨p1, p2⟩ := pack_run a1
  refine ⟨h3, valT E (packAV vs), ?_, E, p1, rfl, h8, ?_⟩
  · have e : results fn a.tmps = (do
        let vs ← fn.results.mapM (rvSem a.tmps)
        pure (if h : vs.size = 1 then vs[0] else .tuple vs)) := rfl
    rw [e, Sem.run_bind, Array.mapM_eq_mapM_toList, Sem.run_map, a2]
    simp only [Result.andThen_ok]
    rw [p2]
    rfl
  · intro n B hB
    cases hn : hp n with
    | none => rw [leftOver_none hn] at hB; simp at hB
    | some B0 =>
      obtain ⟨b, e1, e2, e3⟩ := hent n B0 hn
      obtain ⟨q1, q2⟩ := leftOver_upd (hp := hp) (n := n) (by simp [hn]) st.hent B hB
      have hhp : st.hp n = some B := by
        simp only [St.hp, hrest]
        exact q1
      obtain ⟨k, k1, k2, k3⟩ := h4 n B hhp
      have hEn : E n = some b := h8.sub n b e1
      obtain rfl : k = b := by rw [k1] at hEn; exact Option.some.inj hEn
      refine ⟨k, e1, ?_⟩
      cases hw : hwL st.hent n with
      | some bb =>
        have hpf := q2 (by simp [hw])
        exact ⟨ok_of_pf Es _ hpf, by rw [k3, cells_pf E Es _ hpf]⟩
      | none =>
        simp only [hw, hn, Option.some.injEq] at q1
        subst q1
        exact ⟨e2, by rw [k3, cells_mono h8.sub e2]⟩

/-- The code leaves alone what it does not know. -/
def RestIs (hp : Hp) : Outc → Prop
  | .norm st => st.hrest = hp
  | .exit _ st => st.hrest = hp
  | .ret st => st.hrest = hp
  | .br _ x y => RestIs hp x ∧ RestIs hp y

theorem app_rest {st : St} : ∀ {ot : OT}, RestIs st.hrest (ot.app st)
  | .norm _ _ => rfl
  | .exit _ _ _ => rfl
  | .ret _ _ => rfl
  | .br _ _ _ => ⟨app_rest, app_rest⟩

theorem evalRegion_rest {cx : Cx} {ops : Array Oper} {draw : Bool} {st st' : St} {ob : Ob} (h : evalRegion cx ops draw st = some (st', ob)) : st'.hrest = st.hrest := by
  unfold evalRegion at h
  split at h <;> try (simp at h; done)
  split at h <;> simp at h
  rw [← h.1]

theorem bind_rest {hp : Hp} {f : St → Option (Outc × Ob)} (hf : ∀ st o ob, st.hrest = hp → f st = some (o, ob) → RestIs hp o) : ∀ {o o' : Outc} {ob : Ob}, o.bind f = some (o', ob) → RestIs hp o → RestIs hp o'
  | .norm st, o', ob, h, hr => hf st o' ob hr h
  | .exit id st, o', ob, h, hr => by simp only [Outc.bind, Option.some.injEq, Prod.mk.injEq] at h; rw [← h.1]; exact hr
  | .ret st, o', ob, h, hr => by simp only [Outc.bind, Option.some.injEq, Prod.mk.injEq] at h; rw [← h.1]; exact hr
  | .br b x y, o', ob, h, hr => by
    simp only [Outc.bind] at h
    split at h <;> simp at h
    rename_i x' p y' q hx hy
    rw [← h.1]
    exact ⟨bind_rest hf hx hr.1, bind_rest hf hy hr.2⟩

theorem inBlock_rest {hp : Hp} {id : Nat} : ∀ {o : Outc}, RestIs hp o → RestIs hp (o.inBlock id)
  | .norm st, h => h
  | .exit id' st, h => by simp only [Outc.inBlock]; split <;> exact h
  | .ret st, h => h
  | .br b x y, h => ⟨inBlock_rest h.1, inBlock_rest h.2⟩

theorem evalCode_rest {cx : Cx} {Λ : Hook} : ∀ (c : Code) (p : List Nat) (st : St) (o : Outc) (ob : Ob), evalCode cx Λ c p st = some (o, ob) → RestIs st.hrest o := by
  intro c
  induction c with
  | skip => intro p st o ob h; simp [evalCode] at h; rw [← h.1]; exact rfl
  | label l => intro p st o ob h; simp [evalCode] at h; rw [← h.1]; exact rfl
  | region id ops draw =>
    intro p st o ob h
    simp only [evalCode] at h
    split at h <;> simp at h
    rename_i st' ob' hr
    rw [← h.1]
    exact evalRegion_rest hr
  | seq x y ihx ihy =>
    intro p st o ob h
    simp only [evalCode] at h
    split at h <;> try (simp at h; done)
    rename_i o1 q1 h1
    split at h <;> simp at h
    rename_i o2 q2 h2
    rw [← h.1]
    exact bind_rest (fun st' o ob e h => by rw [← e]; exact ihy _ st' o ob h) h2 (ihx _ st o1 q1 h1)
  | cond c x y ihx ihy =>
    intro p st o ob h
    simp only [evalCode] at h
    split at h <;> try (simp at h; done)
    · exact ihx _ st o ob h
    · exact ihy _ st o ob h
    · split at h <;> simp at h
      rename_i o1 q1 o2 q2 h1 h2
      rw [← h.1]
      exact ⟨ihx _ st o1 q1 h1, ihy _ st o2 q2 h2⟩
  | block id x ih =>
    intro p st o ob h
    simp only [evalCode] at h
    split at h <;> simp at h
    rename_i o1 q1 h1
    rw [← h.1]
    exact inBlock_rest (ih _ st o1 q1 h1)
  | loop x ih =>
    intro p st o ob h
    simp only [evalCode] at h
    split at h <;> try (simp at h; done)
    split at h <;> simp at h
    rw [← h.1]
    exact app_rest
  | exit id => intro p st o ob h; simp [evalCode] at h; rw [← h.1]; exact rfl
  | ret => intro p st o ob h; simp [evalCode] at h; rw [← h.1]; exact rfl
  | _ => intro p st o ob h; simp [evalCode] at h

theorem resOf_run {P : Program} {fn : Func} {hp : Hp} {Es : Env} {ws : World} (hent : HRel Es hp ws) (hbd : Bd Es ws) : ∀ {o : Outc} {r : Res} {ob : Ob}, resOf P fn hp o = some (r, ob) → ob.holds → RestIs hp o →
    ∀ {e : Exit} {a : Act} {w : World}, MatchO Es ws o e a w → bodyPost P fn (MatchR Es ws hp r.sel) e a w
  | .norm st, r, ob, h, hob, hr, e, a, w, hm => by
    simp only [resOf] at h
    split at h <;> simp at h
    rename_i vs o' hv
    obtain ⟨rfl, rfl⟩ := h
    cases e <;> simp only [MatchO] at hm
    exact leaf_run hv hob hm hr hent hbd
  | .ret st, r, ob, h, hob, hr, e, a, w, hm => by
    simp only [resOf] at h
    split at h <;> simp at h
    rename_i vs o' hv
    obtain ⟨rfl, rfl⟩ := h
    cases e <;> simp only [MatchO] at hm
    exact leaf_run hv hob hm hr hent hbd
  | .exit id st, r, ob, h, hob, hr, e, a, w, hm => by simp [resOf] at h
  | .br b x y, r, ob, h, hob, hr, e, a, w, hm => by
    simp only [resOf] at h
    split at h <;> simp at h
    rename_i r1 p r2 q h1 h2
    obtain ⟨rfl, rfl⟩ := h
    rw [Ob.and_holds, Ob.under_holds, Ob.under_holds] at hob
    simp only [MatchO] at hm
    cases b with
    | true =>
      simp only [if_true] at hm
      simp only [Res.sel, if_true]
      exact resOf_run hent hbd h1 (hob.1 rfl) hr.1 hm
    | false =>
      simp only [Bool.false_eq_true, if_false] at hm
      simp only [Res.sel, Bool.false_eq_true, if_false]
      exact resOf_run hent hbd h2 (hob.2 rfl) hr.2 hm

theorem argEnt_look : ∀ (args : List AV) (i t : Nat), lookL (argEnt i args) t = if i ≤ t then args[t - i]? else none
  | [], i, t => by simp [argEnt, lookL]
  | v :: l, i, t => by
    simp only [argEnt, lookL]
    by_cases h : i = t
    · subst h; simp
    · have : (i == t) = false := by simpa using h
      simp only [this, Bool.false_eq_true, if_false, argEnt_look l (i + 1) t]
      by_cases h2 : i ≤ t
      · have e : t - i = (t - (i + 1)) + 1 := by omega
        have : i + 1 ≤ t := by omega
        simp [h2, this, e]
      · have : ¬ i + 1 ≤ t := by omega
        simp [h2, this]

theorem evalFn_calls {cx : Cx} (hΓ : TabOk cx.P cx.Γ) (hI : InlOk cx.P cx.inl) {Λ : FuncId → Hook} {f : FuncId} {args : List AV} {hp : Hp} {next : Nat} {r : Res} {ob : Ob}
    (h : evalFn cx Λ f args hp next = some (r, ob)) (hob : ob.holds) {E : Env} {w : World} (hargs : ∀ v ∈ args, ok E v) (hh : HRel E hp w) (hinj : Inj E) (hbd : Bd E w) (hnext : ∀ n, next ≤ n → E n = none) :
    Calls cx.P f (args.map (val E)).toArray w (MatchR E w hp r.sel) := by
  unfold evalFn at h
  split at h <;> try (simp at h; done)
  rename_i fn hf
  split at h <;> try (simp at h; done)
  rename_i c hc
  split at h <;> try (simp at h; done)
  rename_i hlen
  split at h <;> try (simp at h; done)
  rename_i o ob1 h1
  split at h <;> simp at h
  rename_i r' ob2 h2
  obtain ⟨rfl, rfl⟩ := h
  rw [Ob.and_holds] at hob
  refine calls_of_wp hf hc ?_
  have hrest := evalCode_rest (Λ := Λ f) c [] _ o ob1 h1
  have hs : SRel E w (St.enter args hp next fn.ntmps) { tmps := (args.map (val E)).toArray ++ Array.replicate (fn.ntmps - (args.map (val E)).toArray.size) undef, defers := [] } w := by
    refine ⟨E, ?_, ?_, rfl, ?_, hinj, hbd, hnext, Tr.refl E w, hnext, Nat.le_refl _⟩
    · intro t
      simp only [St.look, St.enter, argEnt_look, Nat.zero_le, if_true, Nat.sub_zero]
      simp only [Array.getD_eq_getD_getElem?, Array.getElem?_append]
      by_cases ht : t < args.length
      · have e : args[t]? = some args[t] := List.getElem?_eq_getElem ht
        simp only [e, List.size_toArray, List.length_map, ht, if_true]
        simp only [List.getElem?_toArray, List.getElem?_map, e, Option.map_some, Option.getD_some]
        exact TRel_of (hargs _ (List.getElem_mem ht))
      · have e : args[t]? = none := by simp; omega
        simp only [e, List.size_toArray, List.length_map, ht, if_false]
        refine ⟨trivial, ?_⟩
        simp only [Array.getElem?_replicate]
        split <;> rfl
    · simp [St.enter]; omega
    · intro n B hB
      exact hh n B hB
  exact wp_mono (evalCode_wp hΓ hI c [] _ o ob1 h1 hob.1 _ w hs) fun e a w' hm => resOf_run hh hbd h2 hob.2 hrest hm

end Go.Rf
