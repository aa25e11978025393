/- Loops: what one round does, what the whole loop does. -/
import Derived.Test.YtpmbaddpcahnfaaRf15
set_option linter.unusedVariables false
set_option linter.unusedSimpArgs false
namespace Go.Rf

inductive Rd (σ : Type) where
  | norm (s : σ)
  | exit (id : Nat) (s : σ)
  | ret (s : σ)
  | br (b : Bool) (x y : Rd σ)

def Rd.map {σ τ : Type} (f : σ → τ) : Rd σ → Rd τ
  | .norm s => .norm (f s)
  | .exit id s => .exit id (f s)
  | .ret s => .ret (f s)
  | .br b x y => .br b (x.map f) (y.map f)

def Rd.sel {σ : Type} : Rd σ → Rd σ
  | .br b x y => if b = true then x.sel else y.sel
  | r => r

theorem Rd.sel_map {σ τ : Type} (f : σ → τ) : ∀ r : Rd σ, (r.map f).sel = r.sel.map f
  | .norm s => rfl
  | .exit id s => rfl
  | .ret s => rfl
  | .br b x y => by
    simp only [Rd.map, Rd.sel]
    cases b
    · simpa using sel_map f y
    · simpa using sel_map f x

theorem Rd.sel_no_br {σ : Type} : ∀ (r : Rd σ) {b : Bool} {x y : Rd σ}, r.sel ≠ .br b x y
  | .norm s, _, _, _ => by simp [Rd.sel]
  | .exit id s, _, _, _ => by simp [Rd.sel]
  | .ret s, _, _, _ => by simp [Rd.sel]
  | .br b x y, _, _, _ => by
    simp only [Rd.sel]
    cases b
    · simpa using sel_no_br y
    · simpa using sel_no_br x

/-- The temporaries that code writes. -/
def wrOps : List Oper → List Nat
  | [] => []
  | o :: l => match o.dst with
    | some t => t :: wrOps l
    | none => wrOps l
def wr : Code → List Nat
  | .region _ ops _ => wrOps ops.toList
  | .seq x y => wr x ++ wr y
  | .cond _ x y => wr x ++ wr y
  | .block _ x => wr x
  | .loop x => wr x
  | _ => []
def wrAt (P : Program) (f : FuncId) (p : List Nat) : List Nat := wr (loopAt P f p)

abbrev Pack := List AV × List Blk

/-- What a loop is about: its temporaries, its blocks, what it only scribbles on; its states. -/
structure Lp (σ : Type) where
  keys : List Nat
  names : List Nat
  scr : List Nat
  vals : σ → List AV
  blks : σ → List Blk
  dec : List AV → List Blk → Option σ

def Lp.pack {σ : Type} (L : Lp σ) (s : σ) : Pack := (L.vals s, L.blks s)

def hz : List Nat → List Blk → List (Nat × Option Blk)
  | n :: ns, b :: bs => (n, some b) :: hz ns bs
  | _, _ => []
def kz : List Nat → List AV → List (Nat × AV)
  | n :: ns, b :: bs => (n, b) :: kz ns bs
  | _, _ => []
def uns : List Nat → List (Nat × AV)
  | [] => []
  | n :: ns => (n, .un) :: uns ns

def Lp.st {σ : Type} (L : Lp σ) (s : σ) (r : Nat → AV) (h : Hp) (next nt lo : Nat) : St :=
  ⟨kz L.keys (L.vals s) ++ uns L.scr, r, hz L.names (L.blks s), h, next, nt, lo⟩
def Lp.ent {σ : Type} (L : Lp σ) (s : σ) (r : Nat → AV) (h : Hp) (next nt lo : Nat) : St :=
  ⟨kz L.keys (L.vals s), r, hz L.names (L.blks s), h, next, nt, lo⟩

def Lp.ot {σ : Type} (L : Lp σ) : Rd σ → OT
  | .norm s => .norm (kz L.keys (L.vals s) ++ uns L.scr) (hz L.names (L.blks s))
  | .exit id s => .exit id (kz L.keys (L.vals s) ++ uns L.scr) (hz L.names (L.blks s))
  | .ret s => .ret (kz L.keys (L.vals s) ++ uns L.scr) (hz L.names (L.blks s))
  | .br b x y => .br b (Lp.ot L x) (Lp.ot L y)

def vals2 : List (Nat × AV) → List AV
  | [] => []
  | x :: l => x.2 :: vals2 l
def blks2 : List (Nat × Option Blk) → Option (List Blk)
  | [] => some []
  | x :: l => match x.2, blks2 l with
    | some b, some m => some (b :: m)
    | _, _ => none

def Lp.hk {σ : Type} (L : Lp σ) (T : σ → Rd σ) : Hk where
  keys := L.keys
  names := L.names
  out kv hb := match blks2 hb with
    | some bs => match L.dec (vals2 kv) bs with
      | some s => some (L.ot (T s))
      | none => none
    | none => none

def LoopGoal {σ : Type} (P : Program) (c : Code) (L : Lp σ) (T : σ → Rd σ) (s : σ) (next nt lo : Nat) : Prop :=
  ∀ r h, LoopOk P c (L.ent s r h next nt lo) ((L.ot (T s)).app (L.ent s r h next nt lo))

def memN (t : Nat) : List Nat → Bool
  | [] => false
  | k :: l => k == t || memN t l

def nltB (n : Nat) : AV → Bool
  | .cons h t => nltB n h && nltB n t
  | .agg fs => nltB n fs
  | .tup fs => nltB n fs
  | .arr _ b => nltB n b
  | .ptr m _ => Nat.blt m n
  | .slc m _ _ _ => Nat.blt m n
  | .fn _ cap => nltB n cap
  | _ => true

theorem nltB_nlt {n : Nat} : ∀ {v : AV}, nltB n v = true → nlt n v := by
  intro v
  induction v with
  | cons a b iha ihb => intro h; simp only [nltB, Bool.and_eq_true] at h; exact ⟨iha h.1, ihb h.2⟩
  | agg fs ih => exact ih
  | tup fs ih => exact ih
  | arr m b ih => exact ih
  | fn f cap ih => exact ih
  | ptr m p => intro h; simp only [nltB, Nat.blt_eq] at h; exact h
  | slc m p len cap => intro h; simp only [nltB, Nat.blt_eq] at h; exact h
  | _ => intro _; trivial

def lkAll (N : Nat) (st : St) : List Nat → Option (List AV)
  | [] => some []
  | t :: l => match lkAll N st l with
    | some m => if nltB N (nrmK (st.look t)) then some (nrmK (st.look t) :: m) else none
    | none => none
def hkAll (N : Nat) (st : St) : List Nat → Option (List Blk)
  | [] => some []
  | n :: l => match nrmBlk (st.hp n), hkAll N st l with
    | some b, some m => if nltB N b.v && Nat.blt n N then some (b :: m) else none
    | _, _ => none
def entIn (keys scr : List Nat) : List (Nat × AV) → Bool
  | [] => true
  | x :: l => (memN x.1 keys || memN x.1 scr) && entIn keys scr l
def hentIn (N : Nat) (names : List Nat) : List (Nat × Option Blk) → Bool
  | [] => true
  | x :: l => (memN x.1 names || Nat.ble N x.1) && hentIn N names l

def leafOf (N : Nat) (keys scr names : List Nat) (st : St) : Option Pack :=
  if entIn keys scr st.ent && hentIn N names st.hent then match lkAll N st keys, hkAll N st names with
    | some vs, some bs => some (vs, bs)
    | _, _ => none
  else none

def roundOf (N : Nat) (keys scr names : List Nat) : Outc → Option (Rd Pack)
  | .norm st => match leafOf N keys scr names st with
    | some x => some (.norm x)
    | none => none
  | .exit id st => match leafOf N keys scr names st with
    | some x => some (.exit id x)
    | none => none
  | .ret st => match leafOf N keys scr names st with
    | some x => some (.ret x)
    | none => none
  | .br b x y => match roundOf N keys scr names x, roundOf N keys scr names y with
    | some r, some s => some (.br b r s)
    | _, _ => none

def evalRound (cx : Cx) (Λ : Hook) (c : Code) (p : List Nat) (st : St) (N : Nat) (keys scr names : List Nat) : Option (Rd Pack × Ob) :=
  match evalCode cx Λ c p st with
  | some (o, ob) => match roundOf N keys scr names o with
    | some r => some (r, ob)
    | none => none
  | none => none

/-! ### It keeps what it does not write -/

def Keeps (s0 st : St) : Prop := st.rest = s0.rest ∧ st.hrest = s0.hrest ∧ st.nt = s0.nt ∧ st.lo = s0.lo
def KeepO (s0 : St) : Outc → Prop
  | .norm st => Keeps s0 st
  | .exit _ st => Keeps s0 st
  | .ret st => Keeps s0 st
  | .br _ x y => KeepO s0 x ∧ KeepO s0 y

theorem Keeps.refl (s : St) : Keeps s s := ⟨rfl, rfl, rfl, rfl⟩
theorem Keeps.trans {a b c : St} (h : Keeps a b) (h' : Keeps b c) : Keeps a c := ⟨h'.1.trans h.1, h'.2.1.trans h.2.1, h'.2.2.1.trans h.2.2.1, h'.2.2.2.trans h.2.2.2⟩
theorem KeepO.trans {a b : St} (h : Keeps a b) : ∀ {o : Outc}, KeepO b o → KeepO a o
  | .norm _, h' => Keeps.trans h h'
  | .exit _ _, h' => Keeps.trans h h'
  | .ret _, h' => Keeps.trans h h'
  | .br _ _ _, h' => ⟨KeepO.trans h h'.1, KeepO.trans h h'.2⟩

theorem app_keep {st : St} : ∀ {ot : OT}, KeepO st (ot.app st)
  | .norm _ _ => Keeps.refl _
  | .exit _ _ _ => Keeps.refl _
  | .ret _ _ => Keeps.refl _
  | .br _ _ _ => ⟨app_keep, app_keep⟩

theorem evalRegion_keep {cx : Cx} {ops : Array Oper} {draw : Bool} {st st' : St} {ob : Ob} (h : evalRegion cx ops draw st = some (st', ob)) : Keeps st st' := by
  unfold evalRegion at h
  split at h <;> try (simp at h; done)
  split at h <;> simp at h
  rw [← h.1]
  exact ⟨rfl, rfl, rfl, rfl⟩

theorem bind_keep {s0 : St} {f : St → Option (Outc × Ob)} (hf : ∀ st o ob, Keeps s0 st → f st = some (o, ob) → KeepO s0 o) : ∀ {o o' : Outc} {ob : Ob}, o.bind f = some (o', ob) → KeepO s0 o → KeepO s0 o'
  | .norm st, o', ob, h, hr => hf st o' ob hr h
  | .exit id st, o', ob, h, hr => by simp only [Outc.bind, Option.some.injEq, Prod.mk.injEq] at h; rw [← h.1]; exact hr
  | .ret st, o', ob, h, hr => by simp only [Outc.bind, Option.some.injEq, Prod.mk.injEq] at h; rw [← h.1]; exact hr
  | .br b x y, o', ob, h, hr => by
    simp only [Outc.bind] at h
    split at h <;> simp at h
    rename_i x' p y' q hx hy
    rw [← h.1]
    exact ⟨bind_keep hf hx hr.1, bind_keep hf hy hr.2⟩

theorem inBlock_keep {s0 : St} {id : Nat} : ∀ {o : Outc}, KeepO s0 o → KeepO s0 (o.inBlock id)
  | .norm st, h => h
  | .exit id' st, h => by simp only [Outc.inBlock]; split <;> exact h
  | .ret st, h => h
  | .br b x y, h => ⟨inBlock_keep h.1, inBlock_keep h.2⟩

theorem evalCode_keep {cx : Cx} {Λ : Hook} : ∀ (c : Code) (p : List Nat) (st : St) (o : Outc) (ob : Ob), evalCode cx Λ c p st = some (o, ob) → KeepO st o := by
  intro c
  induction c with
  | skip => intro p st o ob h; simp [evalCode] at h; rw [← h.1]; exact Keeps.refl _
  | label l => intro p st o ob h; simp [evalCode] at h; rw [← h.1]; exact Keeps.refl _
  | region id ops draw =>
    intro p st o ob h
    simp only [evalCode] at h
    split at h <;> simp at h
    rename_i st' ob' hr
    rw [← h.1]
    exact evalRegion_keep hr
  | seq x y ihx ihy =>
    intro p st o ob h
    simp only [evalCode] at h
    split at h <;> try (simp at h; done)
    rename_i o1 q1 h1
    split at h <;> simp at h
    rename_i o2 q2 h2
    rw [← h.1]
    exact bind_keep (fun st' o ob e h => KeepO.trans e (ihy _ st' o ob h)) h2 (ihx _ st o1 q1 h1)
  | cond c x y ihx ihy =>
    intro p st o ob h
    simp only [evalCode] at h
    split at h <;> try (simp at h; done)
    · exact ihx _ st o ob h
    · exact ihy _ st o ob h
    · split at h <;> simp at h
      rename_i o1 q1 o2 q2 h1 h2
      rw [← h.1]
      exact ⟨ihx _ st o1 q1 h1, ihy _ st o2 q2 h2⟩
  | block id x ih =>
    intro p st o ob h
    simp only [evalCode] at h
    split at h <;> simp at h
    rename_i o1 q1 h1
    rw [← h.1]
    exact inBlock_keep (ih _ st o1 q1 h1)
  | loop x ih =>
    intro p st o ob h
    simp only [evalCode] at h
    split at h <;> try (simp at h; done)
    split at h <;> simp at h
    rw [← h.1]
    exact app_keep
  | exit id => intro p st o ob h; simp [evalCode] at h; rw [← h.1]; exact Keeps.refl _
  | ret => intro p st o ob h; simp [evalCode] at h; rw [← h.1]; exact Keeps.refl _
  | _ => intro p st o ob h; simp [evalCode] at h

/-! ### From the end of a round to the head of the next -/

def stOf (keys scr names : List Nat) (x : Pack) (r : Nat → AV) (h : Hp) (next nt lo : Nat) : St :=
  ⟨kz keys x.1 ++ uns scr, r, hz names x.2, h, next, nt, lo⟩

theorem lkAll_look {N : Nat} {st : St} {t : Nat} : ∀ {keys : List Nat} {vs : List AV}, lkAll N st keys = some vs →
    lookL (kz keys vs) t = (if memN t keys = true then some (nrmK (st.look t)) else none) ∧ (memN t keys = true → nlt N (nrmK (st.look t)))
  | [], vs, h => by simp [lkAll] at h; subst h; simp [kz, lookL, memN]
  | k :: l, vs, h => by
    simp only [lkAll] at h
    split at h <;> try (simp at h; done)
    rename_i m hm
    split at h <;> simp at h
    rename_i hn
    subst h
    obtain ⟨i1, i2⟩ := lkAll_look (t := t) hm
    by_cases hk : k = t
    · subst hk
      simp only [kz, lookL, memN, beq_self_eq_true, Bool.true_or, if_true]
      exact ⟨by simp, fun _ => nltB_nlt hn⟩
    · have e : (k == t) = false := by simpa using hk
      simp only [kz, lookL, memN, e, Bool.false_or, Bool.false_eq_true, if_false]
      exact ⟨i1, i2⟩

theorem hkAll_look {N : Nat} {st : St} {n : Nat} : ∀ {names : List Nat} {bs : List Blk}, hkAll N st names = some bs →
    hwL (hz names bs) n = (if memN n names = true then some (nrmBlk (st.hp n)) else none) ∧ (memN n names = true → n < N ∧ ∀ B, nrmBlk (st.hp n) = some B → nlt N B.v)
  | [], bs, h => by simp [hkAll] at h; subst h; simp [hz, hwL, memN]
  | k :: l, bs, h => by
    simp only [hkAll] at h
    split at h <;> try (simp at h; done)
    rename_i b m hb hm
    split at h <;> simp at h
    rename_i hn
    simp only [Bool.and_eq_true, Nat.blt_eq] at hn
    subst h
    obtain ⟨i1, i2⟩ := hkAll_look (n := n) hm
    by_cases hk : k = n
    · subst hk
      simp only [hz, hwL, memN, beq_self_eq_true, Bool.true_or, if_true, hb]
      exact ⟨by simp, fun _ => ⟨hn.2, fun B hB => by cases hB; exact nltB_nlt hn.1⟩⟩
    · have e : (k == n) = false := by simpa using hk
      simp only [hz, hwL, memN, e, Bool.false_or, Bool.false_eq_true, if_false]
      exact ⟨i1, i2⟩

theorem kz_none {t : Nat} : ∀ {keys : List Nat} {vs : List AV}, memN t keys = false → lookL (kz keys vs) t = none
  | [], vs, h => by cases vs <;> rfl
  | k :: l, [], h => rfl
  | k :: l, v :: vs, h => by
    simp only [memN, Bool.or_eq_false_iff] at h
    simp only [kz, lookL, h.1, Bool.false_eq_true, if_false]
    exact kz_none h.2

theorem hz_none {t : Nat} : ∀ {keys : List Nat} {vs : List Blk}, memN t keys = false → hwL (hz keys vs) t = none
  | [], vs, h => by cases vs <;> rfl
  | k :: l, [], h => rfl
  | k :: l, v :: vs, h => by
    simp only [memN, Bool.or_eq_false_iff] at h
    simp only [hz, hwL, h.1, Bool.false_eq_true, if_false]
    exact hz_none h.2

theorem uns_look {t : Nat} : ∀ {scr : List Nat}, lookL (uns scr) t = if memN t scr = true then some .un else none
  | [] => rfl
  | k :: l => by
    by_cases hk : k = t
    · subst hk
      simp [uns, lookL, memN]
    · have e : (k == t) = false := by simpa using hk
      have ih := uns_look (t := t) (scr := l)
      simp [uns, lookL, memN, e, ih, hk]

theorem entIn_none {keys scr : List Nat} {t : Nat} (h1 : memN t keys = false) (h2 : memN t scr = false) : ∀ {l : List (Nat × AV)}, entIn keys scr l = true → lookL l t = none
  | [], _ => rfl
  | (k, v) :: l, h => by
    simp only [entIn, Bool.and_eq_true, Bool.or_eq_true] at h
    have : (k == t) = false := by
      cases e : k == t
      · rfl
      · simp at e; subst e; simp [h1, h2] at h
    simp only [lookL, this, Bool.false_eq_true, if_false]
    exact entIn_none h1 h2 h.2

theorem hentIn_none {N : Nat} {names : List Nat} {n : Nat} (h1 : memN n names = false) (h2 : n < N) : ∀ {l : List (Nat × Option Blk)}, hentIn N names l = true → hwL l n = none
  | [], _ => rfl
  | (k, v) :: l, h => by
    simp only [hentIn, Bool.and_eq_true, Bool.or_eq_true, Nat.ble_eq] at h
    have : (k == n) = false := by
      cases e : k == n
      · rfl
      · simp at e; subst e; simp [h1] at h; omega
    simp only [hwL, this, Bool.false_eq_true, if_false]
    exact hentIn_none h1 h2 h.2

theorem leaf_ent {N : Nat} {keys scr names : List Nat} {st s0 : St} {x : Pack} (h : leafOf N keys scr names st = some x) (hk : Keeps s0 st)
    (hN : (∀ t, memN t keys = false → memN t scr = false → nlt N (s0.rest t)) ∧ (∀ n B, memN n names = false → s0.hrest n = some B → n < N ∧ nlt N B.v) ∧ s0.lo ≤ N)
    {Es : Env} {ws : World} {a : Act} {w : World} (hs : SRel Es ws st a w) : SRel Es ws (stOf keys scr names x s0.rest s0.hrest N s0.nt s0.lo) a w := by
  unfold leafOf at h
  split at h <;> try (simp at h; done)
  rename_i hin
  simp only [Bool.and_eq_true] at hin
  split at h <;> simp at h
  rename_i vs bs h1 h2
  subst h
  have hs2 := keySt_rel hs keys names
  refine Ent.rel (st := keySt st keys names) ⟨fun t => ?_, fun n B hB => ?_, ?_, ?_, ?_⟩ hs2
  · obtain ⟨e1, e2⟩ := lkAll_look (t := t) h1
    simp only [stOf, St.look, lookL_append, e1, uns_look]
    cases m1 : memN t keys with
    | true =>
      right
      simp only [if_true]
      refine ⟨?_, e2 m1⟩
      simp only [keySt]
      have key : ∀ l : List Nat, memN t l = true → lookL (keyVals st l) t = some (nrmK (st.look t)) := by
        intro l
        induction l with
        | nil => intro h; simp [memN] at h
        | cons k l ih =>
          intro h
          simp only [keyVals, lookL]
          by_cases hk : k = t
          · subst hk; simp
          · have e : (k == t) = false := by simpa using hk
            simp only [memN, e, Bool.false_or] at h
            simp only [e, Bool.false_eq_true, if_false]
            exact ih h
      rw [key keys m1]
      rfl
    | false =>
      cases m2 : memN t scr with
      | true => left; simp
      | false =>
        right
        simp only [Bool.false_eq_true, if_false]
        refine ⟨?_, hN.1 t m1 m2⟩
        simp only [keySt]
        have key : ∀ l : List Nat, memN t l = false → lookL (keyVals st l) t = none := by
          intro l
          induction l with
          | nil => intro h; rfl
          | cons k l ih =>
            intro h
            simp only [memN, Bool.or_eq_false_iff] at h
            simp only [keyVals, lookL, h.1, Bool.false_eq_true, if_false]
            exact ih h.2
        rw [key keys m1]
        simp only [St.look, entIn_none m1 m2 hin.1]
        rw [hk.1]
  · obtain ⟨e1, e2⟩ := hkAll_look (n := n) h2
    simp only [stOf, St.hp, e1] at hB
    cases m1 : memN n names with
    | true =>
      rw [m1] at hB
      simp only [if_true] at hB
      obtain ⟨k1, k2⟩ := e2 m1
      refine ⟨?_, k1, k2 B hB⟩
      simp only [keySt, St.hp]
      have key : ∀ l : List Nat, memN n l = true → hwL (keyBlks st l) n = some (nrmBlk (st.hp n)) := by
        intro l
        induction l with
        | nil => intro h; simp [memN] at h
        | cons k l ih =>
          intro h
          simp only [keyBlks, hwL]
          by_cases hk : k = n
          · subst hk; simp
          · have e : (k == n) = false := by simpa using hk
            simp only [memN, e, Bool.false_or] at h
            simp only [e, Bool.false_eq_true, if_false]
            exact ih h
      rw [key names m1]
      exact hB
    | false =>
      rw [m1] at hB
      simp only [Bool.false_eq_true, if_false] at hB
      obtain ⟨k1, k2⟩ := hN.2.1 n B m1 hB
      refine ⟨?_, k1, k2⟩
      simp only [keySt, St.hp]
      have key : ∀ l : List Nat, memN n l = false → hwL (keyBlks st l) n = none := by
        intro l
        induction l with
        | nil => intro h; rfl
        | cons k l ih =>
          intro h
          simp only [memN, Bool.or_eq_false_iff] at h
          simp only [keyBlks, hwL, h.1, Bool.false_eq_true, if_false]
          exact ih h.2
      rw [key names m1]
      simp only [hentIn_none m1 k1 hin.2]
      rw [hk.2.1]
      exact hB
  · simp only [stOf, keySt, hk.2.2.1]
  · simp only [stOf, keySt, hk.2.2.2]
  · simp only [stOf, keySt]
    rw [hk.2.2.2]
    exact hN.2.2

/-- What a round came to. -/
def MatchP (Es : Env) (ws : World) (f : Pack → St) : Rd Pack → Exit → Act → World → Prop
  | .norm x, .normal, a, w => SRel Es ws (f x) a w
  | .exit id x, .exit id', a, w => id' = id ∧ SRel Es ws (f x) a w
  | .ret x, .ret, a, w => SRel Es ws (f x) a w
  | _, _, _, _ => False

theorem round_match {N : Nat} {keys scr names : List Nat} {s0 : St}
    (hN : (∀ t, memN t keys = false → memN t scr = false → nlt N (s0.rest t)) ∧ (∀ n B, memN n names = false → s0.hrest n = some B → n < N ∧ nlt N B.v) ∧ s0.lo ≤ N)
    {Es : Env} {ws : World} : ∀ {o : Outc} {r : Rd Pack}, roundOf N keys scr names o = some r → KeepO s0 o → ∀ {e : Exit} {a : Act} {w : World}, MatchO Es ws o e a w →
    MatchP Es ws (fun x => stOf keys scr names x s0.rest s0.hrest N s0.nt s0.lo) r.sel e a w
  | .norm st, r, h, hk, e, a, w, hm => by
    simp only [roundOf] at h
    split at h <;> simp at h
    rename_i x hx
    subst h
    cases e <;> simp only [MatchO] at hm
    exact leaf_ent hx hk hN hm
  | .exit id st, r, h, hk, e, a, w, hm => by
    simp only [roundOf] at h
    split at h <;> simp at h
    rename_i x hx
    subst h
    cases e <;> simp only [MatchO] at hm
    exact ⟨hm.1, leaf_ent hx hk hN hm.2⟩
  | .ret st, r, h, hk, e, a, w, hm => by
    simp only [roundOf] at h
    split at h <;> simp at h
    rename_i x hx
    subst h
    cases e <;> simp only [MatchO] at hm
    exact leaf_ent hx hk hN hm
  | .br b x y, r, h, hk, e, a, w, hm => by
    simp only [roundOf] at h
    split at h <;> simp at h
    rename_i r1 r2 h1 h2
    subst h
    simp only [MatchO] at hm
    cases b with
    | true =>
      simp only [if_true] at hm
      simp only [Rd.sel, if_true]
      exact round_match hN h1 hk.1 hm
    | false =>
      simp only [Bool.false_eq_true, if_false] at hm
      simp only [Rd.sel, Bool.false_eq_true, if_false]
      exact round_match hN h2 hk.2 hm

theorem ot_sel {σ : Type} (L : Lp σ) {st : St} {Es : Env} {ws : World} {e : Exit} {a : Act} {w : World} : ∀ (T : Rd σ), MatchO Es ws ((L.ot T.sel).app st) e a w → MatchO Es ws ((L.ot T).app st) e a w
  | .norm s, h => h
  | .exit id s, h => h
  | .ret s, h => h
  | .br b x y, h => by
    simp only [Lp.ot, OT.app, MatchO]
    cases b with
    | true => simp only [Rd.sel, if_true] at h ⊢; exact ot_sel L x h
    | false => simp only [Rd.sel, Bool.false_eq_true, if_false] at h ⊢; exact ot_sel L y h

theorem SRel_congr {Es : Env} {ws : World} {st st' : St} {a : Act} {w : World} (h1 : ∀ t, st'.look t = st.look t) (h2 : ∀ n, st'.hp n = st.hp n) (h3 : st'.next = st.next) (h4 : st'.nt = st.nt) (h5 : st'.lo = st.lo) (hs : SRel Es ws st a w) : SRel Es ws st' a w := by
  obtain ⟨E, k1, k2, k3, k4, k5, k6, k7, k8, k9, k10⟩ := hs
  refine ⟨E, fun t => by rw [h1]; exact k1 t, by rw [h4]; exact k2, k3, fun n B hB => k4 n B (by rw [← h2]; exact hB), k5, k6, by rw [h3]; exact k7, k8, by rw [h5]; exact k9, by rw [h3, h5]; exact k10⟩

def Good {σ : Type} (inv : σ → Prop) (μ : σ → Nat) (T : σ → Rd σ) (s : σ) : Rd σ → Prop
  | .norm s' => inv s' ∧ μ s' < μ s ∧ (T s').sel = (T s).sel
  | r => (T s).sel = r

def ends {σ : Type} : Rd σ → Prop
  | .exit _ _ => True
  | .ret _ => True
  | _ => False

/-- A loop: its rounds do as step says; from each state it ends as T says. -/
theorem lp_rule {cx : Cx} (hΓ : TabOk cx.P cx.Γ) (hI : InlOk cx.P cx.inl) {Λ : Hook} {p : List Nat} {c : Code} {σ : Type}
    (L : Lp σ) (inv : σ → Prop) (μ : σ → Nat) (step T : σ → Rd σ) (next nt lo : Nat)
    (hlen : ∀ s, (L.vals s).length = L.keys.length ∧ (L.blks s).length = L.names.length)
    (hr : ∀ s r h, inv s → ∃ ob, evalRound cx Λ c p (L.st s r h next nt lo) next L.keys L.scr L.names = some ((step s).map L.pack, ob) ∧ ob.holds)
    (hp : ∀ s, inv s → Good inv μ T s (step s).sel) (s0 : σ) (h0 : inv s0) : LoopGoal cx.P c L T s0 next nt lo := by
  intro r h Es ws a w hs
  have hkz : ∀ (t : Nat) (keys : List Nat) (vs : List AV), vs.length = keys.length → memN t keys = true → ∃ v, lookL (kz keys vs) t = some v := by
    intro t keys
    induction keys with
    | nil => intro vs _ h; simp [memN] at h
    | cons k l ih =>
      intro vs hl h
      cases vs with
      | nil => simp at hl
      | cons v vs =>
        simp only [kz, lookL]
        by_cases hk : k = t
        · subst hk; exact ⟨v, by simp⟩
        · have e : (k == t) = false := by simpa using hk
          simp only [memN, e, Bool.false_or] at h
          simp only [e, Bool.false_eq_true, if_false]
          exact ih vs (by simpa using hl) h
  have hhz : ∀ (t : Nat) (keys : List Nat) (vs : List Blk), vs.length = keys.length → memN t keys = true → ∃ v, hwL (hz keys vs) t = some v := by
    intro t keys
    induction keys with
    | nil => intro vs _ h; simp [memN] at h
    | cons k l ih =>
      intro vs hl h
      cases vs with
      | nil => simp at hl
      | cons v vs =>
        simp only [hz, hwL]
        by_cases hk : k = t
        · subst hk; exact ⟨some v, by simp⟩
        · have e : (k == t) = false := by simpa using hk
          simp only [memN, e, Bool.false_or] at h
          simp only [e, Bool.false_eq_true, if_false]
          exact ih vs (by simpa using hl) h
  have hst : SRel Es ws (L.st s0 r h next nt lo) a w := by
    have hn := names_of hs
    refine Ent.rel (st := L.ent s0 r h next nt lo) (st' := L.st s0 r h next nt lo) ⟨fun t => ?_, fun n B hB => ?_, rfl, rfl, hn.2.2⟩ hs
    · have h1 := hn.1 t
      simp only [Lp.ent, Lp.st, St.look, lookL_append, uns_look] at h1 ⊢
      cases m1 : lookL (kz L.keys (L.vals s0)) t with
      | some v => right; rw [m1] at h1; exact ⟨rfl, h1⟩
      | none =>
        rw [m1] at h1
        simp only at h1 ⊢
        cases memN t L.scr with
        | true => left; rfl
        | false => right; exact ⟨rfl, h1⟩
    · exact ⟨hB, hn.2.1 n B hB⟩
  refine wp_loop_ix (fun s a w => SRel Es ws (L.st s r h next nt lo) a w ∧ inv s ∧ (T s).sel = (T s0).sel) μ ?_ s0 a w ⟨hst, h0, rfl⟩
  rintro s a w ⟨hsr, hi, hT⟩
  obtain ⟨ob, h1, h2⟩ := hr s r h hi
  unfold evalRound at h1
  split at h1 <;> try (simp at h1; done)
  rename_i o ob' he
  split at h1 <;> simp at h1
  rename_i R hR
  obtain ⟨rfl, rfl⟩ := h1
  refine wp_mono (evalCode_wp hΓ hI c p _ o ob' he h2 a w hsr) ?_
  intro e a' w' hm
  have hn := names_of hsr
  have hN : (∀ t, memN t L.keys = false → memN t L.scr = false → nlt next (r t)) ∧ (∀ n B, memN n L.names = false → h n = some B → n < next ∧ nlt next B.v) ∧ lo ≤ next := by
    refine ⟨fun t m1 m2 => ?_, fun n B m1 hB => ?_, hn.2.2⟩
    · have := hn.1 t
      simp only [Lp.st, St.look, lookL_append, uns_look, kz_none m1, m2, Bool.false_eq_true, if_false] at this
      exact this
    · refine hn.2.1 n B ?_
      simp only [Lp.st, St.hp, hz_none m1]
      exact hB
  have hmp := round_match (s0 := L.st s r h next nt lo) hN hR (evalCode_keep c p _ o ob' he) hm
  rw [Rd.sel_map] at hmp
  have hg := hp s hi
  have hend : ∀ s', SRel Es ws (stOf L.keys L.scr L.names (L.pack s') r h next nt lo) a' w' → SRel Es ws (appSt (kz L.keys (L.vals s') ++ uns L.scr) (hz L.names (L.blks s')) (L.ent s0 r h next nt lo)) a' w' := by
    intro s' hs'
    refine SRel_congr (st := stOf L.keys L.scr L.names (L.pack s') r h next nt lo) (fun t => ?_) (fun n => ?_) rfl rfl rfl hs'
    · rw [appSt_look]
      simp only [stOf, Lp.pack, Lp.ent, St.look, lookL_append, uns_look]
      cases m1 : memN t L.keys with
      | true =>
        obtain ⟨v, hv⟩ := hkz t L.keys (L.vals s') (hlen s').1 m1
        rw [hv]
      | false =>
        rw [kz_none m1]
        cases memN t L.scr with
        | true => rfl
        | false => simp only [Bool.false_eq_true, if_false, kz_none m1]
    · rw [appSt_hp]
      simp only [stOf, Lp.pack, Lp.ent, St.hp]
      cases m1 : memN n L.names with
      | true =>
        obtain ⟨v, hv⟩ := hhz n L.names (L.blks s') (hlen s').2 m1
        rw [hv]
      | false => simp only [hz_none m1]
  cases hsel : (step s).sel with
  | norm s' =>
    rw [hsel] at hmp hg
    cases e <;> simp only [Rd.map, MatchP] at hmp
    obtain ⟨g1, g2, g3⟩ := hg
    exact ⟨s', ⟨hmp, g1, g3.trans hT⟩, g2⟩
  | exit id s' =>
    rw [hsel] at hmp hg
    cases e <;> simp only [Rd.map, MatchP] at hmp
    have hg' : (T s).sel = .exit id s' := hg
    refine ot_sel L (T s0) ?_
    rw [← hT, hg']
    exact ⟨hmp.1, hend s' hmp.2⟩
  | ret s' =>
    rw [hsel] at hmp hg
    cases e <;> simp only [Rd.map, MatchP] at hmp
    have hg' : (T s).sel = .ret s' := hg
    refine ot_sel L (T s0) ?_
    rw [← hT, hg']
    exact hend s' hmp
  | br b x y => exact absurd hsel (Rd.sel_no_br _)

end Go.Rf
