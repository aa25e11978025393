/- Tables of contracts; loops. -/
import Derived.Test.YtpmbaddpcahnfaaRf13
set_option linter.unusedVariables false
set_option linter.unusedSimpArgs false
namespace Go.Rf

abbrev Con := List AV → Option (AV × Ob)

def ConOk (P : Program) (f : FuncId) (K : Con) : Prop :=
  ∀ args r ob, K args = some (r, ob) → ob.holds → (∀ v ∈ args, pf v = true) →
    pfT r = true ∧ ∀ w, Calls P f (args.map (val E0)).toArray w fun e w' => e = .returned (valT E0 r) ∧ RowKit.Below w.heap.size w w'

def tabOf : List (FuncId × Con) → Tab
  | [], _, _ => none
  | (g, K) :: l, f, args => if f == g then K args else tabOf l f args

theorem tabOf_nil (P : Program) : TabOk P (tabOf []) := by intro f args r ob h; simp [tabOf] at h

theorem tabOf_cons {P : Program} {l : List (FuncId × Con)} {g : FuncId} {K : Con} (h : TabOk P (tabOf l)) (hK : ConOk P g K) : TabOk P (tabOf ((g, K) :: l)) := by
  intro f args r ob hh
  simp only [tabOf] at hh
  split at hh
  · rename_i hf
    have : f = g := by simpa using hf
    subst this
    exact hK args r ob hh
  · exact h f args r ob hh

/-- A function's answer as one value. -/
def evalFlat (P : Program) (Γ : Tab) (Λ : FuncId → Hook) (n : Nat) (f : FuncId) (args : List AV) : Option (AV × Ob) :=
  match evalTop P Γ Λ n f args with
  | some (r, ob) => match flat r with
    | some (v, _) => some (v, ob)
    | none => none
  | none => none

theorem evalFlat_calls {P : Program} {Γ : Tab} {Λ : FuncId → Hook} (hΓ : TabOk P Γ) {n : Nat} {f : FuncId} {args : List AV} {v : AV} {ob : Ob}
    (h : evalFlat P Γ Λ n f args = some (v, ob)) (hob : ob.holds) (hargs : ∀ v ∈ args, pf v = true) (hv : pfT v = true) :
    pfT v = true ∧ ∀ w, Calls P f (args.map (val E0)).toArray w fun e w' => e = .returned (valT E0 v) ∧ RowKit.Below w.heap.size w w' := by
  refine ⟨hv, fun w => ?_⟩
  unfold evalFlat at h
  split at h <;> try (simp at h; done)
  rename_i r ob' h1
  split at h <;> simp at h
  rename_i v' hw h2
  obtain ⟨rfl, rfl⟩ := h
  unfold evalTop at h1
  refine (evalFn_calls hΓ (inlF_ok hΓ n) h1 hob (E := E0) (w := w) (fun v hv => ok_of_pf E0 v (hargs v hv)) (fun n B hB => by simp at hB) (fun n m b h => by simp at h) (fun n b h => by simp at h) (fun _ _ => rfl)).mono ?_
  rintro e w' ⟨E', k1, rfl, k3, k4⟩
  obtain ⟨_, f2, _⟩ := flat_spec E' (fun _ => none) h2
  exact ⟨by rw [← f2, (pfT_spec hv E').2.1], k3.below⟩

/-- A contract by evaluation: as the table's function says. -/
theorem con_ok {P : Program} {Γ : Tab} {Λ : FuncId → Hook} (hΓ : TabOk P Γ) (n : Nat) {f : FuncId} {K : Con}
    (h : ∀ args r ob, K args = some (r, ob) → ob.holds → ∃ v ob', evalFlat P Γ Λ n f args = some (v, ob') ∧ ob'.holds ∧ pfT v = true ∧ pfT r = true ∧ valT E0 v = valT E0 r) : ConOk P f K := by
  intro args r ob hK hob hargs
  obtain ⟨v, ob', h1, h2, h3, h4, h5⟩ := h args r ob hK hob
  obtain ⟨_, h6⟩ := evalFlat_calls hΓ h1 h2 hargs h3
  exact ⟨h4, fun w => by rw [← h5]; exact h6 w⟩

theorem con_same {P : Program} {Γ : Tab} {Λ : FuncId → Hook} (hΓ : TabOk P Γ) (n : Nat) {f : FuncId} {K : Con}
    (h : ∀ args r ob, K args = some (r, ob) → evalFlat P Γ Λ n f args = some (r, ob) ∧ pfT r = true) : ConOk P f K :=
  con_ok hΓ n fun args r ob hK hob => ⟨r, ob, (h args r ob hK).1, hob, (h args r ob hK).2, (h args r ob hK).2, rfl⟩

def noHooks : FuncId → Hook := fun _ _ => none

/-! ### Loops -/

/-- All names are below n. -/
def nlt (n : Nat) : AV → Prop
  | .cons h t => nlt n h ∧ nlt n t
  | .agg fs => nlt n fs
  | .tup fs => nlt n fs
  | .arr _ b => nlt n b
  | .ptr m _ => m < n
  | .slc m _ _ _ => m < n
  | .fn _ cap => nlt n cap
  | _ => True

def cut (n : Nat) (E : Env) : Env := fun m => if m < n then E m else none

theorem cut_sub (n : Nat) (E : Env) : Sub (cut n E) E := fun m b h => by
  simp only [cut] at h
  split at h
  · exact h
  · simp at h

theorem ok_cut {n : Nat} {E : Env} {v : AV} (h : ok E v) (hn : nlt n v) : ok (cut n E) v := by
  induction v with
  | cons a b iha ihb => exact ⟨iha h.1 hn.1, ihb h.2 hn.2⟩
  | agg fs ih => exact ih h hn
  | arr m b ih => exact ih h hn
  | fn f cap ih => exact ih h hn
  | ptr m p => simp only [ok, cut] at h ⊢; simp only [nlt] at hn; simp [hn, h]
  | slc m p len cap => simp only [ok, cut] at h ⊢; simp only [nlt] at hn; simp [hn, h]
  | _ => exact h

theorem okl_cut {n : Nat} {E : Env} {v : AV} (h : okl E v) (hn : nlt n v) : okl (cut n E) v := by
  induction v with
  | cons a b _ ih => exact ⟨ok_cut h.1 hn.1, ih h.2 hn.2⟩
  | _ => exact h

theorem TRel_cut {n : Nat} {E : Env} {v : AV} {x : Value} (h : TRel E v x) (hn : nlt n v) : TRel (cut n E) v x := by
  have key : ∀ v, okT E v → nlt n v → okT (cut n E) v := by
    intro v h hn
    cases v <;> first
      | exact okl_cut h hn
      | exact ok_cut h hn
  cases v <;> first
    | trivial
    | (have hk := key _ h.1 hn
       exact ⟨hk, by rw [← h.2]; exact (valT_mono (cut_sub n E) hk).symm⟩)

theorem nlt_of_ok {n : Nat} {E : Env} (hE : ∀ m, n ≤ m → E m = none) {v : AV} (h : ok E v) : nlt n v := by
  induction v with
  | cons a b iha ihb => exact ⟨iha h.1, ihb h.2⟩
  | agg fs ih => exact ih h
  | arr m b ih => exact ih h
  | fn f cap ih => exact ih h
  | ptr m p =>
    simp only [ok] at h
    refine Classical.byContradiction fun hne => ?_
    rw [hE m (by simp only [nlt] at hne; omega)] at h
    simp at h
  | slc m p len cap =>
    simp only [ok] at h
    refine Classical.byContradiction fun hne => ?_
    rw [hE m (by simp only [nlt] at hne; omega)] at h
    simp at h
  | _ => first | trivial | exact h.elim

theorem nlt_of_okl {n : Nat} {E : Env} (hE : ∀ m, n ≤ m → E m = none) {v : AV} (h : okl E v) : nlt n v := by
  induction v with
  | cons a b _ ih => exact ⟨nlt_of_ok hE h.1, ih h.2⟩
  | _ => first | trivial | exact h.elim

theorem nlt_of_TRel {n : Nat} {E : Env} (hE : ∀ m, n ≤ m → E m = none) {v : AV} {x : Value} (h : TRel E v x) : nlt n v := by
  cases v with
  | un => trivial
  | gd _ _ => trivial
  | tup fs =>
    have h1 : okl E fs := h.1
    exact nlt_of_okl (v := fs) hE h1
  | _ => exact nlt_of_ok hE h.1

/-- What is known in st is known enough for st'. -/
structure Ent (st st' : St) : Prop where
  look : ∀ t, st'.look t = .un ∨ (st.look t = st'.look t ∧ nlt st'.next (st'.look t))
  hp : ∀ n B, st'.hp n = some B → st.hp n = some B ∧ n < st'.next ∧ nlt st'.next B.v
  nt : st'.nt = st.nt
  lo : st'.lo = st.lo
  le : st.lo ≤ st'.next

theorem Ent.rel {st st' : St} (h : Ent st st') {Es : Env} {ws : World} {a : Act} {w : World} (hs : SRel Es ws st a w) : SRel Es ws st' a w := by
  obtain ⟨E, h1, h2, h3, h4, h5, h6, h7, h8, h9, h10⟩ := hs
  refine ⟨cut st'.next E, ?_, by rw [h.nt]; exact h2, h3, ?_, ?_, ?_, ?_, ?_, by rw [h.lo]; exact h9, by rw [h.lo]; exact h.le⟩
  · intro t
    rcases h.look t with e | ⟨e, hn⟩
    · rw [e]; trivial
    · have := h1 t
      rw [e] at this
      exact TRel_cut this hn
  · intro n B hB
    obtain ⟨e1, e2, e3⟩ := h.hp n B hB
    obtain ⟨b, k1, k2, k3⟩ := h4 n B e1
    have hk := ok_cut k2 e3
    exact ⟨b, by simp [cut, e2, k1], hk, by rw [k3, cells_mono (cut_sub _ E) hk]⟩
  · intro n m b hn hm
    exact h5 n m b (cut_sub _ _ n b hn) (cut_sub _ _ m b hm)
  · intro n b hn
    exact h6 n b (cut_sub _ _ n b hn)
  · intro n hn
    simp [cut]; omega
  · refine ⟨?_, ?_, h8.os, h8.tape, h8.output, h8.size, h8.keep⟩
    · intro n b hn
      have hlt : n < st'.next := by
        refine Classical.byContradiction fun hne => ?_
        have := h.le
        rw [h9 n (by omega)] at hn
        simp at hn
      simp [cut, hlt, h8.sub n b hn]
    · intro n b hn
      exact h8.new n b (cut_sub _ _ n b hn)

def OLe (o o' : Outc) : Prop := ∀ Es ws e a w, MatchO Es ws o e a w → MatchO Es ws o' e a w

theorem OLe.refl (o : Outc) : OLe o o := fun _ _ _ _ _ h => h
theorem OLe.exit {id : Nat} {st st' : St} (h : Ent st st') : OLe (.exit id st) (.exit id st') := by
  intro Es ws e a w hm
  cases e <;> simp only [MatchO] at hm ⊢
  exact ⟨hm.1, h.rel hm.2⟩
theorem OLe.ret {st st' : St} (h : Ent st st') : OLe (.ret st) (.ret st') := by
  intro Es ws e a w hm
  cases e <;> simp only [MatchO] at hm ⊢
  exact h.rel hm
theorem OLe.left {o x y : Outc} {b : Bool} (hb : b = true) (h : OLe o x) : OLe o (.br b x y) := by
  intro Es ws e a w hm
  simp only [MatchO, hb, if_true]
  exact h Es ws e a w hm
theorem OLe.right {o x y : Outc} {b : Bool} (hb : b = false) (h : OLe o y) : OLe o (.br b x y) := by
  intro Es ws e a w hm
  simp only [MatchO, hb, Bool.false_eq_true, if_false]
  exact h Es ws e a w hm

/-- Each way out of a round: it ends the loop as F says, or goes on to a state of the family, with less to do. -/
def LeafOk {ι : Type} (S : ι → St) (F : ι → Outc) (μ : ι → Nat) (i : ι) : Outc → Prop
  | .norm st => ∃ i', Ent st (S i') ∧ μ i' < μ i ∧ OLe (F i') (F i)
  | .br b x y => (b = true → LeafOk S F μ i x) ∧ (b = false → LeafOk S F μ i y)
  | o => OLe o (F i)

/-- What holds of the names at a round's head. -/
def Names (st : St) : Prop := (∀ t, nlt st.next (st.look t)) ∧ (∀ n B, st.hp n = some B → n < st.next ∧ nlt st.next B.v) ∧ st.lo ≤ st.next

theorem names_of {Es : Env} {ws : World} {st : St} {a : Act} {w : World} (hs : SRel Es ws st a w) : Names st := by
  obtain ⟨E, h1, h2, h3, h4, h5, h6, h7, h8, h9, h10⟩ := hs
  refine ⟨fun t => nlt_of_TRel h7 (h1 t), fun n B hB => ?_, h10⟩
  obtain ⟨b, k1, k2, _⟩ := h4 n B hB
  refine ⟨?_, nlt_of_ok h7 k2⟩
  refine Classical.byContradiction fun hne => ?_
  rw [h7 n (by omega)] at k1
  simp at k1

theorem wp_loop_ix {P : Program} {c : Code} {Q : Exit → Act → World → Prop} {ι : Type} (I : ι → Act → World → Prop) (μ : ι → Nat)
    (round : ∀ i a w, I i a w → c.wp P (Exit.then (fun a' w' => ∃ i', I i' a' w' ∧ μ i' < μ i) Q) a w) : ∀ i a w, I i a w → (Code.loop c).wp P Q a w := by
  intro i a w h₀ b k cs
  have key : ∀ n i a w, μ i = n → I i a w →
      ∃ e a' w', Q e a' w' ∧ Arrives P (lone (b.at a (.code c :: .inLoop c :: k)) cs w) b k cs e a' w' := by
    intro n
    induction n using Nat.strongRecOn with
    | _ n ih =>
      intro i a w hn hI
      obtain ⟨e, a₁, w₁, hq, harr⟩ := round i a w hI b (.inLoop c :: k) cs
      cases e with
      | normal =>
        obtain ⟨i₁, hI₁, hlt⟩ := hq
        obtain ⟨e₂, a₂, w₂, hq₂, harr₂⟩ := ih (μ i₁) (hn ▸ hlt) i₁ a₁ w₁ rfl hI₁
        exact ⟨e₂, a₂, w₂, hq₂, .of_steps (Steps.trans harr (.one step_inLoop)) harr₂⟩
      | exit id => exact ⟨_, a₁, w₁, hq, .pass (x := .inLoop c) rfl (fun _ _ => .inl (by simp)) harr⟩
      | goto l => exact ⟨_, a₁, w₁, hq, .pass (x := .inLoop c) rfl (fun _ _ => .inl (by simp)) harr⟩
      | ret => exact ⟨_, a₁, w₁, hq, .pass (x := .inLoop c) rfl (fun _ _ => .inl (by simp)) harr⟩
      | panic ch => exact ⟨_, a₁, w₁, hq, .pass (x := .inLoop c) rfl (fun _ _ => .inl (by simp)) harr⟩
      | outgrown => exact ⟨_, a₁, w₁, hq, .pass (x := .inLoop c) rfl (fun _ _ => .inl (by simp)) harr⟩
  obtain ⟨e, a', w', hq, harr⟩ := key _ i a w rfl h₀
  exact ⟨e, a', w', hq, .of_steps (.one step_loop) harr⟩

theorem leaf_match {ι : Type} {S : ι → St} {F : ι → Outc} {μ : ι → Nat} {i i0 : ι} (hle : OLe (F i) (F i0)) {Es : Env} {ws : World} : ∀ {o : Outc}, LeafOk S F μ i o → ∀ {e : Exit} {a : Act} {w : World}, MatchO Es ws o e a w →
    Exit.then (fun a' w' => ∃ i', (SRel Es ws (S i') a' w' ∧ OLe (F i') (F i0)) ∧ μ i' < μ i) (MatchO Es ws (F i0)) e a w
  | .norm st, h, e, a, w, hm => by
    cases e <;> simp only [MatchO] at hm
    obtain ⟨i', h1, h2, h3⟩ := h
    exact ⟨i', ⟨h1.rel hm, fun Es ws e a w hh => hle Es ws e a w (h3 Es ws e a w hh)⟩, h2⟩
  | .exit id st, h, e, a, w, hm => by
    have := hle Es ws e a w (h Es ws e a w hm)
    cases e <;> simp only [MatchO] at hm <;> exact this
  | .ret st, h, e, a, w, hm => by
    have := hle Es ws e a w (h Es ws e a w hm)
    cases e <;> simp only [MatchO] at hm <;> exact this
  | .br b x y, h, e, a, w, hm => by
    simp only [MatchO] at hm
    cases b with
    | true => simp only [if_true] at hm; exact leaf_match hle (h.1 rfl) hm
    | false => simp only [Bool.false_eq_true, if_false] at hm; exact leaf_match hle (h.2 rfl) hm

/-- A loop, over a family of states at its head. -/
theorem loop_rule {cx : Cx} (hΓ : TabOk cx.P cx.Γ) (hI : InlOk cx.P cx.inl) {Λ : Hook} {p : List Nat} {c : Code}
    {ι : Type} (S : ι → St) (F : ι → Outc) (μ : ι → Nat)
    (step : ∀ i, Names (S i) → ∃ o ob, evalCode cx Λ c (p ++ [5]) (S i) = some (o, ob) ∧ ob.holds ∧ LeafOk S F μ i o) :
    ∀ i, LoopOk cx.P c (S i) (F i) := by
  intro i0 Es ws a w hs
  refine wp_loop_ix (fun i a w => SRel Es ws (S i) a w ∧ OLe (F i) (F i0)) μ ?_ i0 a w ⟨hs, OLe.refl _⟩
  rintro i a w ⟨hsi, hle⟩
  obtain ⟨o, ob, h1, h2, h3⟩ := step i (names_of hsi)
  refine wp_mono (evalCode_wp hΓ hI c (p ++ [5]) (S i) o ob h1 h2 a w hsi) ?_
  intro e a' w' hm
  exact leaf_match hle h3 hm

/-- The loop that lies at a place of a function. -/
def loopAt (P : Program) (f : FuncId) (p : List Nat) : Code :=
  match P.funcs[f]? with
  | some fn => match fn.body with
    | some c => match codeAt c p with
      | some (.loop b) => b
      | _ => .skip
    | none => .skip
  | none => .skip

/-- States by lists: explicit entries over whatever else. -/
def entOk (L1 : List (Nat × AV)) (N : Nat) : List (Nat × AV) → Prop
  | [] => True
  | (t, v) :: l => (v = .un ∨ (lookL L1 t = some v ∧ nlt N v)) ∧ entOk L1 N l

def hentOk (L1 : List (Nat × Option Blk)) (N : Nat) : List (Nat × Option Blk) → Prop
  | [] => True
  | (n, b) :: l => (match b with
    | none => True
    | some B => hwL L1 n = some (some B) ∧ n < N ∧ nlt N B.v) ∧ hentOk L1 N l

def keysIn (L1 L : List (Nat × AV)) : Bool := L1.all fun x => (lookL L x.1).isSome
def hkeysIn (L1 L : List (Nat × Option Blk)) (N : Nat) : Bool := L1.all fun x => (hwL L x.1).isSome || decide (N ≤ x.1)

theorem entOk_look {L1 : List (Nat × AV)} {N : Nat} : ∀ {L : List (Nat × AV)}, entOk L1 N L → ∀ {t : Nat} {v : AV}, lookL L t = some v → v = .un ∨ (lookL L1 t = some v ∧ nlt N v)
  | (k, u) :: l, h, t, v, hv => by
    simp only [lookL] at hv
    split at hv
    · rename_i hk
      simp at hk hv
      subst hk; subst hv
      exact h.1
    · exact entOk_look h.2 hv

theorem hentOk_look {L1 : List (Nat × Option Blk)} {N : Nat} : ∀ {L : List (Nat × Option Blk)}, hentOk L1 N L → ∀ {n : Nat} {B : Blk}, hwL L n = some (some B) → hwL L1 n = some (some B) ∧ n < N ∧ nlt N B.v
  | (k, u) :: l, h, n, B, hv => by
    simp only [hwL] at hv
    split at hv
    · rename_i hk
      simp at hk hv
      subst hk; subst hv
      exact h.1
    · exact hentOk_look h.2 hv

theorem lookL_none_of {L : List (Nat × AV)} {t : Nat} (h : ∀ x ∈ L, x.1 ≠ t) : lookL L t = none := by
  induction L with
  | nil => rfl
  | cons a l ih =>
    obtain ⟨k, v⟩ := a
    simp only [lookL]
    have : (k == t) = false := by have := h (k, v) (by simp); simpa using this
    rw [this]
    exact ih (fun x hx => h x (by simp [hx]))

theorem hwL_none_of {L : List (Nat × Option Blk)} {t : Nat} (h : ∀ x ∈ L, x.1 ≠ t) : hwL L t = none := by
  induction L with
  | nil => rfl
  | cons a l ih =>
    obtain ⟨k, v⟩ := a
    simp only [hwL]
    have : (k == t) = false := by have := h (k, v) (by simp); simpa using this
    rw [this]
    exact ih (fun x hx => h x (by simp [hx]))

theorem ent_lists {L1 L : List (Nat × AV)} {r : Nat → AV} {H1 H : List (Nat × Option Blk)} {hr : Hp} {n1 N nt lo : Nat}
    (hN : (∀ t, nlt N (r t)) ∧ (∀ n B, hr n = some B → n < N ∧ nlt N B.v) ∧ lo ≤ N)
    (h1 : entOk L1 N L) (h2 : keysIn L1 L = true) (h3 : hentOk H1 N H) (h4 : hkeysIn H1 H N = true) :
    Ent ⟨L1, r, H1, hr, n1, nt, lo⟩ ⟨L, r, H, hr, N, nt, lo⟩ where
  look := fun t => by
    simp only [St.look]
    cases hv : lookL L t with
    | some v =>
      rcases entOk_look h1 hv with e | ⟨e, hn⟩
      · exact .inl e
      · right; rw [e]; exact ⟨rfl, hn⟩
    | none =>
      right
      have : lookL L1 t = none := by
        refine lookL_none_of fun x hx e => ?_
        unfold keysIn at h2
        rw [List.all_eq_true] at h2
        have := h2 x hx
        rw [e, hv] at this
        simp at this
      rw [this]
      exact ⟨rfl, hN.1 t⟩
  hp := fun n B hB => by
    simp only [St.hp] at hB ⊢
    cases hv : hwL H n with
    | some b =>
      rw [hv] at hB
      simp only at hB
      subst hB
      obtain ⟨e1, e2, e3⟩ := hentOk_look h3 hv
      rw [e1]
      exact ⟨rfl, e2, e3⟩
    | none =>
      rw [hv] at hB
      simp only at hB
      obtain ⟨k1, k2⟩ := hN.2.1 n B hB
      have : hwL H1 n = none := by
        refine hwL_none_of fun x hx e => ?_
        unfold hkeysIn at h4
        rw [List.all_eq_true] at h4
        have := h4 x hx
        rw [e, hv] at this
        simp at this
        omega
      rw [this]
      exact ⟨hB, k1, k2⟩
  nt := rfl
  lo := rfl
  le := hN.2.2

end Go.Rf
