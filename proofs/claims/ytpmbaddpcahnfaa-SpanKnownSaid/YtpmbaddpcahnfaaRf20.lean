/- A contract of a function at some values of its first two arguments. -/
import Derived.Test.YtpmbaddpcahnfaaRf19
set_option linter.unusedVariables false
set_option linter.unusedSimpArgs false
namespace Go.Rf

def con4c {α β γ δ : Type} (p : α → β → Bool) (ca : Cod α) (cb : Cod β) (cc : Cod γ) (cd : Cod δ) (g : α → β → γ → δ → AV) : Con
  | [a, b, c, d] => match ca.dec a, cb.dec b, cc.dec c, cd.dec d with
    | some x, some y, some z, some t => if p x y then some (g x y z t, .tt) else none
    | _, _, _, _ => none
  | _ => none

theorem con4c_ok {P : Program} {Γ : Tab} (hΓ : TabOk P Γ) {Λ : FuncId → Hook} (n : Nat) {f : FuncId} {α β γ δ : Type} {p : α → β → Bool} {ca : Cod α} {cb : Cod β} {cc : Cod γ} {cd : Cod δ} {g : α → β → γ → δ → AV} (hg : ∀ x y z t, pfT (g x y z t) = true) (h : ∀ x y z t, p x y = true → Ev P Γ Λ n f [ca.enc x, cb.enc y, cc.enc z, cd.enc t] (g x y z t)) : ConOk P f (con4c p ca cb cc cd g) := by
  intro args r ob hK hob ha
  unfold con4c at hK
  split at hK <;> try (simp at hK; done)
  split at hK <;> try (simp at hK; done)
  split at hK <;> simp at hK
  rename_i a b c d x y z t e1 e2 e3 e4 hp
  obtain ⟨rfl, rfl⟩ := hK
  refine ⟨hg _ _ _ _, fun w => ?_⟩
  have := (h x y z t hp).calls hΓ (by simp [ca.pf, cb.pf, cc.pf, cd.pf]) w
  simp only [List.map_cons, List.map_nil, ← ca.val e1, ← cb.val e2, ← cc.val e3, ← cd.val e4] at this ⊢
  exact this

/-- As con4c; the first two arguments as they are written. -/
theorem con4l_ok {P : Program} {Γ : Tab} (hΓ : TabOk P Γ) {Λ : FuncId → Hook} (n : Nat) {f : FuncId} {α β γ δ : Type} {p : α → β → Bool} {ca : Cod α} {cb : Cod β} {cc : Cod γ} {cd : Cod δ} {g : α → β → γ → δ → AV} (lu lv : AV) (hu : pf lu = true) (hv : pf lv = true) (hg : ∀ x y z t, pfT (g x y z t) = true)
    (hl : ∀ x y, p x y = true → val E0 (ca.enc x) = val E0 lu ∧ val E0 (cb.enc y) = val E0 lv)
    (h : ∀ x y z t, p x y = true → Ev P Γ Λ n f [lu, lv, cc.enc z, cd.enc t] (g x y z t)) : ConOk P f (con4c p ca cb cc cd g) := by
  intro args r ob hK hob ha
  unfold con4c at hK
  split at hK <;> try (simp at hK; done)
  split at hK <;> try (simp at hK; done)
  split at hK <;> simp at hK
  rename_i a b c d x y z t e1 e2 e3 e4 hp
  obtain ⟨rfl, rfl⟩ := hK
  refine ⟨hg _ _ _ _, fun w => ?_⟩
  have := (h x y z t hp).calls hΓ (by simp [hu, hv, cc.pf, cd.pf]) w
  obtain ⟨q1, q2⟩ := hl x y hp
  simp only [List.map_cons, List.map_nil, ← q1, ← q2, ← ca.val e1, ← cb.val e2, ← cc.val e3, ← cd.val e4] at this ⊢
  exact this

/-- Numbers as they are written: of closed data. -/
def lz : AV → AV
  | .int k x => .lit k (toZ k (x []))
  | .bool b => .blit (b [])
  | .cons h t => .cons (lz h) (lz t)
  | .agg fs => .agg (lz fs)
  | v => v
theorem lz_cells (E : Env) : ∀ v : AV, cells E [] (lz v) = cells E [] v := by
  intro v
  induction v with
  | cons h t ih1 ih2 => simp only [lz, cells, ih1, ih2]
  | agg fs ih => simp only [lz, cells, ih]
  | _ => rfl
theorem lz_val (E : Env) (v : AV) : val E (lz v) = val E v := by
  have h := lz_cells E v
  cases v with
  | agg fs => simp only [lz, val]; simp only [lz, cells] at h; rw [h]
  | cons a b => exact congrArg (fun l => l.headD undef) h
  | _ => rfl
theorem lz_pf : ∀ v : AV, pf v = true → pf (lz v) = true := by
  intro v
  induction v with
  | cons h t ih1 ih2 => intro hp; simp only [pf, Bool.and_eq_true] at hp; simp only [lz, pf, ih1 hp.1, ih2 hp.2]; rfl
  | agg fs ih => intro hp; exact ih hp
  | _ => intro hp; first | rfl | exact hp

/-- A function that is called with plain values: what the evaluator makes of it. -/
def selfCon (P : Program) (Γ : Tab) (n : Nat) (f : FuncId) : Con := fun args => match evalFlat P Γ noHooks n f (args.map lz) with
  | some (r, ob) => if pfT r then some (r, ob) else none
  | none => none
theorem selfCon_ok {P : Program} {Γ : Tab} (hΓ : TabOk P Γ) (n : Nat) (f : FuncId) : ConOk P f (selfCon P Γ n f) := by
  intro args r ob h hob ha
  unfold selfCon at h
  split at h <;> try (simp at h; done)
  rename_i r' ob' he
  split at h <;> simp at h
  rename_i hp
  obtain ⟨rfl, rfl⟩ := h
  obtain ⟨_, h6⟩ := evalFlat_calls hΓ he hob (fun v hv => by
    obtain ⟨u, hu, rfl⟩ := List.mem_map.1 hv
    exact lz_pf u (ha u hu)) hp
  refine ⟨hp, fun w => ?_⟩
  have e : (args.map lz).map (val E0) = args.map (val E0) := by
    rw [List.map_map]
    exact List.map_congr_left fun v _ => lz_val E0 v
  rw [← e]
  exact h6 w
/-- So of several functions. -/
def selfs (P : Program) (Γ : Tab) (n : Nat) : List FuncId → List (FuncId × Con) → List (FuncId × Con)
  | [], l => l
  | f :: fs, l => (f, selfCon P Γ n f) :: selfs P Γ n fs l
theorem selfs_ok {P : Program} {Γ : Tab} (hΓ : TabOk P Γ) (n : Nat) {l : List (FuncId × Con)} (hl : TabOk P (tabOf l)) : ∀ fs, TabOk P (tabOf (selfs P Γ n fs l))
  | [] => hl
  | f :: fs => tabOf_cons (selfs_ok hΓ n hl fs) (selfCon_ok hΓ n f)
end Go.Rf
