/- A contract of a function at some values of its first two arguments. -/
import Derived.Test.YtigiedlngfkfbaaGreatRf19
set_option linter.unusedVariables false
set_option linter.unusedSimpArgs false
namespace Go.Rf

def con4c {α β γ δ : Type} (p : α → β → Bool) (ca : Cod α) (cb : Cod β) (cc : Cod γ) (cd : Cod δ) (g : α → β → γ → δ → AV) : Con
  | [a, b, c, d] => match ca.dec a, cb.dec b, cc.dec c, cd.dec d with
    | some x, some y, some z, some t => if p x y then some (g x y z t, .tt) else none
    | _, _, _, _ => none
  | _ => none

theorem con4c_ok {P : Program} {Γ : Tab} (hΓ : TabOk P Γ) {Λ : FuncId → Hook} (n : Nat) {f : FuncId} {α β γ δ : Type} {p : α → β → Bool} {ca : Cod α} {cb : Cod β} {cc : Cod γ} {cd : Cod δ} {g : α → β → γ → δ → AV} (hg : ∀ x y z t, pfT (g x y z t) = true) (h : ∀ x y z t, p x y = true → Ev P Γ Λ n f [ca.enc x, cb.enc y, cc.enc z, cd.enc t] (g x y z t)) : ConOk P f (con4c p ca cb cc cd g) := by
  intro args r ob hK hob ha
  unfold con4c at hK
  split at hK <;> try (simp at hK; done)
  split at hK <;> try (simp at hK; done)
  split at hK <;> simp at hK
  rename_i a b c d x y z t e1 e2 e3 e4 hp
  obtain ⟨rfl, rfl⟩ := hK
  refine ⟨hg _ _ _ _, fun w => ?_⟩
  have := (h x y z t hp).calls hΓ (by simp [ca.pf, cb.pf, cc.pf, cd.pf]) w
  simp only [List.map_cons, List.map_nil, ← ca.val e1, ← cb.val e2, ← cc.val e3, ← cd.val e4] at this ⊢
  exact this

/-- As con4c; the first two arguments as they are written. -/
theorem con4l_ok {P : Program} {Γ : Tab} (hΓ : TabOk P Γ) {Λ : FuncId → Hook} (n : Nat) {f : FuncId} {α β γ δ : Type} {p : α → β → Bool} {ca : Cod α} {cb : Cod β} {cc : Cod γ} {cd : Cod δ} {g : α → β → γ → δ → AV} (lu lv : AV) (hu : pf lu = true) (hv : pf lv = true) (hg : ∀ x y z t, pfT (g x y z t) = true)
    (hl : ∀ x y, p x y = true → val E0 (ca.enc x) = val E0 lu ∧ val E0 (cb.enc y) = val E0 lv)
    (h : ∀ x y z t, p x y = true → Ev P Γ Λ n f [lu, lv, cc.enc z, cd.enc t] (g x y z t)) : ConOk P f (con4c p ca cb cc cd g) := by
  intro args r ob hK hob ha
  unfold con4c at hK
  split at hK <;> try (simp at hK; done)
  split at hK <;> try (simp at hK; done)
  split at hK <;> simp at hK
  rename_i a b c d x y z t e1 e2 e3 e4 hp
  obtain ⟨rfl, rfl⟩ := hK
  refine ⟨hg _ _ _ _, fun w => ?_⟩
  have := (h x y z t hp).calls hΓ (by simp [hu, hv, cc.pf, cd.pf]) w
  obtain ⟨q1, q2⟩ := hl x y hp
  simp only [List.map_cons, List.map_nil, ← q1, ← q2, ← ca.val e1, ← cb.val e2, ← cc.val e3, ← cd.val e4] at this ⊢
  exact this
end Go.Rf
