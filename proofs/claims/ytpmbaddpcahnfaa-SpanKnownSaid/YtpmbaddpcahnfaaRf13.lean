/- Functions entered in place; what a call answers; loops. -/
import Derived.Test.YtpmbaddpcahnfaaRf12
set_option linter.unusedVariables false
set_option linter.unusedSimpArgs false
namespace Go.Rf

/-- The one or the other, leaf by leaf. -/
def mergeB (b : Bool) : AV → AV → Option AV
  | .lit k n, u => match u with
    | .lit k' m => if k == k' && n == m then some (.lit k n) else match toBV k (.lit k n), toBV k u with
      | some x, some y => some (.int k fun ix => bif b then x ix else y ix)
      | _, _ => none
    | u => match toBV k (.lit k n), toBV k u with
      | some x, some y => some (.int k fun ix => bif b then x ix else y ix)
      | _, _ => none
  | .int k x, u => match toBV k u with
    | some y => some (.int k fun ix => bif b then x ix else y ix)
    | none => none
  | .blit c, u => match u with
    | .blit d => if c == d then some (.blit c) else some (.bool fun _ => bif b then c else d)
    | .bool g => some (.bool fun ix => bif b then c else g ix)
    | _ => none
  | .bool f, u => match toBl u with
    | some g => some (.bool fun ix => bif b then f ix else g ix)
    | none => none
  | .nil, .nil => some .nil
  | .cons h t, .cons h' t' => match mergeB b h h', mergeB b t t' with
    | some x, some y => some (.cons x y)
    | _, _ => none
  | .agg fs, .agg fs' => (mergeB b fs fs').map .agg
  | .arr n x, .arr n' y => if n == n' then (mergeB b x y).map (.arr n) else none
  | _, _ => none

theorem mergeB_cells (b : Bool) (E : Env) : ∀ (x y m : AV), mergeB b x y = some m → pf m = true ∧ ∀ ix, cells E ix m = if b = true then cells E ix x else cells E ix y := by
  intro x
  induction x with
  | lit k n =>
    intro y m h
    have gen : ∀ u, (match toBV k (.lit k n), toBV k u with
      | some x, some y => some (AV.int k fun ix => bif b then x ix else y ix)
      | _, _ => none) = some m → pf m = true ∧ ∀ ix, cells E ix m = if b = true then cells E ix (.lit k n) else cells E ix u := by
      intro u h
      split at h <;> simp at h
      rename_i x y hx hy
      subst h
      refine ⟨rfl, fun ix => ?_⟩
      rw [toBV_cells hx, toBV_cells hy]
      cases b <;> rfl
    simp only [mergeB] at h
    split at h
    · split at h
      · rename_i hc
        simp at h hc
        subst h
        obtain ⟨rfl, rfl⟩ := hc
        exact ⟨rfl, fun ix => by cases b <;> rfl⟩
      · exact gen _ h
    · exact gen _ h
  | int k x =>
    intro y m h
    simp only [mergeB] at h
    split at h <;> simp at h
    rename_i z hz
    subst h
    refine ⟨rfl, fun ix => ?_⟩
    rw [toBV_cells hz]
    cases b <;> rfl
  | blit c =>
    intro y m h
    simp only [mergeB] at h
    split at h <;> try (simp at h; done)
    · split at h <;> simp at h <;> subst h
      · rename_i hc
        simp at hc
        subst hc
        exact ⟨rfl, fun ix => by cases b <;> rfl⟩
      · exact ⟨rfl, fun ix => by cases b <;> rfl⟩
    · simp at h; subst h
      exact ⟨rfl, fun ix => by cases b <;> rfl⟩
  | bool f =>
    intro y m h
    simp only [mergeB] at h
    split at h <;> simp at h
    rename_i g hg
    subst h
    refine ⟨rfl, fun ix => ?_⟩
    rw [toBl_cells hg]
    cases b <;> rfl
  | nil => intro y m h; cases y <;> simp [mergeB] at h; subst h; exact ⟨rfl, fun ix => by cases b <;> rfl⟩
  | cons x1 x2 ih1 ih2 =>
    intro y m h
    cases y <;> simp [mergeB] at h
    split at h <;> simp at h
    rename_i m1 m2 h1 h2
    subst h
    obtain ⟨a1, a2⟩ := ih1 _ _ h1
    obtain ⟨b1, b2⟩ := ih2 _ _ h2
    refine ⟨by simp [pf, a1, b1], fun ix => ?_⟩
    simp only [cells, a2, b2]
    cases b <;> rfl
  | agg fs ih =>
    intro y m h
    cases y <;> simp [mergeB] at h
    obtain ⟨m1, h1, rfl⟩ := h
    obtain ⟨a1, a2⟩ := ih _ _ h1
    exact ⟨a1, fun ix => by simp only [cells, a2]⟩
  | arr n x ih =>
    intro y m h
    cases y <;> simp [mergeB] at h
    obtain ⟨rfl, m1, h1, rfl⟩ := h
    obtain ⟨a1, a2⟩ := ih _ _ h1
    refine ⟨a1, fun ix => ?_⟩
    simp only [cells, a2]
    cases b <;> rfl
  | _ => intro y m h; cases y <;> simp [mergeB] at h

theorem mergeB_big {b : Bool} : ∀ {x y m : AV}, mergeB b x y = some m → big m = big x ∧ big m = big y
  | .lit k n, u, m, h => by
    have gen : ∀ (k : IntKind) (p : Option (Ix → BitVec k.bits)) (u m : AV), (match p, toBV k u with
      | some x, some y => some (AV.int k fun ix => bif b then x ix else y ix)
      | _, _ => none) = some m → big m = false ∧ big m = big u := by
      intro k p u m h
      split at h <;> simp at h
      rename_i x y hy
      subst h
      cases u <;> simp [toBV] at hy <;> exact ⟨rfl, rfl⟩
    simp only [mergeB] at h
    split at h
    · split at h
      · simp at h; subst h; exact ⟨rfl, rfl⟩
      · exact gen _ _ _ _ h
    · exact gen _ _ _ _ h
  | .int k x, u, m, h => by
    simp only [mergeB] at h
    split at h <;> simp at h
    rename_i y hy
    subst h
    cases u <;> simp [toBV] at hy <;> exact ⟨rfl, rfl⟩
  | .blit c, u, m, h => by
    simp only [mergeB] at h
    split at h <;> try (simp at h; done)
    · split at h <;> simp at h <;> subst h <;> exact ⟨rfl, rfl⟩
    · simp at h; subst h; exact ⟨rfl, rfl⟩
  | .bool f, u, m, h => by
    simp only [mergeB] at h
    split at h <;> simp at h
    rename_i y hy
    subst h
    cases u <;> simp [toBl] at hy <;> exact ⟨rfl, rfl⟩
  | .nil, u, m, h => by cases u <;> simp [mergeB] at h; subst h; exact ⟨rfl, rfl⟩
  | .cons _ _, u, m, h => by
    cases u <;> simp [mergeB] at h
    split at h <;> simp at h
    subst h; exact ⟨rfl, rfl⟩
  | .agg _, u, m, h => by
    cases u <;> simp [mergeB] at h
    obtain ⟨_, _, rfl⟩ := h; exact ⟨rfl, rfl⟩
  | .arr _ _, u, m, h => by
    cases u <;> simp [mergeB] at h
    obtain ⟨_, _, _, rfl⟩ := h; exact ⟨rfl, rfl⟩
  | .un, u, m, h => by cases u <;> simp [mergeB] at h
  | .tup _, u, m, h => by cases u <;> simp [mergeB] at h
  | .ptr _ _, u, m, h => by cases u <;> simp [mergeB] at h
  | .fn _ _, u, m, h => by cases u <;> simp [mergeB] at h
  | .gd _ _, u, m, h => by cases u <;> simp [mergeB] at h
  | .slc _ _ _ _, u, m, h => by cases u <;> simp [mergeB] at h

theorem mergeB_val {b : Bool} {x y m : AV} (h : mergeB b x y = some m) (E : Env) : val E m = if b = true then val E x else val E y := by
  obtain ⟨_, h2⟩ := mergeB_cells b E x y m h
  obtain ⟨h3, h4⟩ := mergeB_big h
  rw [val_by_cells E m, val_by_cells E x, val_by_cells E y, h2 [], ← h3, ← h4]
  cases b <;> rfl

def mergeL (b : Bool) : AV → AV → Option AV
  | .nil, .nil => some .nil
  | .cons h t, .cons h' t' => match mergeB b h h', mergeL b t t' with
    | some x, some y => some (.cons x y)
    | _, _ => none
  | _, _ => none

def mergeT (b : Bool) : AV → AV → Option AV
  | .tup fs, .tup fs' => (mergeL b fs fs').map .tup
  | x, y => mergeB b x y

theorem mergeL_vals {b : Bool} (E : Env) : ∀ {x y m : AV}, mergeL b x y = some m → pfL m = true ∧ vals E m = if b = true then vals E x else vals E y := by
  intro x
  induction x with
  | nil => intro y m h; cases y <;> simp [mergeL] at h; subst h; exact ⟨rfl, by cases b <;> rfl⟩
  | cons x1 x2 _ ih =>
    intro y m h
    cases y <;> simp [mergeL] at h
    split at h <;> simp at h
    rename_i m1 m2 h1 h2
    subst h
    obtain ⟨a1, a2⟩ := ih h2
    refine ⟨by simp [pfL, (mergeB_cells b E _ _ _ h1).1, a1], ?_⟩
    simp only [vals, mergeB_val h1, a2]
    cases b <;> rfl
  | _ => intro y m h; cases y <;> simp [mergeL] at h

theorem pf_not_tup {v : AV} (h : pf v = true) : pfT v = true ∧ ∀ E, valT E v = val E v := by
  cases v <;> first
    | (simp [pf] at h; done)
    | exact ⟨h, fun _ => rfl⟩

theorem mergeT_val {b : Bool} {x y m : AV} (h : mergeT b x y = some m) (E : Env) : pfT m = true ∧ valT E m = if b = true then valT E x else valT E y := by
  unfold mergeT at h
  split at h
  · simp only [Option.map_eq_some_iff] at h
    obtain ⟨m1, h1, rfl⟩ := h
    obtain ⟨a1, a2⟩ := mergeL_vals E h1
    refine ⟨a1, ?_⟩
    simp only [valT, a2]
    cases b <;> rfl
  · rename_i hnt
    have h1 := (mergeB_cells b E _ _ _ h).1
    obtain ⟨h2, h3⟩ := pf_not_tup h1
    refine ⟨h2, ?_⟩
    rw [h3, mergeB_val h]
    have nt : ∀ v : AV, (∀ fs, v ≠ .tup fs) → valT E v = val E v := by intro v hv; cases v <;> first | rfl | exact absurd rfl (hv _)
    have hx : ∀ fs, x ≠ .tup fs := by
      intro fs e; subst e
      cases y <;> simp [mergeB] at h
    have hy : ∀ fs, y ≠ .tup fs := by
      intro fs e; subst e
      cases x <;> simp [mergeB, toBV, toBl] at h
    rw [nt x hx, nt y hy]

def dropAll (l : List (Nat × Option Blk)) : List (Nat × Option Blk) := l.map fun x => (x.1, none)

def flat : Res → Option (AV × List (Nat × Option Blk))
  | .leaf v hw => some (v, hw)
  | .br b x y => match flat x, flat y with
    | some (u, hw), some (v, hw') => match mergeT b u v with
      | some m => some (m, dropAll (hw ++ hw'))
      | none => none
    | _, _ => none

theorem hwL_dropAll {l : List (Nat × Option Blk)} {n : Nat} : hwL (dropAll l) n = (hwL l n).map fun _ => none := by
  induction l with
  | nil => rfl
  | cons a l ih =>
    obtain ⟨k, v⟩ := a
    simp only [dropAll, List.map_cons, hwL] at ih ⊢
    split
    · rfl
    · exact ih

theorem flat_spec (E : Env) (hp : Hp) : ∀ {r : Res} {v : AV} {hw : List (Nat × Option Blk)}, flat r = some (v, hw) → (r.sel.1 = v ∨ pfT v = true) ∧ valT E v = valT E r.sel.1 ∧ (∀ n B, updH hp hw n = some B → updH hp r.sel.2 n = some B)
  | .leaf u hw', v, hw, h => by
    simp [flat] at h
    obtain ⟨rfl, rfl⟩ := h
    exact ⟨.inl rfl, rfl, fun _ _ h => h⟩
  | .br b x y, v, hw, h => by
    simp only [flat] at h
    split at h <;> try (simp at h; done)
    rename_i u hw1 u' hw2 h1 h2
    split at h <;> simp at h
    rename_i m hm
    obtain ⟨rfl, rfl⟩ := h
    obtain ⟨a1, a2⟩ := mergeT_val hm E
    obtain ⟨_, b2, b3⟩ := flat_spec E hp h1
    obtain ⟨_, c2, c3⟩ := flat_spec E hp h2
    have key : ∀ n B, updH hp (dropAll (hw1 ++ hw2)) n = some B → updH hp hw1 n = some B ∧ updH hp hw2 n = some B := by
      intro n B hB
      simp only [updH, hwL_dropAll, hwL_append] at hB ⊢
      cases e1 : hwL hw1 n with
      | some z => simp [e1] at hB
      | none =>
        simp only [e1] at hB ⊢
        cases e2 : hwL hw2 n with
        | some z => simp [e2] at hB
        | none => simp only [e2] at hB ⊢; exact ⟨hB, hB⟩
    refine ⟨.inr a1, ?_, ?_⟩
    · rw [a2, b2, c2]
      cases b <;> simp [Res.sel]
    · intro n B hB
      obtain ⟨k1, k2⟩ := key n B hB
      cases b
      · simp only [Res.sel]; exact c3 n B k2
      · simp only [Res.sel]; exact b3 n B k1

/-- Blocks of which the one or the other is so. -/
def mrgB (b : Bool) : Option Blk → Option Blk → Option Blk
  | some X, some Y => if X.T == Y.T then match mergeB b X.v Y.v with
    | some m => some ⟨X.T, m⟩
    | none => none
    else none
  | _, _ => none
def mrgAll (b : Bool) (hp : Hp) (hw hw' : List (Nat × Option Blk)) : List Nat → List (Nat × Option Blk)
  | [] => []
  | n :: l => (n, mrgB b (updH hp hw n) (updH hp hw' n)) :: mrgAll b hp hw hw' l

def flatH (hp : Hp) : Res → Option (AV × List (Nat × Option Blk))
  | .leaf v hw => some (v, hw)
  | .br b x y => match flatH hp x, flatH hp y with
    | some (u, hw), some (v, hw') => match mergeT b u v with
      | some m => some (m, mrgAll b hp hw hw' ((hw ++ hw').map (·.1)))
      | none => none
    | _, _ => none

def Beq (E : Env) (B B' : Blk) : Prop := B.T = B'.T ∧ (ok E B'.v → ok E B.v) ∧ cells E [] B.v = cells E [] B'.v

theorem hwL_mrgAll {b : Bool} {hp : Hp} {hw hw' : List (Nat × Option Blk)} {n : Nat} : ∀ {l : List Nat}, hwL (mrgAll b hp hw hw' l) n = if n ∈ l then some (mrgB b (updH hp hw n) (updH hp hw' n)) else none := by
  intro l
  induction l with
  | nil => simp [mrgAll, hwL]
  | cons k l ih =>
    simp only [mrgAll, hwL]
    by_cases h : k = n
    · subst h; simp
    · have h' : ¬ n = k := fun e => h e.symm
      simp [h, h', ih]

theorem hwL_none_mem {n : Nat} : ∀ {l : List (Nat × Option Blk)}, n ∉ l.map (·.1) → hwL l n = none := by
  intro l
  induction l with
  | nil => intro _; rfl
  | cons a l ih =>
    obtain ⟨k, v⟩ := a
    intro h
    simp only [List.map_cons, List.mem_cons, not_or] at h
    have h' : ¬ k = n := fun e => h.1 e.symm
    simp [hwL, h', ih h.2]

theorem mrgB_eq {b : Bool} {x y : Option Blk} {B : Blk} (h : mrgB b x y = some B) (E : Env) : ∃ X Y, x = some X ∧ y = some Y ∧ Beq E B (if b = true then X else Y) := by
  unfold mrgB at h
  split at h <;> try (simp at h; done)
  rename_i X Y
  split at h <;> try (simp at h; done)
  rename_i hT
  split at h <;> simp at h
  rename_i m hm
  subst h
  obtain ⟨a1, a2⟩ := mergeB_cells b E _ _ _ hm
  refine ⟨X, Y, rfl, rfl, ?_⟩
  simp at hT
  have h2 := a2 []
  cases b with
  | true => exact ⟨rfl, fun _ => ok_of_pf E _ a1, h2⟩
  | false => exact ⟨hT, fun _ => ok_of_pf E _ a1, h2⟩

theorem flatH_spec (E : Env) (hp : Hp) : ∀ {r : Res} {v : AV} {hw : List (Nat × Option Blk)}, flatH hp r = some (v, hw) → (r.sel.1 = v ∨ pfT v = true) ∧ valT E v = valT E r.sel.1 ∧ (∀ n B, updH hp hw n = some B → ∃ B', updH hp r.sel.2 n = some B' ∧ Beq E B B')
  | .leaf u hw', v, hw, h => by
    simp [flatH] at h
    obtain ⟨rfl, rfl⟩ := h
    exact ⟨.inl rfl, rfl, fun _ B h => ⟨B, h, rfl, id, rfl⟩⟩
  | .br b x y, v, hw, h => by
    simp only [flatH] at h
    split at h <;> try (simp at h; done)
    rename_i u hw1 u' hw2 h1 h2
    split at h <;> simp at h
    rename_i m hm
    obtain ⟨rfl, rfl⟩ := h
    obtain ⟨a1, a2⟩ := mergeT_val hm E
    obtain ⟨_, b2, b3⟩ := flatH_spec E hp h1
    obtain ⟨_, c2, c3⟩ := flatH_spec E hp h2
    refine ⟨.inr a1, ?_, ?_⟩
    · rw [a2, b2, c2]
      cases b <;> simp [Res.sel]
    · intro n B hB
      have key : (∃ X, updH hp hw1 n = some X ∧ (b = true → Beq E B X)) ∧ (∃ Y, updH hp hw2 n = some Y ∧ (b = false → Beq E B Y)) := by
        by_cases hm : n ∈ (hw1 ++ hw2).map (·.1)
        · have e : updH hp (mrgAll b hp hw1 hw2 ((hw1 ++ hw2).map (·.1))) n = mrgB b (updH hp hw1 n) (updH hp hw2 n) := by
            unfold updH
            rw [hwL_mrgAll, if_pos hm]
            rfl
          have hB' : updH hp (mrgAll b hp hw1 hw2 ((hw1 ++ hw2).map (·.1))) n = some B := by simpa using hB
          rw [e] at hB'
          obtain ⟨X, Y, e1, e2, e3⟩ := mrgB_eq hB' E
          refine ⟨⟨X, e1, fun hb => ?_⟩, ⟨Y, e2, fun hb => ?_⟩⟩
          · subst hb; exact e3
          · subst hb; exact e3
        · have e : updH hp (mrgAll b hp hw1 hw2 ((hw1 ++ hw2).map (·.1))) n = hp n := by
            unfold updH
            rw [hwL_mrgAll, if_neg hm]
          have hB' : updH hp (mrgAll b hp hw1 hw2 ((hw1 ++ hw2).map (·.1))) n = some B := by simpa using hB
          rw [e] at hB'
          simp only [List.map_append, List.mem_append, not_or] at hm
          have e1 : updH hp hw1 n = hp n := by unfold updH; rw [hwL_none_mem hm.1]
          have e2 : updH hp hw2 n = hp n := by unfold updH; rw [hwL_none_mem hm.2]
          exact ⟨⟨B, by rw [e1, hB'], fun _ => ⟨rfl, id, rfl⟩⟩, ⟨B, by rw [e2, hB'], fun _ => ⟨rfl, id, rfl⟩⟩⟩
      obtain ⟨⟨X, x1, x2⟩, ⟨Y, y1, y2⟩⟩ := key
      cases b
      · simp only [Res.sel]
        obtain ⟨B', q1, q2⟩ := c3 n Y y1
        obtain ⟨p1, p2, p3⟩ := y2 rfl
        exact ⟨B', q1, p1.trans q2.1, fun h => p2 (q2.2.1 h), p3.trans q2.2.2⟩
      · simp only [Res.sel]
        obtain ⟨B', q1, q2⟩ := b3 n X x1
        obtain ⟨p1, p2, p3⟩ := x2 rfl
        exact ⟨B', q1, p1.trans q2.1, fun h => p2 (q2.2.1 h), p3.trans q2.2.2⟩

/-- Functions that are entered in place, so deep. -/
def inlF (P : Program) (Γ : Tab) (Λ : FuncId → Hook) : Nat → Inl
  | 0 => fun _ _ _ _ => none
  | n + 1 => fun f args hp next => match evalFn ⟨P, Γ, inlF P Γ Λ n⟩ Λ f args hp next with
    | some (r, ob) => match flatH hp r with
      | some (v, hw) => if pfT v then some (v, hw, ob) else none
      | none => none
    | none => none

theorem inlF_ok {P : Program} {Γ : Tab} {Λ : FuncId → Hook} (hΓ : TabOk P Γ) : ∀ n, InlOk P (inlF P Γ Λ n)
  | 0 => fun f args hp next r hw ob h => by simp [inlF] at h
  | n + 1 => by
    intro f args hp next r hw ob h hob
    simp only [inlF] at h
    split at h <;> try (simp at h; done)
    rename_i r0 ob0 h1
    split at h <;> try (simp at h; done)
    rename_i v hw' h2
    split at h <;> simp at h
    rename_i hpf
    obtain ⟨rfl, rfl, rfl⟩ := h
    refine ⟨(pfT_spec hpf E0).2.2, ?_⟩
    intro E w hargs hh hinj hbd hnext
    refine (evalFn_calls hΓ (inlF_ok hΓ n) h1 hob hargs hh hinj hbd hnext).mono ?_
    rintro e w' ⟨E', k1, rfl, k3, k4⟩
    obtain ⟨_, f2, _⟩ := flatH_spec E' hp h2
    obtain ⟨_, _, f3⟩ := flatH_spec E hp h2
    refine ⟨_, rfl, ?_, ⟨Sub.refl E, fun _ _ h => .inl h, k3.os, k3.tape, k3.output, k3.size, k3.keep⟩, ?_⟩
    · rw [← f2, (pfT_spec hpf E').2.1]
      exact TRel_pfT hpf E
    · intro m B hB
      obtain ⟨B', e1, e2, e3, e4⟩ := f3 m B hB
      obtain ⟨bl, q1, q2, q3⟩ := k4 m B' e1
      exact ⟨bl, q1, e3 q2, by rw [q3, e4, e2]⟩

/-- A call of a function whose arguments name nothing. -/
def evalTop (P : Program) (Γ : Tab) (Λ : FuncId → Hook) (n : Nat) (f : FuncId) (args : List AV) : Option (Res × Ob) :=
  evalFn ⟨P, Γ, inlF P Γ Λ n⟩ Λ f args (fun _ => none) 0

theorem evalTop_calls {P : Program} {Γ : Tab} {Λ : FuncId → Hook} (hΓ : TabOk P Γ) {n : Nat} {f : FuncId} {args : List AV} {r : Res} {ob : Ob}
    (h : evalTop P Γ Λ n f args = some (r, ob)) (hob : ob.holds) (hargs : ∀ v ∈ args, pf v = true) (hr : pfT r.sel.1 = true) (w : World) :
    Calls P f (args.map (val E0)).toArray w fun e w' => e = .returned (valT E0 r.sel.1) ∧ RowKit.Below w.heap.size w w' := by
  refine (evalFn_calls hΓ (inlF_ok hΓ n) h hob (E := E0) (w := w) (fun v hv => ok_of_pf E0 v (hargs v hv)) (fun n B hB => by simp at hB) (fun n m b h => by simp at h) (fun n b h => by simp at h) (fun _ _ => rfl)).mono ?_
  rintro e w' ⟨E', k1, rfl, k3, k4⟩
  exact ⟨by rw [(pfT_spec hr E').2.1], k3.below⟩

end Go.Rf
