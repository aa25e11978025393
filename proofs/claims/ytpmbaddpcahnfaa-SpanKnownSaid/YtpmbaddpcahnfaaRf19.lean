/- Loops that count up: where they stop. -/
import Derived.Test.YtpmbaddpcahnfaaRf18
set_option linter.unusedVariables false
set_option linter.unusedSimpArgs false
namespace Go.Rf

section
variable {σ : Type} {go : σ → Bool} {next : σ → σ}

/-- A loop over i that stops at the first bad i, or at n. -/
theorem runN_find (st : Nat → σ) (bad : Nat → Bool) (n : Nat) (hgo : ∀ i, i ≤ n → go (st i) = (decide (i < n) && !bad i))
    (hnext : ∀ i, i < n → bad i = false → next (st i) = st (i + 1)) :
    ∀ k i, i + k = n → (∃ j, i ≤ j ∧ j < n ∧ bad j = true ∧ runN go next k (st i) = st j) ∨ ((∀ j, i ≤ j → j < n → bad j = false) ∧ runN go next k (st i) = st n) := by
  intro k
  induction k with
  | zero =>
    intro i hi
    right
    refine ⟨fun j h1 h2 => by omega, ?_⟩
    have : i = n := by omega
    subst this; rfl
  | succ k ih =>
    intro i hi
    cases hb : bad i with
    | true =>
      left
      refine ⟨i, Nat.le_refl _, by omega, hb, ?_⟩
      rw [runN_stop (by rw [hgo i (by omega), hb]; simp)]
    | false =>
      have hg : go (st i) = true := by rw [hgo i (by omega), hb]; simp; omega
      rw [runN_go hg, hnext i (by omega) hb]
      rcases ih (i + 1) (by omega) with ⟨j, h1, h2, h3, h4⟩ | ⟨h1, h2⟩
      · left; exact ⟨j, by omega, h2, h3, h4⟩
      · right
        refine ⟨fun j a b => ?_, h2⟩
        by_cases e : j = i
        · rw [e]; exact hb
        · exact h1 j (by omega) b

/-- A loop over i that goes on to n. -/
theorem runN_count (st : Nat → σ) (n : Nat) (hgo : ∀ i, i ≤ n → go (st i) = decide (i < n)) (hnext : ∀ i, i < n → next (st i) = st (i + 1)) : runN go next n (st 0) = st n := by
  rcases runN_find (go := go) (next := next) st (fun _ => false) n (fun i hi => by rw [hgo i hi]; simp) (fun i hi _ => hnext i hi) n 0 (by omega) with ⟨j, _, _, h, _⟩ | ⟨_, h⟩
  · cases h
  · exact h
end

section
variable {σ : Type} {go : σ → Bool} {next : σ → σ} {inv : σ → Prop} {μ : σ → Nat}

theorem runN_ge (hn : ∀ s, inv s → go s = true → inv (next s) ∧ μ (next s) < μ s) : ∀ (k : Nat) (s : σ), inv s → μ s ≤ k → runN go next k s = runN go next (μ s) s := by
  intro k
  induction k with
  | zero => intro s hi hk; rw [Nat.le_zero.1 hk]
  | succ k ih =>
    intro s hi hk
    by_cases h : μ s ≤ k
    · rw [runN_more hn k s hi h, ih s hi h]
    · rw [show μ s = k + 1 by omega]

/-- As good_run; as many rounds as the measure says. -/
theorem good_mu {e : Nat} {step : σ → Rd σ} (hn : ∀ s, inv s → go s = true → inv (next s) ∧ μ (next s) < μ s)
    (h1 : ∀ s, inv s → go s = true → (step s).sel = .norm (next s)) (h2 : ∀ s, inv s → go s = false → (step s).sel = .exit e s) :
    ∀ s, inv s → Good inv μ (fun s => .exit e (runN go next (μ s) s)) s (step s).sel := by
  intro s hi
  cases hg : go s with
  | true =>
    rw [h1 s hi hg]
    obtain ⟨a, b⟩ := hn s hi hg
    refine ⟨a, b, ?_⟩
    have e1 : runN go next (μ (next s)) (next s) = runN go next (μ s) s := by
      rw [← runN_ge hn (μ s) (next s) a (by omega), runN_same hn hi (Nat.le_refl _) hg]
    simp only [Rd.sel, e1]
  | false =>
    rw [h2 s hi hg]
    show (Rd.sel _) = _
    simp only [Rd.sel, runN_stop hg]

theorem good_retmu {e : Nat} {step : σ → Rd σ} {out : σ → Bool} {rt : σ → σ} (hn : ∀ s, inv s → go s = true → inv (next s) ∧ μ (next s) < μ s)
    (h1 : ∀ s, inv s → go s = true → (step s).sel = .norm (next s))
    (h2 : ∀ s, inv s → go s = false → out s = true → (step s).sel = .ret (rt s))
    (h3 : ∀ s, inv s → go s = false → out s = false → (step s).sel = .exit e s) :
    ∀ s, inv s → Good inv μ (fun s => .br (out (runN go next (μ s) s)) (.ret (rt (runN go next (μ s) s))) (.exit e (runN go next (μ s) s))) s (step s).sel := by
  intro s hi
  cases hg : go s with
  | true =>
    rw [h1 s hi hg]
    obtain ⟨a, b⟩ := hn s hi hg
    refine ⟨a, b, ?_⟩
    have e1 : runN go next (μ (next s)) (next s) = runN go next (μ s) s := by
      rw [← runN_ge hn (μ s) (next s) a (by omega), runN_same hn hi (Nat.le_refl _) hg]
    simp only [e1]
  | false =>
    cases ho : out s with
    | true =>
      rw [h2 s hi hg ho]
      show (Rd.sel _) = _
      simp only [Rd.sel, runN_stop hg, ho, if_true]
    | false =>
      rw [h3 s hi hg ho]
      show (Rd.sel _) = _
      simp only [Rd.sel, runN_stop hg, ho, Bool.false_eq_true, if_false]
end

theorem ofNat_toNat {i : Nat} (h : i < 2 ^ 64) : (BitVec.ofNat 64 i).toNat = i := by simp; omega
theorem ofNat_succ (i : Nat) : BitVec.ofNat 64 i + 1#64 = BitVec.ofNat 64 (i + 1) := by
  rw [BitVec.ofNat_add]
theorem ixN_ofNat {i : Nat} (h : i < 2 ^ 63) : ixN (BitVec.ofNat 64 i) = i := by
  rw [ixN_nat (by rw [ofNat_toNat (by omega)]; exact h), ofNat_toNat (by omega)]
theorem ltB_ofNat {i n : Nat} (hi : i < 2 ^ 63) (hn : n < 2 ^ 63) : ltB .i64 (BitVec.ofNat 64 i) (BitVec.ofNat 64 n) = decide (i < n) := by
  rw [ltB_nat (by rw [ofNat_toNat (by omega)]; exact hi) (by rw [ofNat_toNat (by omega)]; exact hn), ofNat_toNat (by omega), ofNat_toNat (by omega)]

/-! ### What is owed, each with the tests that stand ahead of it -/
def Ob.gflat : List Bool → Ob → List (List Bool × Prop)
  | _, .tt => []
  | gs, .pr p => [(gs, p)]
  | gs, .two a b => a.gflat gs ++ b.gflat gs
  | gs, .imp b true a => a.gflat (b :: gs)
  | gs, .imp b false a => a.gflat ((!b) :: gs)

theorem Ob.gflat_holds : ∀ (o : Ob) (gs : List Bool), (∀ e ∈ o.gflat gs, (∀ g ∈ e.1, g = true) → e.2) → (∀ g ∈ gs, g = true) → o.holds
  | .tt, _, _, _ => trivial
  | .pr p, gs, h, hg => h (gs, p) (by simp [Ob.gflat]) hg
  | .two a b, gs, h, hg => ⟨gflat_holds a gs (fun e he => h e (by simp [Ob.gflat, he])) hg, gflat_holds b gs (fun e he => h e (by simp [Ob.gflat, he])) hg⟩
  | .imp b true a, gs, h, hg => fun eb => gflat_holds a (b :: gs) (fun e he => h e (by simp only [Ob.gflat]; exact he)) (by
      intro g hg'
      simp only [List.mem_cons] at hg'
      rcases hg' with rfl | hg'
      · exact eb
      · exact hg g hg')
  | .imp b false a, gs, h, hg => fun eb => gflat_holds a ((!b) :: gs) (fun e he => h e (by simp only [Ob.gflat]; exact he)) (by
      intro g hg'
      simp only [List.mem_cons] at hg'
      rcases hg' with rfl | hg'
      · rw [eb]; rfl
      · exact hg g hg')

def fg {α : Type} : Option (α × Ob) → Option (α × List (List Bool × Prop))
  | some (a, o) => some (a, o.gflat [])
  | none => none

theorem fg_ok {α : Type} {E : Option (α × Ob)} {R : α} {L : List (List Bool × Prop)} (h : fg E = some (R, L)) (hL : ∀ e ∈ L, (∀ g ∈ e.1, g = true) → e.2) : ∃ ob, E = some (R, ob) ∧ ob.holds := by
  unfold fg at h
  split at h <;> simp at h
  rename_i a o
  obtain ⟨rfl, rfl⟩ := h
  exact ⟨o, rfl, Ob.gflat_holds o [] hL (fun g hg => by simp at hg)⟩

theorem Ev.fg {P : Program} {Γ : Tab} {Λ : FuncId → Hook} {n : Nat} {f : FuncId} {args : List AV} {r : AV} {L : List (List Bool × Prop)} (h : Rf.fg (evalN P Γ Λ n f args) = some (r, L)) (hL : ∀ e ∈ L, (∀ g ∈ e.1, g = true) → e.2) : Ev P Γ Λ n f args r := by
  obtain ⟨ob, h1, h2⟩ := fg_ok h hL
  exact Ev.ob h1 h2
end Go.Rf
