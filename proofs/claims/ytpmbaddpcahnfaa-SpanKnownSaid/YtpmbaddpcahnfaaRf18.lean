/- Loops that go on while a test holds. -/
import Derived.Test.YtpmbaddpcahnfaaRf16
set_option linter.unusedVariables false
set_option linter.unusedSimpArgs false
namespace Go.Rf

def runN {σ : Type} (go : σ → Bool) (next : σ → σ) : Nat → σ → σ
  | 0, s => s
  | k + 1, s => bif go s then runN go next k (next s) else s

theorem runN_stop {σ : Type} {go : σ → Bool} {next : σ → σ} {s : σ} (h : go s = false) : ∀ k, runN go next k s = s
  | 0 => rfl
  | k + 1 => by simp [runN, h]

theorem runN_go {σ : Type} {go : σ → Bool} {next : σ → σ} {s : σ} (h : go s = true) (k : Nat) : runN go next (k + 1) s = runN go next k (next s) := by simp [runN, h]

section
variable {σ : Type} {go : σ → Bool} {next : σ → σ} {inv : σ → Prop} {μ : σ → Nat}

theorem runN_more (hn : ∀ s, inv s → go s = true → inv (next s) ∧ μ (next s) < μ s) : ∀ (k : Nat) (s : σ), inv s → μ s ≤ k → runN go next (k + 1) s = runN go next k s := by
  intro k
  induction k with
  | zero =>
    intro s hi h
    cases hg : go s with
    | false => rw [runN_stop hg, runN_stop hg]
    | true => have := (hn s hi hg).2; omega
  | succ k ih =>
    intro s hi h
    cases hg : go s with
    | false => rw [runN_stop hg, runN_stop hg]
    | true =>
      rw [runN_go hg, runN_go hg]
      obtain ⟨h1, h2⟩ := hn s hi hg
      exact ih _ h1 (by omega)

theorem runN_same (hn : ∀ s, inv s → go s = true → inv (next s) ∧ μ (next s) < μ s) {k : Nat} {s : σ} (hi : inv s) (hk : μ s ≤ k) (hg : go s = true) : runN go next k (next s) = runN go next k s := by
  obtain ⟨h1, h2⟩ := hn s hi hg
  rw [← runN_go hg]
  exact runN_more hn k s hi hk

theorem runN_inv (I : σ → Prop) (hn : ∀ s, I s → go s = true → I (next s)) : ∀ (k : Nat) (s : σ), I s → I (runN go next k s) := by
  intro k
  induction k with
  | zero => intro s h; exact h
  | succ k ih =>
    intro s h
    cases hg : go s with
    | false => rw [runN_stop hg]; exact h
    | true => rw [runN_go hg]; exact ih _ (hn s h hg)

theorem runN_done (hn : ∀ s, inv s → go s = true → inv (next s) ∧ μ (next s) < μ s) : ∀ (k : Nat) (s : σ), inv s → μ s ≤ k → go (runN go next k s) = false := by
  intro k
  induction k with
  | zero =>
    intro s hi h
    cases hg : go s with
    | false => exact hg
    | true => have := (hn s hi hg).2; omega
  | succ k ih =>
    intro s hi h
    cases hg : go s with
    | false => rw [runN_stop hg]; exact hg
    | true =>
      obtain ⟨h1, h2⟩ := hn s hi hg
      rw [runN_go hg]
      exact ih _ h1 (by omega)

/-- A loop whose rounds all go on to the next state, till the test fails. -/
theorem good_run {e : Nat} {k : Nat} {step : σ → Rd σ} (hn : ∀ s, inv s → go s = true → inv (next s) ∧ μ (next s) < μ s) (hk : ∀ s, inv s → μ s ≤ k)
    (h1 : ∀ s, inv s → go s = true → (step s).sel = .norm (next s)) (h2 : ∀ s, inv s → go s = false → (step s).sel = .exit e s) :
    ∀ s, inv s → Good inv μ (fun s => .exit e (runN go next k s)) s (step s).sel := by
  intro s hi
  cases hg : go s with
  | true =>
    rw [h1 s hi hg]
    obtain ⟨a, b⟩ := hn s hi hg
    refine ⟨a, b, ?_⟩
    simp only [Rd.sel, runN_same hn hi (hk s hi) hg]
  | false =>
    rw [h2 s hi hg]
    show (Rd.sel _) = _
    simp only [Rd.sel, runN_stop hg]

/-- A loop that may also return in the midst: at a state that 'out' tells. -/
theorem good_ret {e : Nat} {k : Nat} {step : σ → Rd σ} {out : σ → Bool} {rt : σ → σ} (hn : ∀ s, inv s → go s = true → inv (next s) ∧ μ (next s) < μ s) (hk : ∀ s, inv s → μ s ≤ k)
    (h1 : ∀ s, inv s → go s = true → (step s).sel = .norm (next s))
    (h2 : ∀ s, inv s → go s = false → out s = true → (step s).sel = .ret (rt s))
    (h3 : ∀ s, inv s → go s = false → out s = false → (step s).sel = .exit e s) :
    ∀ s, inv s → Good inv μ (fun s => .br (out (runN go next k s)) (.ret (rt (runN go next k s))) (.exit e (runN go next k s))) s (step s).sel := by
  intro s hi
  cases hg : go s with
  | true =>
    rw [h1 s hi hg]
    obtain ⟨a, b⟩ := hn s hi hg
    refine ⟨a, b, ?_⟩
    simp only [runN_same hn hi (hk s hi) hg]
  | false =>
    cases ho : out s with
    | true =>
      rw [h2 s hi hg ho]
      show (Rd.sel _) = _
      simp only [Rd.sel, runN_stop hg, ho, if_true]
    | false =>
      rw [h3 s hi hg ho]
      show (Rd.sel _) = _
      simp only [Rd.sel, runN_stop hg, ho, Bool.false_eq_true, if_false]
end

/-! ### Numbers that count -/

theorem ltB_nat {x y : BitVec 64} (hx : x.toNat < 2 ^ 63) (hy : y.toNat < 2 ^ 63) : ltB .i64 x y = decide (x.toNat < y.toNat) := by
  have h1 : x.toInt = x.toNat := BitVec.toInt_eq_toNat_of_lt (by omega)
  have h2 : y.toInt = y.toNat := BitVec.toInt_eq_toNat_of_lt (by omega)
  have e : ltB .i64 x y = x.slt y := rfl
  rw [e, BitVec.slt_eq_decide, h1, h2]
  simp

theorem succ_nat {x : BitVec 64} (h : x.toNat < 2 ^ 64 - 1) : (x + 1#64).toNat = x.toNat + 1 := by
  rw [BitVec.toNat_add]
  simp
  omega

/-- What an index is asked. -/
def ixOb (i : BitVec 64) (n : Nat) : Ob := (Ob.pr (0 ≤ toZ .i64 i ∧ toZ .i64 i < (n : Int))).two (Ob.pr ((toZ .i64 i).toNat < n))
def ixN (i : BitVec 64) : Nat := (toZ .i64 i).toNat

theorem toZ_nat {x : BitVec 64} (hx : x.toNat < 2 ^ 63) : toZ .i64 x = (x.toNat : Int) := by
  show x.toInt = _
  exact BitVec.toInt_eq_toNat_of_lt (by omega)

theorem ixN_nat {x : BitVec 64} (hx : x.toNat < 2 ^ 63) : ixN x = x.toNat := by
  rw [ixN, toZ_nat hx]; rfl

theorem ixOb_holds {x : BitVec 64} {n : Nat} (hn : n < 2 ^ 63) (hx : x.toNat < n) : (ixOb x n).holds := by
  have h := toZ_nat (x := x) (by omega)
  refine ⟨?_, ?_⟩
  · show 0 ≤ _ ∧ _
    rw [h]; omega
  · show _ < _
    rw [h]; simpa using hx

/-! ### What is owed, in a row -/

def Ob.flat : Ob → List Prop
  | .tt => []
  | .pr p => [p]
  | .two a b => a.flat ++ b.flat
  | .imp _ _ a => a.flat

theorem Ob.flat_holds : ∀ {o : Ob}, (∀ p ∈ o.flat, p) → o.holds
  | .tt, _ => trivial
  | .pr p, h => h p (by simp [Ob.flat])
  | .two a b, h => ⟨flat_holds fun p hp => h p (by simp [Ob.flat, hp]), flat_holds fun p hp => h p (by simp [Ob.flat, hp])⟩
  | .imp _ _ a, h => fun _ => flat_holds fun p hp => h p hp

/-- The first test apart. -/
def Ob.guard : Ob → Bool
  | .imp b true _ => b
  | .imp b false _ => !b
  | _ => true

theorem Ob.guard_holds {o : Ob} (h : o.guard = true → ∀ p ∈ o.flat, p) : o.holds := by
  cases o with
  | imp b w a => exact fun e => Ob.flat_holds (o := a) (h (by cases w <;> simp [Ob.guard, e]))
  | tt => trivial
  | pr p => exact Ob.flat_holds (h rfl)
  | two a b => exact Ob.flat_holds (o := .two a b) (h rfl)

def fl {α : Type} : Option (α × Ob) → Option (α × Bool × List Prop)
  | some (a, o) => some (a, o.guard, o.flat)
  | none => none

theorem fl_ok {α : Type} {E : Option (α × Ob)} {R : α} {g : Bool} {L : List Prop} (h : fl E = some (R, g, L)) (hL : g = true → ∀ p ∈ L, p) : ∃ ob, E = some (R, ob) ∧ ob.holds := by
  unfold fl at h
  split at h <;> simp at h
  rename_i a o
  obtain ⟨rfl, rfl, rfl⟩ := h
  exact ⟨o, rfl, Ob.guard_holds hL⟩

def cnt {α : Type} : Option (α × Ob) → Nat
  | some (_, o) => o.flat.length / 2
  | none => 0

/-- An index, asked so often. -/
def ixs (i : BitVec 64) (n : Nat) : Nat → List Prop
  | 0 => []
  | k + 1 => (0 ≤ toZ .i64 i ∧ toZ .i64 i < (n : Int)) :: ((toZ .i64 i).toNat < n) :: ixs i n k

theorem ixs_hold {x : BitVec 64} {n : Nat} (hn : n < 2 ^ 63) (hx : x.toNat < n) : ∀ (k : Nat), ∀ p ∈ ixs x n k, p
  | 0, p, hp => by simp [ixs] at hp
  | k + 1, p, hp => by
    simp only [ixs, List.mem_cons] at hp
    obtain ⟨h1, h2⟩ := ixOb_holds hn hx
    rcases hp with rfl | rfl | hp
    · exact h1
    · exact h2
    · exact ixs_hold hn hx k p hp

theorem Ev.fl {P : Program} {Γ : Tab} {Λ : FuncId → Hook} {n : Nat} {f : FuncId} {args : List AV} {r : AV} {g : Bool} {L : List Prop} (h : Rf.fl (evalN P Γ Λ n f args) = some (r, g, L)) (hL : g = true → ∀ p ∈ L, p) : Ev P Γ Λ n f args r := by
  obtain ⟨ob, h1, h2⟩ := fl_ok h hL
  exact Ev.ob h1 h2

end Go.Rf
