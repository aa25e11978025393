/- Scalars: what a condition tells, the program's. -/
import Derived.Test.YtigiedlngfkfbaaSe2
set_option linter.unusedVariables false
set_option linter.unusedSimpArgs false
set_option maxRecDepth 100000
namespace Go.Rf
open Go.Proofs

/-! ### Contracts of five arguments, case by case -/
def con5 {α β γ δ ε : Type} (ca : Cod α) (cb : Cod β) (cc : Cod γ) (cd : Cod δ) (ce : Cod ε) (g : α → β → γ → δ → ε → AV) : Con
  | [a, b, c, d, e] => match ca.dec a, cb.dec b, cc.dec c, cd.dec d, ce.dec e with
    | some x, some y, some z, some t, some u => some (g x y z t u, .tt)
    | _, _, _, _, _ => none
  | _ => none
/-- It answers so at these values, by whatever table. -/
def EvAt (P : Program) (f : FuncId) (vs : List Value) (r : AV) : Prop := ∃ (Γ : Tab) (Λ : FuncId → Hook) (n : Nat) (l : List AV), TabOk P Γ ∧ (∀ v ∈ l, pf v = true) ∧ l.map (val E0) = vs ∧ Ev P Γ Λ n f l r
theorem con5_ok {P : Program} {f : FuncId} {α β γ δ ε : Type} {ca : Cod α} {cb : Cod β} {cc : Cod γ} {cd : Cod δ} {ce : Cod ε} {g : α → β → γ → δ → ε → AV} (hg : ∀ x y z t u, pfT (g x y z t u) = true)
    (h : ∀ x y z t u, EvAt P f [val E0 (ca.enc x), val E0 (cb.enc y), val E0 (cc.enc z), val E0 (cd.enc t), val E0 (ce.enc u)] (g x y z t u)) : ConOk P f (con5 ca cb cc cd ce g) := by
  intro args r ob hK hob ha
  unfold con5 at hK
  split at hK <;> try (simp at hK; done)
  split at hK <;> simp at hK
  rename_i a b c d e x y z t u e1 e2 e3 e4 e5
  obtain ⟨rfl, rfl⟩ := hK
  refine ⟨hg _ _ _ _ _, fun w => ?_⟩
  obtain ⟨Γ, Λ, n, l, hΓ, hl, hm, hev⟩ := h x y z t u
  have := hev.calls hΓ hl w
  rw [hm] at this
  simp only [List.map_cons, List.map_nil, ca.val e1, cb.val e2, cc.val e3, cd.val e4, ce.val e5]
  exact this

/-! ### The table: numbers that come out of numbers are told as they are -/
def conZ (g : W → W) : Con
  | [a] => match cI.dec a with
    | some x => some (.lit .i64 (toZ .i64 (g x)), .tt)
    | none => none
  | _ => none
theorem conZ_ok {f : FuncId} {g : W → W} (h : ConOk Try.prog f (con1 cI fun x => eI (g x))) : ConOk Try.prog f (conZ g) :=
  ConOk.as h fun args r ob hK => by
    unfold conZ at hK
    unfold con1
    split at hK <;> try (simp at hK; done)
    split at hK <;> simp at hK
    rename_i a x hx
    obtain ⟨rfl, rfl⟩ := hK
    exact ⟨eI (g x), by simp [hx], rfl, rfl⟩
noncomputable def tb1 : List (FuncId × Con) := (30, conZ notP) :: (37, conZ oppD) :: (38, conZ plainD) :: ta2
theorem rtb1 : TabOk Try.prog (tabOf tb1) := tabOf_cons (tabOf_cons (tabOf_cons rta2 (conZ_ok k38)) (conZ_ok k37)) (conZ_ok k30)
/-- No condition. -/
def inv (op : W) : Bool := chain op [(1#64, false), (5#64, false), (2#64, false), (3#64, false), (10#64, false), (11#64, false), (4#64, false), (6#64, false), (7#64, false), (12#64, false), (13#64, false)] true
theorem inv_cases (op : W) : op = 1#64 ∨ op = 5#64 ∨ op = 2#64 ∨ op = 3#64 ∨ op = 10#64 ∨ op = 11#64 ∨ op = 4#64 ∨ op = 6#64 ∨ op = 7#64 ∨ op = 12#64 ∨ op = 13#64 ∨ inv op = true := by
  by_cases h1 : op = 1#64; · simp [h1]
  by_cases h5 : op = 5#64; · simp [h5]
  by_cases h2 : op = 2#64; · simp [h2]
  by_cases h3 : op = 3#64; · simp [h3]
  by_cases h10 : op = 10#64; · simp [h10]
  by_cases h11 : op = 11#64; · simp [h11]
  by_cases h4 : op = 4#64; · simp [h4]
  by_cases h6 : op = 6#64; · simp [h6]
  by_cases h7 : op = 7#64; · simp [h7]
  by_cases h12 : op = 12#64; · simp [h12]
  by_cases h13 : op = 13#64; · simp [h13]
  have b : ∀ k : W, op ≠ k → (op == k) = false := fun k h => by simpa using h
  have : inv op = true := by simp only [inv, chain, b _ h1, b _ h2, b _ h3, b _ h4, b _ h5, b _ h6, b _ h7, b _ h10, b _ h11, b _ h12, b _ h13, cond_false]
  simp [this]
theorem inv_ne {op : W} (h : inv op = true) : (op == 1#64) = false ∧ (op == 5#64) = false ∧ (op == 2#64) = false ∧ (op == 3#64) = false ∧ (op == 10#64) = false ∧ (op == 11#64) = false ∧ (op == 4#64) = false ∧ (op == 6#64) = false ∧ (op == 7#64) = false ∧ (op == 12#64) = false ∧ (op == 13#64) = false := by
  have k : ∀ x : W, inv x = false → (op == x) = false := fun x hx => by
    rw [beq_eq_false_iff_ne]; rintro rfl; rw [hx] at h; cases h
  exact ⟨k _ (by decide), k _ (by decide), k _ (by decide), k _ (by decide), k _ (by decide), k _ (by decide), k _ (by decide), k _ (by decide), k _ (by decide), k _ (by decide), k _ (by decide)⟩
theorem inv_E {op : W} (h : inv op = true) (w : Bool) : condPE op w = 20#64 := by
  obtain ⟨a1, a2, a3, a4, a5, a6, a7, a8, a9, a10, a11⟩ := inv_ne h
  unfold condPE clE
  simp only [chain, a1, a2, a3, a4, a5, a6, a7, a8, a9, a10, a11, cond_false]
  cases w <;> rfl
def con29i : Con
  | [a, b, c, d] => match cI.dec a, cBl.dec b, cW.dec c, cW.dec d with
    | some op, some w, some x, some y => some (.tup (.cons (eB (condPV op w x y)) (.cons (.lit .i64 20) .nil)), .pr (inv op = true))
    | _, _, _, _ => none
  | _ => none
theorem con29i_val (op : W) (w : Bool) (x y : W) (h : inv op = true) : valT E0 (pair (eB (condPV op w x y)) (eI (condPE op w))) = valT E0 (.tup (.cons (eB (condPV op w x y)) (.cons (.lit .i64 20) .nil))) := by
  rw [inv_E h]; rfl
theorem con29i_ok : ConOk Try.prog 29 con29i := by
  intro args r ob hK hob ha
  unfold con29i at hK
  split at hK <;> try (simp at hK; done)
  split at hK <;> simp at hK
  rename_i a b c d _ _ _ _ op w x y e1 e2 e3 e4
  obtain ⟨rfl, rfl⟩ := hK
  have hi : inv op = true := hob
  refine ⟨rfl, fun w' => ?_⟩
  have hcon : con4 cI cBl cW cW (fun op w a b => pair (eB (condPV op w a b)) (eI (condPE op w))) [a, b, c, d] = some (pair (eB (condPV op w x y)) (eI (condPE op w)), .tt) := by
    unfold con4
    simp only [e1, e2, e3, e4]
  have := (k29 [a, b, c, d] _ _ hcon trivial ha).2 w'
  rw [con29i_val op w x y hi] at this
  exact this
noncomputable def tbi : List (FuncId × Con) := (29, con29i) :: ta2
theorem rtbi : TabOk Try.prog (tabOf tbi) := tabOf_cons rta2 con29i_ok

/-! ### Plain -/
def mostV (a b : Sc) : W := bif ltB .u64 a.s.hi b.s.hi then b.s.hi else a.s.hi
noncomputable def badR (op : W) (w : Bool) (a b : Sc) : Bool := ((condPE op w != 0#64) || !mayC a) || !mayC b
def wideR (w : Bool) (a b : Sc) : Bool := !w && leB .u64 4294967296#64 (mostV a b)
def signR (w : Bool) (a b : Sc) : Bool := leB .u64 9223372036854775808#64 (mostV a b) || (!w && leB .u64 2147483648#64 (mostV a b))
def single (a : Sc) : Bool := a.s.lo == a.s.hi
noncomputable def eqG (a b : Sc) : R3 := both3 (meetC a b) (meetCB a b) (meetC a b) (meetCB a b)
noncomputable def neG (a b : Sc) : R3 := R3.mux (single b) (R3.mux (single a) (both3 (woP a b.s.lo) (woPB a b.s.lo) (woP b a.s.lo) (woPB b a.s.lo)) (both3 (woP a b.s.lo) (woPB a b.s.lo) b true)) (R3.mux (single a) (both3 a true (woP b a.s.lo) (woPB b a.s.lo)) (both3 a true b true))
noncomputable def gtG (a b : Sc) : R3 := R3.mux ((b.s.lo == 18446744073709551615#64) || (a.s.hi == 0#64)) R3.none (above a b (b.s.lo + 1#64) (a.s.hi - 1#64))
noncomputable def geG (a b : Sc) : R3 := above a b b.s.lo a.s.hi
def R3.swap (r : R3) : R3 := ⟨r.y, r.x, r.ok⟩
noncomputable def ltG (a b : Sc) : R3 := (R3.mux (badR 2#64 true b a) R3.none (gtG b a)).swap
noncomputable def leG (a b : Sc) : R3 := (R3.mux (badR 3#64 true b a) R3.none (geG b a)).swap
def R3.keep (a b : Sc) : R3 := ⟨a, b, true⟩
def setG (a b : Sc) : R3 := R3.mux (((a.t.v ||| a.t.m) &&& (b.t.v ||| b.t.m)) == 0#64) R3.none (R3.keep a b)
def nsT (a b : Sc) : Tn := ⟨a.t.v, a.t.m &&& ~~~b.s.lo⟩
noncomputable def nsG (a b : Sc) : R3 := R3.mux ((a.t.v &&& b.t.v) != 0#64) R3.none (R3.mux (single b) (both3 (setR (nsT a b) a.s) (setOk (nsT a b) a.s) b true) (both3 a true b true))
noncomputable def refG (op : W) (w : Bool) (a b : Sc) : R3 := chain op [(1#64, eqG a b), (5#64, neG a b), (2#64, gtG a b), (3#64, geG a b), (10#64, ltG a b), (11#64, leG a b),
  (6#64, R3.mux (signR w a b) (R3.keep a b) (gtG a b)), (7#64, R3.mux (signR w a b) (R3.keep a b) (geG a b)), (12#64, R3.mux (signR w a b) (R3.keep a b) (ltG a b)), (13#64, R3.mux (signR w a b) (R3.keep a b) (leG a b)), (4#64, setG a b)] (nsG a b)
noncomputable def refP (op : W) (w : Bool) (a b : Sc) (h : Bool) : R3 := R3.mux (badR op w a b) R3.none (R3.mux (wideR w a b) (R3.keep a b) (refG (bif h then op else notP op) w a b))
end Go.Rf
