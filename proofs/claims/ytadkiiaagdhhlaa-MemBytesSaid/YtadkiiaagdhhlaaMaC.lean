/- Memory: frames turned; numbers out of bytes; the awake test. -/
import Derived.Test.YtadkiiaagdhhlaaMaB
set_option linter.unusedVariables false
set_option linter.unusedSimpArgs false
set_option maxRecDepth 100000
namespace Go.Rf
open Go.Proofs
theorem fill_step {α : Type} (A B : Nat → α) (i : Nat) : (fun j => if j = i then A i else (if j < i then A j else B j)) = fun j => if j < i + 1 then A j else B j := by
  funext j
  by_cases h : j = i
  · subst h; rw [if_pos rfl, if_pos (Nat.lt_succ_self j)]
  · rw [if_neg h]
    by_cases h2 : j < i
    · rw [if_pos h2, if_pos (by omega)]
    · rw [if_neg h2, if_neg (by omega)]
theorem cells_congr {α : Type} (n : Nat) (c : FCod α) (hd : c.dp 1 = true) {f g : Nat → α} (h : ∀ i, i < n → f i = g i) (E : Env) : cells E [] ((c.arr n hd).enc f) = cells E [] ((c.arr n hd).enc g) := by
  show cells E [] (.arr n _) = cells E [] (.arr n _)
  simp only [cells, List.nil_append]
  rw [List.flatMap_def, List.flatMap_def]
  congr 1
  refine List.map_congr_left fun i hi => ?_
  exact c.loc E _ _ [i] hd (by show f i = g i; exact h i (by simpa using hi))
theorem fra_val {f g : Fra} (h : ∀ i, i < 64 → f i = g i) : val E0 (eFra f) = val E0 (eFra g) := by
  rw [val_by_cells, val_by_cells]
  have e : cells E0 [] (eFra f) = cells E0 [] (eFra g) := cells_congr 64 fMSl rfl h E0
  rw [e]; rfl
theorem as_con1 {P : Program} {f : FuncId} {α : Type} {ca : Cod α} {g g' : α → AV} (h : ConOk P f (con1 ca g)) (hp : ∀ x, pfT (g' x) = true) (e : ∀ x, valT E0 (g x) = valT E0 (g' x)) : ConOk P f (con1 ca g') :=
  ConOk.as h fun args r ob hK => by
    unfold con1 at hK ⊢
    split at hK <;> try (simp at hK; done)
    split at hK <;> simp at hK
    rename_i a x hx
    obtain ⟨rfl, rfl⟩ := hK
    exact ⟨g x, by simp [hx], hp x, e x⟩
structure OfS where
  f : Fra
  o : Fra
  i : W
def pOf : List Nat := [1, 1, 0, 1, 4]
noncomputable def lpOf : Lp OfS where
  keys := [5, 1, 3]
  names := [0, 2]
  scr := wrAt Try.prog 12 pOf
  vals s := [eI s.i, .ptr 0 [], .ptr 2 []]
  blks s := [⟨29, eFra s.f⟩, ⟨35, eFra s.o⟩]
  dec vs bs := match vs, bs with
    | [i, _, _], [⟨_, v⟩, ⟨_, o⟩] => match cI.dec i, cFra.dec v, cFra.dec o with
      | some i, some v, some o => some ⟨v, o, i⟩
      | _, _, _ => none
    | _, _ => none
def OfS.go (s : OfS) : Bool := ltB .i64 s.i 64#64
def OfS.nxt (s : OfS) : OfS := ⟨s.f, updF s.o (ixN s.i) (s.f (ixN s.i)), s.i + 1#64⟩
def OfS.step (s : OfS) : Rd OfS := .br s.go (.norm s.nxt) (.exit 0 s)
def OfS.inv (s : OfS) : Prop := s.i.toNat ≤ 64
def OfS.mu (s : OfS) : Nat := 64 - s.i.toNat
theorem OfS.lt {s : OfS} (h : s.inv) (hg : s.go = true) : s.i.toNat < 64 := by
  have h1 : s.i.toNat ≤ 64 := h
  rw [OfS.go, ltB_nat (by omega) (by decide), decide_eq_true_eq] at hg
  exact hg
theorem OfS.dec (s : OfS) (h : s.inv) (hg : s.go = true) : s.nxt.inv ∧ s.nxt.mu < s.mu := by
  have h1 := OfS.lt h hg
  have e : (s.i + 1#64).toNat = s.i.toNat + 1 := succ_nat (by omega)
  refine ⟨?_, ?_⟩
  · show (s.i + 1#64).toNat ≤ 64; omega
  · show 64 - (s.i + 1#64).toNat < 64 - s.i.toNat; omega
def OfS.T (s : OfS) : Rd OfS := .exit 0 (runN OfS.go OfS.nxt 64 s)
theorem goalOf (s : OfS) (h : s.inv) : LoopGoal Try.prog (loopAt Try.prog 12 pOf) lpOf OfS.T s 3 25 0 := by
  refine lp_rule (cx := ⟨Try.prog, tabOf ma7, inlF Try.prog (tabOf ma7) noHooks 2⟩) rma7 (inlF_ok rma7 2) (Λ := fun _ => none) (p := []) lpOf OfS.inv OfS.mu OfS.step OfS.T 3 25 0 (fun _ => ⟨rfl, rfl⟩) ?_ ?_ s h
  · intro s r h hi
    exact fl_ok (g := s.go) (L := ixs s.i 64 4) (by kernel_rfl) (fun hg => ixs_hold (by decide) (OfS.lt hi hg) _)
  · refine good_run (go := OfS.go) (next := OfS.nxt) OfS.dec (fun s h => by simp only [OfS.mu]; omega) ?_ ?_
    · intro s hi hg
      simp only [OfS.step, Rd.sel, hg, if_true]
    · intro s hi hg
      simp only [OfS.step, Rd.sel, hg, Bool.false_eq_true, if_false]
noncomputable def hOf : FuncId → Hook := fun f p => if f == 12 && p == pOf then some (lpOf.hk OfS.T) else none
def of0 (f : Fra) : OfS := ⟨f, fun _ => nilM, 0#64⟩
theorem runOf (f : Fra) : runN OfS.go OfS.nxt 64 (of0 f) = ⟨f, fun j => if j < 64 then f j else nilM, 64#64⟩ := by
  have := runN_count (go := OfS.go) (next := OfS.nxt) (fun i => (⟨f, fun j => if j < i then f j else nilM, BitVec.ofNat 64 i⟩ : OfS)) 64
    (fun i hi => by
      show ltB .i64 (BitVec.ofNat 64 i) (BitVec.ofNat 64 64) = _
      rw [ltB_ofNat (by omega) (by omega)])
    (fun i hi => by
      simp only [OfS.nxt, ofNat_succ, ixN_ofNat (show i < 2 ^ 63 by omega), updF_eq]
      rw [fill_step (fun j => f j) (fun _ => nilM) i])
  exact this
theorem kk12 : ConOk Try.prog 12 (con1 cFra fun f => eFra (runN OfS.go OfS.nxt 64 (of0 f)).o) :=
  con1_ok rma7 (Λ := hOf) 6 (fun _ => rfl) (fun f => Ev.fl (g := true) (L := [LoopGoal Try.prog (loopAt Try.prog 12 pOf) lpOf OfS.T (of0 f) 3 25 0]) (by kernel_rfl)
    (fun _ p hp => by simp only [List.mem_singleton] at hp; subst hp; exact goalOf _ (by show (0#64 : W).toNat ≤ 64; decide)))
theorem k12 : ConOk Try.prog 12 (con1 cFra fun f => eFra f) := as_con1 kk12 (fun _ => rfl) (fun f => by
  rw [runOf]
  exact fra_val (fun i hi => if_pos hi))
noncomputable def ma8 : List (FuncId × Con) := (12, con1 cFra fun f => eFra f) :: ma7
theorem rma8 : TabOk Try.prog (tabOf ma8) := tabOf_cons rma7 k12
def eqMSl (a b : MSl) : Bool := a.h == b.h && ((List.range 8).all (fun i => a.b i == b.b i) && eqVal a.v b.v)
def eqFra (f g : Fra) : Bool := (List.range 64).all fun i => eqMSl (f i) (g i)
theorem k19 : ConOk Try.prog 19 (con2 cFra cFra fun f g => eB (eqFra f g)) := con2_ok rma8 (Λ := noHooks) 5 (fun _ _ => rfl) (fun f g => Ev.of (by kernel_rfl))
theorem eqFra_self (f : Fra) : eqFra f f = true := by
  unfold eqFra eqMSl
  rw [List.all_eq_true]
  intro i _
  rw [eqVal_self]
  simp

/-! Numbers out of bytes. -/
structure GtS where
  off : W
  n : W
  j : W
section
variable (b : Nat → B8) (L : Nat)
def GtS.go (s : GtS) : Bool := leB .i64 0#64 s.j
def GtS.nxt (s : GtS) : GtS := ⟨s.off, f1 s.n (b (ixN (s.off + s.j))), s.j - 1#64⟩
def GtS.step (s : GtS) : Rd GtS := .br s.go (.norm (s.nxt b)) (.exit 0 s)
structure GtS.inv (s : GtS) : Prop where
  o0 : 0 ≤ s.off.toInt
  j0 : -1 ≤ s.j.toInt
  j7 : s.j.toInt ≤ 7
  fit : s.off.toInt + s.j.toInt < L
  big : L < 2 ^ 62
def GtS.mu (s : GtS) : Nat := (s.j.toInt + 1).toNat
def GtS.run (s : GtS) : GtS := runN GtS.go (GtS.nxt b) 8 s
def GtS.rn (s : GtS) : W := (s.run b).n
def GtS.rj (s : GtS) : W := (s.run b).j
def GtS.T (s : GtS) : Rd GtS := .exit 0 ⟨s.off, s.rn b, s.rj b⟩
theorem GtS.T_eq : GtS.T b = fun s => .exit 0 (s.run b) := by
  funext s
  have h : (s.run b).off = s.off := runN_inv (go := GtS.go) (next := GtS.nxt b) (fun t => t.off = s.off) (fun t h _ => h) 8 s rfl
  unfold GtS.T GtS.rn GtS.rj
  rw [← h]
theorem GtS.go_iff {s : GtS} : s.go = true ↔ 0 ≤ s.j.toInt := by
  have z : (0#64 : W).toInt = 0 := rfl
  rw [GtS.go, leI, decide_eq_true_eq, z]
theorem GtS.dec (s : GtS) (h : s.inv L) (hg : s.go = true) : (s.nxt b).inv L ∧ (s.nxt b).mu < s.mu := by
  rw [GtS.go_iff] at hg
  have := predZ hg
  refine ⟨⟨h.o0, ?_, ?_, ?_, h.big⟩, ?_⟩
  · show -1 ≤ (s.j - 1#64).toInt; omega
  · show (s.j - 1#64).toInt ≤ 7; have := h.j7; omega
  · show s.off.toInt + (s.j - 1#64).toInt < L; have := h.fit; omega
  · show ((s.j - 1#64).toInt + 1).toNat < (s.j.toInt + 1).toNat; omega
theorem GtS.good : ∀ s : GtS, s.inv L → Good (GtS.inv L) GtS.mu (GtS.T b) s (s.step b).sel := by
  rw [GtS.T_eq]
  refine good_run (go := GtS.go) (next := GtS.nxt b) (GtS.dec b L) (fun s h => by unfold GtS.mu; have := h.j7; omega) ?_ ?_
  · intro s hi hg
    simp only [GtS.step, Rd.sel, hg, if_true]
  · intro s hi hg
    simp only [GtS.step, Rd.sel, hg, Bool.false_eq_true, if_false]
theorem GtS.at_nat {s : GtS} (h : s.inv L) (hg : s.go = true) : (s.off + s.j).toNat < L := by
  rw [GtS.go_iff] at hg
  have a := nat_of_int h.o0
  have c := nat_of_int hg
  have := h.fit
  have := h.big
  rw [BitVec.toNat_add]
  omega
end
def pGt : List Nat := [1, 1, 1, 0, 1, 4]
/-- The slice, its block's name, its block. -/
noncomputable def lpGt (a : AV) (m : Nat) (B : Blk) : Lp GtS where
  keys := [10, 9, 0, 1]
  names := [m]
  scr := wrAt Try.prog 24 pGt
  vals s := [eI s.j, eW s.n, a, eI s.off]
  blks s := [B]
  dec vs bs := match vs, bs with
    | [j, n, _, o], [_] => match cI.dec j, cW.dec n, cI.dec o with
      | some j, some n, some o => some ⟨o, n, j⟩
      | _, _, _ => none
    | _, _ => none
def b3 : Nat → B8 := updB (updB (updB (fun _ => 0#8) 0 1#8) 1 2#8) 2 3#8
def sl3 (m : Nat) : AV := .slc m [] (.lit .i64 3) 3
def bk3 : Blk := ⟨5, (fB8.arr 3).enc b3⟩
theorem goalG3 (s : GtS) (h : s.inv 3) : LoopGoal Try.prog (loopAt Try.prog 24 pGt) (lpGt (sl3 5) 5 bk3) (GtS.T b3) s 6 35 6 := by
  refine lp_rule (cx := ⟨Try.prog, tabOf ma8, inlF Try.prog (tabOf ma8) noHooks 2⟩) rma8 (inlF_ok rma8 2) (Λ := fun _ => none) (p := []) (lpGt (sl3 5) 5 bk3) (GtS.inv 3) GtS.mu (GtS.step b3) (GtS.T b3) 6 35 6 (fun _ => ⟨rfl, rfl⟩) ?_ ?_ s h
  · intro s r h hi
    exact fl_ok (g := s.go) (L := ixs (s.off + s.j) 3 1) (by kernel_rfl) (fun hg => ixs_hold (by decide) (GtS.at_nat 3 hi hg) _)
  · exact GtS.good b3 3
noncomputable def hAw : FuncId → Hook := fun f p => if f == 24 && p == pGt then some ((lpGt (sl3 5) 5 bk3).hk (GtS.T b3)) else none
end Go.Rf
