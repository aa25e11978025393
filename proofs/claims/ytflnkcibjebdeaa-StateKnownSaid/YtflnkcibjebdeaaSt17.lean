/- States: views; joins. -/
import Derived.Test.YtflnkcibjebdeaaSt16
set_option linter.unusedVariables false
set_option linter.unusedSimpArgs false
set_option maxRecDepth 100000
namespace Go.Rf
open Go.Proofs
/-! Loops that fill an array. -/
theorem fill_step {α : Type} (A B : Nat → α) (i : Nat) : (fun j => if j = i then A i else (if j < i then A j else B j)) = fun j => if j < i + 1 then A j else B j := by
  funext j
  by_cases h : j = i
  · subst h; rw [if_pos rfl, if_pos (Nat.lt_succ_self j)]
  · rw [if_neg h]
    by_cases h2 : j < i
    · rw [if_pos h2, if_pos (by omega)]
    · rw [if_neg h2, if_neg (by omega)]
theorem cells_congr {α : Type} (n : Nat) (c : FCod α) (hd : c.dp 1 = true) {f g : Nat → α} (h : ∀ i, i < n → f i = g i) (E : Env) : cells E [] ((c.arr n hd).enc f) = cells E [] ((c.arr n hd).enc g) := by
  show cells E [] (.arr n _) = cells E [] (.arr n _)
  simp only [cells, List.nil_append]
  rw [List.flatMap_def, List.flatMap_def]
  congr 1
  refine List.map_congr_left fun i hi => ?_
  exact c.loc E _ _ [i] hd (by show f i = g i; exact h i (by simpa using hi))

def updF (f : Nat → MSl) (i : Nat) (m : MSl) : Nat → MSl := fun j => ⟨if j = i then m.h else (f j).h, fun k => if j = i then m.b k else (f j).b k,
  ⟨if j = i then m.v.k else (f j).v.k, if j = i then m.v.m else (f j).v.m, if j = i then m.v.n else (f j).v.n, if j = i then m.v.o else (f j).v.o⟩⟩
theorem updF_eq (f : Nat → MSl) (i : Nat) (m : MSl) : updF f i m = fun j => if j = i then m else f j := by
  funext j
  unfold updF
  by_cases h : j = i <;> simp [h]
structure VwS where
  v : Vw
  o : Vw
  i : W
def pVw : List Nat := [1, 1, 0, 1, 4]
noncomputable def lpVw : Lp VwS where
  keys := [4, 1, 3]
  names := [0, 2]
  scr := wrAt Try.prog 17 pVw
  vals s := [eI s.i, .ptr 0 [], .ptr 2 []]
  blks s := [⟨49, eVw s.v⟩, ⟨55, eVw s.o⟩]
  dec vs bs := match vs, bs with
    | [i, _, _], [⟨_, v⟩, ⟨_, o⟩] => match cI.dec i, cVw.dec v, cVw.dec o with
      | some i, some v, some o => some ⟨v, o, i⟩
      | _, _, _ => none
    | _, _ => none
def VwS.go (s : VwS) : Bool := ltB .i64 s.i 64#64
def VwS.nxt (s : VwS) : VwS := ⟨s.v, ⟨s.o.regs, updF s.o.fr (ixN s.i) (s.v.fr (ixN s.i)), s.o.pk⟩, s.i + 1#64⟩
def VwS.step (s : VwS) : Rd VwS := .br s.go (.norm s.nxt) (.exit 0 s)
def VwS.inv (s : VwS) : Prop := s.i.toNat ≤ 64
def VwS.mu (s : VwS) : Nat := 64 - s.i.toNat
theorem VwS.lt {s : VwS} (h : s.inv) (hg : s.go = true) : s.i.toNat < 64 := by
  have h1 : s.i.toNat ≤ 64 := h
  rw [VwS.go, ltB_nat (by omega) (by decide), decide_eq_true_eq] at hg
  exact hg
theorem VwS.dec (s : VwS) (h : s.inv) (hg : s.go = true) : s.nxt.inv ∧ s.nxt.mu < s.mu := by
  have h1 := VwS.lt h hg
  have e : (s.i + 1#64).toNat = s.i.toNat + 1 := succ_nat (by omega)
  refine ⟨?_, ?_⟩
  · show (s.i + 1#64).toNat ≤ 64; omega
  · show 64 - (s.i + 1#64).toNat < 64 - s.i.toNat; omega
def VwS.T (s : VwS) : Rd VwS := .exit 0 (runN VwS.go VwS.nxt 64 s)
theorem goalVw (s : VwS) (h : s.inv) : LoopGoal Try.prog (loopAt Try.prog 17 pVw) lpVw VwS.T s 3 34 0 := by
  refine lp_rule (cx := ⟨Try.prog, tabOf sv8, inlF Try.prog (tabOf sv8) noHooks 2⟩) rsv8 (inlF_ok rsv8 2) (Λ := fun _ => none) (p := []) lpVw VwS.inv VwS.mu VwS.step VwS.T 3 34 0 (fun _ => ⟨rfl, rfl⟩) ?_ ?_ s h
  · intro s r h hi
    exact fl_ok (g := s.go) (L := ixs s.i 64 4) (by kernel_rfl) (fun hg => ixs_hold (by decide) (VwS.lt hi hg) _)
  · refine good_run (go := VwS.go) (next := VwS.nxt) VwS.dec (fun s h => by simp only [VwS.mu]; omega) ?_ ?_
    · intro s hi hg
      simp only [VwS.step, Rd.sel, hg, if_true]
    · intro s hi hg
      simp only [VwS.step, Rd.sel, hg, Bool.false_eq_true, if_false]
noncomputable def hVw : FuncId → Hook := fun f p => if f == 17 && p == pVw then some (lpVw.hk VwS.T) else none
def nilM : MSl := ⟨0#8, fun _ => 0#8, nilV⟩
def v0 (v : Vw) : VwS := ⟨v, ⟨v.regs, fun _ => nilM, v.pk⟩, 0#64⟩
theorem runVw (v : Vw) : runN VwS.go VwS.nxt 64 (v0 v) = ⟨v, ⟨v.regs, fun j => if j < 64 then v.fr j else nilM, v.pk⟩, 64#64⟩ := by
  have := runN_count (go := VwS.go) (next := VwS.nxt) (fun i => (⟨v, ⟨v.regs, fun j => if j < i then v.fr j else nilM, v.pk⟩, BitVec.ofNat 64 i⟩ : VwS)) 64
    (fun i hi => by
      show ltB .i64 (BitVec.ofNat 64 i) (BitVec.ofNat 64 64) = _
      rw [ltB_ofNat (by omega) (by omega)])
    (fun i hi => by
      simp only [VwS.nxt, ofNat_succ, ixN_ofNat (show i < 2 ^ 63 by omega), updF_eq]
      rw [fill_step (fun j => v.fr j) (fun _ => nilM) i])
  exact this
theorem kk17 : ConOk Try.prog 17 (con1 cVw fun v => eVw (runN VwS.go VwS.nxt 64 (v0 v)).o) :=
  con1_ok rsv8 (Λ := hVw) 6 (fun _ => rfl) (fun v => Ev.fl (g := true) (L := [LoopGoal Try.prog (loopAt Try.prog 17 pVw) lpVw VwS.T (v0 v) 3 34 0]) (by kernel_rfl)
    (fun _ p hp => by simp only [List.mem_singleton] at hp; subst hp; exact goalVw _ (by show (0#64 : W).toNat ≤ 64; decide)))
end Go.Rf
