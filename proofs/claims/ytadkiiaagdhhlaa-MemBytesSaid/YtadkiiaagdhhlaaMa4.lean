/- Memory: the loops of Load. -/
import Derived.Test.YtadkiiaagdhhlaaMa3
set_option linter.unusedVariables false
set_option linter.unusedSimpArgs false
set_option maxRecDepth 100000
namespace Go.Rf
open Go.Proofs
structure LdS where
  x : MSl
  fr : W
  j : W
  n : W
  e : W
def zx (b : B8) : W := convB .u8 .u64 b
def f1 (n : W) (b : B8) : W := n <<< amt .u64 8#64 ||| zx b
def LdS.lt (s : LdS) : Bool := leB .i64 s.fr s.j
def LdS.bd (s : LdS) : Bool := and1 (shr8 s.x.h (jU s.j)) == 0#8
def LdS.go (s : LdS) : Bool := s.lt && !s.bd
def LdS.nxt (s : LdS) : LdS := ⟨s.x, s.fr, s.j - 1#64, f1 s.n (s.x.b (ixN s.j)), s.e⟩
def LdS.rt (s : LdS) : LdS := ⟨s.x, s.fr, s.j, s.n, 40#64⟩
def LdS.step (s : LdS) : Rd LdS := .br s.lt (.br s.bd (.ret s.rt) (.norm s.nxt)) (.exit 0 s)
def LdS.inv (s : LdS) : Prop := 0 ≤ s.fr.toInt ∧ s.fr.toInt ≤ s.j.toInt + 1 ∧ s.j.toInt ≤ 7
def LdS.mu (s : LdS) : Nat := (s.j.toInt + 1 - s.fr.toInt).toNat
def LdS.run (s : LdS) : LdS := runN LdS.go LdS.nxt 8 s
def LdS.hit (s : LdS) : Bool := s.run.lt
def LdS.aj (s : LdS) : W := s.run.j
def LdS.an (s : LdS) : W := s.run.n
def LdS.T (s : LdS) : Rd LdS := .br s.hit (.ret ⟨s.x, s.fr, s.aj, s.an, 40#64⟩) (.exit 0 ⟨s.x, s.fr, s.aj, s.an, s.e⟩)
theorem LdS.T_eq : LdS.T = fun s => .br s.run.lt (.ret s.run.rt) (.exit 0 s.run) := by
  funext s
  have h := runN_inv (go := LdS.go) (next := LdS.nxt) (fun t => t.x = s.x ∧ t.fr = s.fr ∧ t.e = s.e) (fun t h _ => h) 8 s ⟨rfl, rfl, rfl⟩
  have h' : s.run.x = s.x ∧ s.run.fr = s.fr ∧ s.run.e = s.e := h
  unfold LdS.T LdS.hit LdS.aj LdS.an LdS.rt
  rw [← h'.1, ← h'.2.1, ← h'.2.2]
theorem predZ {x : W} (h : 0 ≤ x.toInt) : (x - 1#64).toInt = x.toInt - 1 := by
  have e : (1#64 : W).toInt = 1 := rfl
  have hb := x.toInt_lt
  rw [BitVec.toInt_sub, e, Int.bmod_def]
  omega
theorem LdS.lt_iff {s : LdS} : s.lt = true ↔ s.fr.toInt ≤ s.j.toInt := by rw [LdS.lt, leI, decide_eq_true_eq]
theorem LdS.dec (s : LdS) (h : s.inv) (hg : s.go = true) : s.nxt.inv ∧ s.nxt.mu < s.mu := by
  unfold LdS.go at hg
  rw [Bool.and_eq_true, LdS.lt_iff] at hg
  obtain ⟨h1, h2, h3⟩ := h
  have e : (s.j - 1#64).toInt = s.j.toInt - 1 := predZ (by omega)
  unfold LdS.inv LdS.mu LdS.nxt
  simp only [e]
  omega
theorem LdS.good : ∀ s : LdS, s.inv → Good LdS.inv LdS.mu LdS.T s s.step.sel := by
  rw [LdS.T_eq]
  refine good_ret (go := LdS.go) (next := LdS.nxt) (out := LdS.lt) (rt := LdS.rt) LdS.dec (fun s h => by unfold LdS.mu; have := h.1; have := h.2.2; omega) ?_ ?_ ?_
  · intro s hi hg
    simp only [LdS.go, Bool.and_eq_true, Bool.not_eq_true'] at hg
    simp only [LdS.step, Rd.sel, hg.1, hg.2, if_true, Bool.false_eq_true, if_false]
  · intro s hi hg ho
    simp only [LdS.go, ho, Bool.true_and, Bool.not_eq_false'] at hg
    simp only [LdS.step, Rd.sel, ho, hg, if_true]
  · intro s hi hg ho
    simp only [LdS.step, Rd.sel, ho, Bool.false_eq_true, if_false]
def pLd : List Nat := [1, 1, 1, 1, 1, 1, 0, 1, 4]
noncomputable def lpLd : Lp LdS where
  keys := [12, 10, 9, 6, 11, 7]
  names := [1, 2]
  scr := wrAt Try.prog 11 pLd
  vals s := [eI s.j, eI s.fr, .ptr 2 [], .ptr 1 [], eW s.n, eI s.e]
  blks s := [⟨25, eVal nilV⟩, ⟨33, eMSl s.x⟩]
  dec vs bs := match vs, bs with
    | [j, fr, _, _, n, e], [_, ⟨_, x⟩] => match cI.dec j, cI.dec fr, cW.dec n, cI.dec e, cMSl.dec x with
      | some j, some fr, some n, some e, some x => some ⟨x, fr, j, n, e⟩
      | _, _, _, _, _ => none
    | _, _ => none
theorem goalLd (s : LdS) (h : s.inv) : LoopGoal Try.prog (loopAt Try.prog 11 pLd) lpLd LdS.T s 3 70 0 := by
  refine lp_rule (cx := ⟨Try.prog, tabOf ma5, inlF Try.prog (tabOf ma5) noHooks 2⟩) rma5 (inlF_ok rma5 2) (Λ := fun _ => none) (p := []) lpLd LdS.inv LdS.mu LdS.step LdS.T 3 70 0 (fun _ => ⟨rfl, rfl⟩) ?_ ?_ s h
  · intro s r h hi
    refine fl_ok (g := s.lt) (L := ixs s.j 8 1) (by kernel_rfl) (fun hg => ixs_hold (by decide) ?_ _)
    rw [LdS.lt_iff] at hg
    obtain ⟨h1, h2, h3⟩ := hi
    have := nat_of_int (n := s.j) (by omega)
    omega
  · exact LdS.good

/-! The document's. -/
structure LeS where
  x : MSl
  o : W
  s : W
  j : W
  n : W
  p : W
  e : W
def LeS.at_ (s : LeS) : W := remI s.o 8#64 + s.j
def LeS.lt (s : LeS) : Bool := ltB .i64 s.j s.s
def LeS.bd (s : LeS) : Bool := !hasM s.x s.at_
def LeS.go (s : LeS) : Bool := s.lt && !s.bd
def LeS.nxt (s : LeS) : LeS := ⟨s.x, s.o, s.s, s.j + 1#64, s.n + s.p * zx (s.x.b (ixN s.at_)), s.p * 256#64, s.e⟩
def LeS.rt (s : LeS) : LeS := ⟨s.x, s.o, s.s, s.j, s.n, s.p, 40#64⟩
def LeS.step (s : LeS) : Rd LeS := .br s.lt (.br s.bd (.ret s.rt) (.norm s.nxt)) (.exit 0 s)
def LeS.inv (s : LeS) : Prop := s.j.toNat ≤ s.s.toNat ∧ (remI s.o 8#64).toNat + s.s.toNat ≤ 8
def LeS.mu (s : LeS) : Nat := s.s.toNat - s.j.toNat
def LeS.run (s : LeS) : LeS := runN LeS.go LeS.nxt 8 s
def LeS.hit (s : LeS) : Bool := s.run.lt
def LeS.aj (s : LeS) : W := s.run.j
def LeS.an (s : LeS) : W := s.run.n
def LeS.ap (s : LeS) : W := s.run.p
def LeS.T (s : LeS) : Rd LeS := .br s.hit (.ret ⟨s.x, s.o, s.s, s.aj, s.an, s.ap, 40#64⟩) (.exit 0 ⟨s.x, s.o, s.s, s.aj, s.an, s.ap, s.e⟩)
theorem LeS.T_eq : LeS.T = fun s => .br s.run.lt (.ret s.run.rt) (.exit 0 s.run) := by
  funext s
  have h := runN_inv (go := LeS.go) (next := LeS.nxt) (fun t => t.x = s.x ∧ t.o = s.o ∧ t.s = s.s ∧ t.e = s.e) (fun t h _ => h) 8 s ⟨rfl, rfl, rfl, rfl⟩
  have h' : s.run.x = s.x ∧ s.run.o = s.o ∧ s.run.s = s.s ∧ s.run.e = s.e := h
  unfold LeS.T LeS.hit LeS.aj LeS.an LeS.ap LeS.rt
  rw [← h'.1, ← h'.2.1, ← h'.2.2.1, ← h'.2.2.2]
theorem LeS.lt_iff {s : LeS} (h : s.inv) : s.lt = true ↔ s.j.toNat < s.s.toNat := by
  obtain ⟨h1, h2⟩ := h
  rw [LeS.lt, ltB_nat (by omega) (by omega), decide_eq_true_eq]
theorem LeS.dec (s : LeS) (h : s.inv) (hg : s.go = true) : s.nxt.inv ∧ s.nxt.mu < s.mu := by
  unfold LeS.go at hg
  rw [Bool.and_eq_true, LeS.lt_iff h] at hg
  obtain ⟨h1, h2⟩ := h
  have e : (s.j + 1#64).toNat = s.j.toNat + 1 := succ_nat (by omega)
  unfold LeS.inv LeS.mu LeS.nxt
  simp only [e]
  omega
theorem LeS.good : ∀ s : LeS, s.inv → Good LeS.inv LeS.mu LeS.T s s.step.sel := by
  rw [LeS.T_eq]
  refine good_ret (go := LeS.go) (next := LeS.nxt) (out := LeS.lt) (rt := LeS.rt) LeS.dec (fun s h => by unfold LeS.mu; have := h.1; have := h.2; omega) ?_ ?_ ?_
  · intro s hi hg
    simp only [LeS.go, Bool.and_eq_true, Bool.not_eq_true'] at hg
    simp only [LeS.step, Rd.sel, hg.1, hg.2, if_true, Bool.false_eq_true, if_false]
  · intro s hi hg ho
    simp only [LeS.go, ho, Bool.true_and, Bool.not_eq_false'] at hg
    simp only [LeS.step, Rd.sel, ho, hg, if_true]
  · intro s hi hg ho
    simp only [LeS.step, Rd.sel, ho, Bool.false_eq_true, if_false]
def pLe : List Nat := [1, 1, 1, 1, 1, 1, 1, 1, 0, 1, 4]
noncomputable def lpLe : Lp LeS where
  keys := [12, 2, 1, 9, 6, 10, 11, 7]
  names := [1, 2]
  scr := wrAt Try.prog 13 pLe
  vals s := [eI s.j, eI s.s, eI s.o, .ptr 2 [], .ptr 1 [], eW s.n, eW s.p, eI s.e]
  blks s := [⟨25, eVal nilV⟩, ⟨27, eMSl s.x⟩]
  dec vs bs := match vs, bs with
    | [j, s, o, _, _, n, p, e], [_, ⟨_, x⟩] => match cI.dec j, cI.dec s, cI.dec o, cW.dec n, cW.dec p, cI.dec e, cMSl.dec x with
      | some j, some s, some o, some n, some p, some e, some x => some ⟨x, o, s, j, n, p, e⟩
      | _, _, _, _, _, _, _ => none
    | _, _ => none
theorem LeS.at_nat {s : LeS} (h : s.inv) (hg : s.lt = true) : s.at_.toNat = (remI s.o 8#64).toNat + s.j.toNat ∧ s.at_.toNat < 8 := by
  rw [LeS.lt_iff h] at hg
  obtain ⟨h1, h2⟩ := h
  unfold LeS.at_
  rw [BitVec.toNat_add]
  omega
theorem goalLe (s : LeS) (h : s.inv) : LoopGoal Try.prog (loopAt Try.prog 13 pLe) lpLe LeS.T s 3 69 0 := by
  refine lp_rule (cx := ⟨Try.prog, tabOf ma5, inlF Try.prog (tabOf ma5) noHooks 2⟩) rma5 (inlF_ok rma5 2) (Λ := fun _ => none) (p := []) lpLe LeS.inv LeS.mu LeS.step LeS.T 3 69 0 (fun _ => ⟨rfl, rfl⟩) ?_ ?_ s h
  · intro s r h hi
    refine fl_ok (g := s.lt) (L := ixs s.at_ 8 1) (by kernel_rfl) (fun hg => ixs_hold (by decide) (LeS.at_nat hi hg).2 _)
  · exact LeS.good
end Go.Rf
