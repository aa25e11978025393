/- Memory: the loop of the document's Store. -/
import Derived.Test.YtadkiiaagdhhlaaMa8
set_option linter.unusedVariables false
set_option linter.unusedSimpArgs false
set_option maxRecDepth 100000
namespace Go.Rf
open Go.Proofs
structure SeS where
  x : MSl
  n : W
  o : W
  s : W
  j : W
def lowB (n : W) : B8 := convB .u64 .u8 (remB .u64 n 256#64)
def highW (n : W) : W := quoB .u64 n 256#64
def SeS.at_ (s : SeS) : W := remI s.o 8#64 + s.j
def SeS.lt (s : SeS) : Bool := ltB .i64 s.j s.s
def SeS.c (s : SeS) : Bool := !hasM s.x s.at_
def SeS.nA (s : SeS) : SeS := ⟨⟨s.x.h + bit8 s.at_, updB s.x.b (ixN s.at_) (lowB s.n), s.x.v⟩, highW s.n, s.o, s.s, s.j + 1#64⟩
def SeS.nB (s : SeS) : SeS := ⟨⟨s.x.h, updB s.x.b (ixN s.at_) (lowB s.n), s.x.v⟩, highW s.n, s.o, s.s, s.j + 1#64⟩
def SeS.nxt (s : SeS) : SeS := if s.c = true then s.nA else s.nB
def SeS.step (s : SeS) : Rd SeS := .br s.lt (.br s.c (.norm s.nA) (.norm s.nB)) (.exit 0 s)
structure SeS.inv (s : SeS) : Prop where
  le : s.j.toNat ≤ s.s.toNat
  room : (remI s.o 8#64).toNat + s.s.toNat ≤ 8
def SeS.mu (s : SeS) : Nat := s.s.toNat - s.j.toNat
def SeS.run (s : SeS) : SeS := runN SeS.lt SeS.nxt 8 s
def SeS.rh (s : SeS) : B8 := s.run.x.h
def SeS.rb (s : SeS) : Nat → B8 := s.run.x.b
def SeS.rn (s : SeS) : W := s.run.n
def SeS.rj (s : SeS) : W := s.run.j
def SeS.T (s : SeS) : Rd SeS := .exit 0 ⟨⟨s.rh, s.rb, s.x.v⟩, s.rn, s.o, s.s, s.rj⟩
theorem SeS.nxt_facts (s : SeS) : s.nxt.x.v = s.x.v ∧ s.nxt.o = s.o ∧ s.nxt.s = s.s ∧ s.nxt.j = s.j + 1#64 := by
  unfold SeS.nxt; split <;> exact ⟨rfl, rfl, rfl, rfl⟩
theorem SeS.T_eq : SeS.T = fun s => .exit 0 s.run := by
  funext s
  have h := runN_inv (go := SeS.lt) (next := SeS.nxt) (fun t => t.x.v = s.x.v ∧ t.o = s.o ∧ t.s = s.s) (fun t h _ => by
    have := SeS.nxt_facts t
    exact ⟨this.1.trans h.1, this.2.1.trans h.2.1, this.2.2.1.trans h.2.2⟩) 8 s ⟨rfl, rfl, rfl⟩
  have h' : s.run.x.v = s.x.v ∧ s.run.o = s.o ∧ s.run.s = s.s := h
  unfold SeS.T SeS.rh SeS.rb SeS.rn SeS.rj
  rw [← h'.1, ← h'.2.1, ← h'.2.2]
theorem SeS.lt_iff {s : SeS} (h : s.inv) : s.lt = true ↔ s.j.toNat < s.s.toNat := by
  have h1 := h.le
  have h2 := h.room
  rw [SeS.lt, ltB_nat (by omega) (by omega), decide_eq_true_eq]
theorem SeS.dec (s : SeS) (h : s.inv) (hg : s.lt = true) : s.nxt.inv ∧ s.nxt.mu < s.mu := by
  rw [SeS.lt_iff h] at hg
  have h1 := h.le
  have h2 := h.room
  have e : (s.j + 1#64).toNat = s.j.toNat + 1 := succ_nat (by omega)
  have f := SeS.nxt_facts s
  refine ⟨⟨?_, ?_⟩, ?_⟩
  · rw [f.2.2.2, f.2.2.1]; omega
  · rw [f.2.1, f.2.2.1]; exact h.room
  · unfold SeS.mu; rw [f.2.2.2, f.2.2.1]; omega
theorem SeS.good : ∀ s : SeS, s.inv → Good SeS.inv SeS.mu SeS.T s s.step.sel := by
  rw [SeS.T_eq]
  refine good_run (go := SeS.lt) (next := SeS.nxt) SeS.dec (fun s h => by unfold SeS.mu; have := h.le; have := h.room; omega) ?_ ?_
  · intro s hi hg
    simp only [SeS.step, Rd.sel, hg, if_true, SeS.nxt]
    split <;> rfl
  · intro s hi hg
    simp only [SeS.step, Rd.sel, hg, Bool.false_eq_true, if_false]
theorem SeS.at_nat {s : SeS} (h : s.inv) (hg : s.lt = true) : s.at_.toNat = (remI s.o 8#64).toNat + s.j.toNat ∧ s.at_.toNat < 8 := by
  rw [SeS.lt_iff h] at hg
  have h1 := h.le
  have h2 := h.room
  unfold SeS.at_
  rw [BitVec.toNat_add]
  omega
def pSe : List Nat := [1, 1, 1, 1, 1, 1, 1, 1, 1, 1, 0, 1, 4]
noncomputable def lpSe : Lp SeS where
  keys := [14, 2, 1, 12, 13]
  names := [3]
  scr := wrAt Try.prog 18 pSe
  vals s := [eI s.j, eI s.s, eI s.o, .ptr 3 [], eW s.n]
  blks s := [⟨27, eMSl s.x⟩]
  dec vs bs := match vs, bs with
    | [j, s, o, _, n], [⟨_, x⟩] => match cI.dec j, cI.dec s, cI.dec o, cW.dec n, cMSl.dec x with
      | some j, some s, some o, some n, some x => some ⟨x, n, o, s, j⟩
      | _, _, _, _, _ => none
    | _, _ => none
theorem goalSe (s : SeS) (h : s.inv) : LoopGoal Try.prog (loopAt Try.prog 18 pSe) lpSe SeS.T s 4 94 0 := by
  refine lp_rule (cx := ⟨Try.prog, tabOf ma6, inlF Try.prog (tabOf ma6) noHooks 2⟩) rma6 (inlF_ok rma6 2) (Λ := fun _ => none) (p := []) lpSe SeS.inv SeS.mu SeS.step SeS.T 4 94 0 (fun _ => ⟨rfl, rfl⟩) ?_ ?_ s h
  · intro s r h hi
    refine fl_ok (g := s.lt) (L := [0 ≤ toZ .i64 s.at_ ∧ toZ .i64 s.at_ < ((8 : Nat) : Int), ixN s.at_ < 8, 0 ≤ toZ .i64 s.at_ ∧ toZ .i64 s.at_ < ((8 : Nat) : Int), ixN s.at_ < 8]) (by kernel_rfl) (fun hg p hp => ?_)
    have ha := (SeS.at_nat hi hg).2
    simp only [List.mem_cons, List.not_mem_nil, or_false] at hp
    rcases hp with rfl | rfl | rfl | rfl
    · rw [toZ_nat (by omega)]; omega
    · rw [ixN_nat (by omega)]; exact ha
    · rw [toZ_nat (by omega)]; omega
    · rw [ixN_nat (by omega)]; exact ha
  · exact SeS.good
end Go.Rf
