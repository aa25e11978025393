/- States: what a slot's knowledge holds. -/
import Derived.Test.YtflnkcibjebdeaaSt12
set_option linter.unusedVariables false
set_option linter.unusedSimpArgs false
set_option maxRecDepth 100000
namespace Go.Rf
open Go.Proofs
structure DnS where
  x : MSl
  n : W
  j : W
def zx (b : B8) : W := convB .u8 .u64 b
def f1 (n : W) (b : B8) : W := n <<< amt .u64 8#64 ||| zx b
def f2 (n : W) (b : B8) : W := 256#64 * n + zx b
def DnS.go (s : DnS) : Bool := leB .i64 0#64 s.j
def DnS.n1 (s : DnS) : DnS := ⟨s.x, f1 s.n (s.x.b (ixN (0#64 + s.j))), s.j - 1#64⟩
def DnS.n2 (s : DnS) : DnS := ⟨s.x, f2 s.n (s.x.b (ixN s.j)), s.j - 1#64⟩
def DnS.inv (s : DnS) : Prop := -1 ≤ s.j.toInt ∧ s.j.toInt ≤ 7
def DnS.mu (s : DnS) : Nat := (s.j.toInt + 1).toNat
theorem DnS.go_iff {s : DnS} : s.go = true ↔ 0 ≤ s.j.toInt := by
  have z : (0#64 : W).toInt = 0 := rfl
  rw [DnS.go, leI, decide_eq_true_eq, z]
theorem predZ {x : W} (h : 0 ≤ x.toInt) : (x - 1#64).toInt = x.toInt - 1 := by
  have e : (1#64 : W).toInt = 1 := rfl
  have hb := x.toInt_lt
  rw [BitVec.toInt_sub, e, Int.bmod_def]
  omega
theorem DnS.dec (s t : DnS) (ht : t.j = s.j - 1#64) (h : s.inv) (hg : s.go = true) : t.inv ∧ t.mu < s.mu := by
  rw [DnS.go_iff] at hg
  have := predZ hg
  unfold DnS.inv DnS.mu at *
  rw [ht, this]
  omega
def DnS.s1 (id : Nat) (s : DnS) : Rd DnS := .br s.go (.norm s.n1) (.exit id s)
def DnS.s2 (id : Nat) (s : DnS) : Rd DnS := .br s.go (.norm s.n2) (.exit id s)
def DnS.r1 (s : DnS) : W := (runN DnS.go DnS.n1 8 s).n
def DnS.q1 (s : DnS) : W := (runN DnS.go DnS.n1 8 s).j
def DnS.r2 (s : DnS) : W := (runN DnS.go DnS.n2 8 s).n
def DnS.q2 (s : DnS) : W := (runN DnS.go DnS.n2 8 s).j
def DnS.T1 (id : Nat) (s : DnS) : Rd DnS := .exit id ⟨s.x, s.r1, s.q1⟩
def DnS.T2 (id : Nat) (s : DnS) : Rd DnS := .exit id ⟨s.x, s.r2, s.q2⟩
theorem DnS.T1_eq (id : Nat) : DnS.T1 id = fun s => .exit id (runN DnS.go DnS.n1 8 s) := by
  funext s
  have h : (runN DnS.go DnS.n1 8 s).x = s.x := runN_inv (go := DnS.go) (next := DnS.n1) (fun t => t.x = s.x) (fun t h _ => h) 8 s rfl
  unfold DnS.T1 DnS.r1 DnS.q1
  rw [← h]
theorem DnS.T2_eq (id : Nat) : DnS.T2 id = fun s => .exit id (runN DnS.go DnS.n2 8 s) := by
  funext s
  have h : (runN DnS.go DnS.n2 8 s).x = s.x := runN_inv (go := DnS.go) (next := DnS.n2) (fun t => t.x = s.x) (fun t h _ => h) 8 s rfl
  unfold DnS.T2 DnS.r2 DnS.q2
  rw [← h]
theorem DnS.good1 (id : Nat) : ∀ s : DnS, s.inv → Good DnS.inv DnS.mu (DnS.T1 id) s (s.s1 id).sel := by
  rw [DnS.T1_eq]
  refine good_run (go := DnS.go) (next := DnS.n1) (fun s h hg => DnS.dec s s.n1 rfl h hg) (fun s h => by have := h.2; unfold DnS.mu; omega) ?_ ?_
  · intro s hi hg
    simp only [DnS.s1, Rd.sel, hg, if_true]
  · intro s hi hg
    simp only [DnS.s1, Rd.sel, hg, Bool.false_eq_true, if_false]
theorem DnS.good2 (id : Nat) : ∀ s : DnS, s.inv → Good DnS.inv DnS.mu (DnS.T2 id) s (s.s2 id).sel := by
  rw [DnS.T2_eq]
  refine good_run (go := DnS.go) (next := DnS.n2) (fun s h hg => DnS.dec s s.n2 rfl h hg) (fun s h => by have := h.2; unfold DnS.mu; omega) ?_ ?_
  · intro s hi hg
    simp only [DnS.s2, Rd.sel, hg, if_true]
  · intro s hi hg
    simp only [DnS.s2, Rd.sel, hg, Bool.false_eq_true, if_false]
theorem DnS.nat {s : DnS} (h : s.inv) (hg : s.go = true) : s.j.toNat < 8 := by
  rw [DnS.go_iff] at hg
  have := nat_of_int hg
  have := h.2
  omega
def pGe : List Nat := [1, 1, 1, 0, 1, 4]
noncomputable def lpGe : Lp DnS where
  keys := [10, 9, 0, 1]
  names := [1]
  scr := wrAt Try.prog 51 pGe
  vals s := [eI s.j, eW s.n, .slc 1 [.fld 1 1] (.lit .i64 8) 8, eI 0#64]
  blks s := [⟨51, eMSl s.x⟩]
  dec vs bs := match vs, bs with
    | [j, n, _, _], [⟨_, x⟩] => match cI.dec j, cW.dec n, cMSl.dec x with
      | some j, some n, some x => some ⟨x, n, j⟩
      | _, _, _ => none
    | _, _ => none
theorem goalGe (s : DnS) (h : s.inv) : LoopGoal Try.prog (loopAt Try.prog 51 pGe) lpGe (DnS.T1 0) s 2 35 2 := by
  refine lp_rule (cx := ⟨Try.prog, tabOf sv6, inlF Try.prog (tabOf sv6) noHooks 2⟩) rsv6 (inlF_ok rsv6 2) (Λ := fun _ => none) (p := []) lpGe DnS.inv DnS.mu (DnS.s1 0) (DnS.T1 0) 2 35 2 (fun _ => ⟨rfl, rfl⟩) ?_ ?_ s h
  · intro s r h hi
    exact fl_ok (g := s.go) (L := ixs (0#64 + s.j) 8 1) (by kernel_rfl) (fun hg => ixs_hold (by decide) (by rw [BitVec.zero_add]; exact DnS.nat hi hg) _)
  · exact DnS.good1 0
noncomputable def hGe : FuncId → Hook := fun f p => if f == 51 && p == pGe then some (lpGe.hk (DnS.T1 0)) else none
def numP (b : Nat → B8) : W := f1 (f1 (f1 (f1 (f1 (f1 (f1 (f1 0#64 (b 7)) (b 6)) (b 5)) (b 4)) (b 3)) (b 2)) (b 1)) (b 0)
def numQ (b : Nat → B8) : W := f2 (f2 (f2 (f2 (f2 (f2 (f2 (f2 0#64 (b 7)) (b 6)) (b 5)) (b 4)) (b 3)) (b 2)) (b 1)) (b 0)
theorem runP (x : MSl) : DnS.r1 ⟨x, 0#64, 7#64⟩ = numP x.b := by kernel_rfl
theorem runD (x : MSl) : DnS.r2 ⟨x, 0#64, 7#64⟩ = numQ x.b := by kernel_rfl
noncomputable def bytesP (x : Slt) (m : MSl) (pk : W) : Bool :=
  bif x.r.k == 0#8 && x.h == 0#8 then true else bif x.r.k == 0#8 then m.v.k == 0#8 && and8 m.h x.h == x.h else bif m.v.k != 0#8 then holdsR x.r m.v pk else
  m.h == 255#8 && holdsR x.r ⟨1#8, 0#64, DnS.r1 ⟨m, 0#64, 7#64⟩, 0#64⟩ pk
noncomputable def bytesS (x : Slt) (m : MSl) (pk : W) : Bool :=
  bif x.r.k == 0#8 && x.h == 0#8 then true else bif x.r.k == 0#8 then m.v.k == 0#8 && and8 m.h x.h == x.h else bif m.v.k != 0#8 then holdsR x.r m.v pk else
  m.h == 255#8 && holdsR x.r ⟨1#8, 0#64, numP m.b, 0#64⟩ pk
noncomputable def fHs : (Slt × MSl) → W → Bool := fun d j => and1 (shr8 d.1.h (jI j)) == 1#8 && and1 (shr8 d.2.h (jI j)) == 0#8
def pHs : List Nat := [1, 0, 1, 2, 1, 1, 0, 1, 4]
noncomputable def lpHs : Lp (AL (Slt × MSl)) where
  keys := [7, 3, 4, 6]
  names := [0, 1]
  scr := wrAt Try.prog 36 pHs
  vals s := [eI s.i, .ptr 0 [], .ptr 1 [], eB false]
  blks s := [⟨33, eSlt s.d.1⟩, ⟨45, eMSl s.d.2⟩]
  dec vs bs := match vs, bs with
    | [i, _, _, _], [⟨_, x⟩, ⟨_, m⟩] => match cI.dec i, cSlt.dec x, cMSl.dec m with
      | some i, some x, some m => some ⟨(x, m), i⟩
      | _, _, _ => none
    | _, _ => none
theorem goalHs (s : AL (Slt × MSl)) (h : s.inv 8) : LoopGoal Try.prog (loopAt Try.prog 36 pHs) lpHs (AL.T 8 fHs 0) s 2 70 0 := by
  refine lp_rule (cx := ⟨Try.prog, tabOf sv6, inlF Try.prog (tabOf sv6) noHooks 2⟩) rsv6 (inlF_ok rsv6 2) (Λ := fun _ => none) (p := []) lpHs (AL.inv 8) (AL.mu 8) (AL.step 8 fHs 0) (AL.T 8 fHs 0) 2 70 0 (fun _ => ⟨rfl, rfl⟩) ?_ ?_ s h
  · intro s r h hi
    exact fl_ok (g := s.lt 8) (L := [0 ≤ toZ .i64 s.i, 0 ≤ toZ .i64 s.i]) (by kernel_rfl) (fun hg p hp => by
      simp only [List.mem_cons, List.not_mem_nil, or_false, or_self] at hp
      subst hp
      exact (AL.ix1 8 hi hg _ (List.mem_singleton.2 rfl)).1)
  · exact AL.good 8 fHs 0
end Go.Rf
