/- Memory: the loops of Store. -/
import Derived.Test.YtadkiiaagdhhlaaMa7
set_option linter.unusedVariables false
set_option linter.unusedSimpArgs false
set_option maxRecDepth 100000
namespace Go.Rf
open Go.Proofs
def updF (f : Fra) (i : Nat) (m : MSl) : Fra := fun j => ⟨if j = i then m.h else (f j).h, fun k => if j = i then m.b k else (f j).b k,
  ⟨if j = i then m.v.k else (f j).v.k, if j = i then m.v.m else (f j).v.m, if j = i then m.v.n else (f j).v.n, if j = i then m.v.o else (f j).v.o⟩⟩
theorem updF_eq (f : Fra) (i : Nat) (m : MSl) : updF f i m = fun j => if j = i then m else f j := by
  funext j
  unfold updF
  by_cases h : j = i <;> simp [h]
def updB (b : Nat → B8) (i : Nat) (x : B8) : Nat → B8 := fun q => if q = i then x else b q
structure SoS where
  f : Fra
  v : Val
  o : W
  s : W
  j : W
def kO (o : W) : Nat := ixN (qI o)
def bit8 (at_ : W) : B8 := 1#8 <<< jU at_
def byteN (n : W) (j : W) : B8 := convB .u64 .u8 (shrB .u64 n (jU (8#64 * j)))
def SoS.at_ (s : SoS) : W := remI s.o 8#64 + s.j
def SoS.f1 (s : SoS) : Fra := updF s.f (kO s.o) ⟨(s.f (kO s.o)).h ||| bit8 s.at_, (s.f (kO s.o)).b, (s.f (kO s.o)).v⟩
def SoS.f2 (s : SoS) : Fra := updF s.f1 (kO s.o) ⟨(s.f1 (kO s.o)).h, updB (s.f1 (kO s.o)).b (ixN s.at_) (byteN s.v.n s.j), (s.f1 (kO s.o)).v⟩
def SoS.lt (s : SoS) : Bool := ltB .i64 s.j s.s
def SoS.nxt (s : SoS) : SoS := ⟨s.f2, s.v, s.o, s.s, s.j + 1#64⟩
def SoS.step (s : SoS) : Rd SoS := .br s.lt (.norm s.nxt) (.exit 0 s)
structure SoS.inv (s : SoS) : Prop where
  le : s.j.toNat ≤ s.s.toNat
  room : (remI s.o 8#64).toNat + s.s.toNat ≤ 8
  ix : kO s.o < 64
def SoS.mu (s : SoS) : Nat := s.s.toNat - s.j.toNat
def SoS.run (s : SoS) : SoS := runN SoS.lt SoS.nxt 8 s
def SoS.rf (s : SoS) : Fra := s.run.f
def SoS.rj (s : SoS) : W := s.run.j
def SoS.T (s : SoS) : Rd SoS := .exit 0 ⟨s.rf, s.v, s.o, s.s, s.rj⟩
theorem SoS.T_eq : SoS.T = fun s => .exit 0 s.run := by
  funext s
  have h := runN_inv (go := SoS.lt) (next := SoS.nxt) (fun t => t.v = s.v ∧ t.o = s.o ∧ t.s = s.s) (fun t h _ => h) 8 s ⟨rfl, rfl, rfl⟩
  have h' : s.run.v = s.v ∧ s.run.o = s.o ∧ s.run.s = s.s := h
  unfold SoS.T SoS.rf SoS.rj
  rw [← h'.1, ← h'.2.1, ← h'.2.2]
theorem SoS.lt_iff {s : SoS} (h : s.inv) : s.lt = true ↔ s.j.toNat < s.s.toNat := by
  have h1 := h.le
  have h2 := h.room
  rw [SoS.lt, ltB_nat (by omega) (by omega), decide_eq_true_eq]
theorem SoS.dec (s : SoS) (h : s.inv) (hg : s.lt = true) : s.nxt.inv ∧ s.nxt.mu < s.mu := by
  rw [SoS.lt_iff h] at hg
  have h1 := h.le
  have h2 := h.room
  have e : (s.j + 1#64).toNat = s.j.toNat + 1 := succ_nat (by omega)
  refine ⟨⟨?_, h.room, h.ix⟩, ?_⟩
  · show (s.j + 1#64).toNat ≤ s.s.toNat; omega
  · show s.s.toNat - (s.j + 1#64).toNat < s.s.toNat - s.j.toNat; omega
theorem SoS.good : ∀ s : SoS, s.inv → Good SoS.inv SoS.mu SoS.T s s.step.sel := by
  rw [SoS.T_eq]
  refine good_run (go := SoS.lt) (next := SoS.nxt) SoS.dec (fun s h => by unfold SoS.mu; have := h.le; have := h.room; omega) ?_ ?_
  · intro s hi hg
    simp only [SoS.step, Rd.sel, hg, if_true]
  · intro s hi hg
    simp only [SoS.step, Rd.sel, hg, Bool.false_eq_true, if_false]
theorem SoS.at_nat {s : SoS} (h : s.inv) (hg : s.lt = true) : s.at_.toNat = (remI s.o 8#64).toNat + s.j.toNat ∧ s.at_.toNat < 8 := by
  rw [SoS.lt_iff h] at hg
  have h1 := h.le
  have h2 := h.room
  unfold SoS.at_
  rw [BitVec.toNat_add]
  omega
def pSo : List Nat := [1, 1, 1, 1, 1, 1, 1, 0, 1, 4]
noncomputable def lpSo : Lp SoS where
  keys := [61, 60, 1, 11, 7]
  names := [0, 1]
  scr := wrAt Try.prog 17 pSo
  vals s := [eI s.j, eI s.s, eI s.o, .ptr 0 [.idx (kO s.o) 13], .ptr 1 []]
  blks s := [⟨35, eFra s.f⟩, ⟨25, eVal s.v⟩]
  dec vs bs := match vs, bs with
    | [j, s, o, _, _], [⟨_, f⟩, ⟨_, v⟩] => match cI.dec j, cI.dec s, cI.dec o, cFra.dec f, cVal.dec v with
      | some j, some s, some o, some f, some v => some ⟨f, v, o, s, j⟩
      | _, _, _, _, _ => none
    | _, _ => none
end Go.Rf
namespace Go.Rf
open Go.Proofs
theorem goalSo (s : SoS) (h : s.inv) : LoopGoal Try.prog (loopAt Try.prog 17 pSo) lpSo SoS.T s 3 92 0 := by
  refine lp_rule (cx := ⟨Try.prog, tabOf ma6, inlF Try.prog (tabOf ma6) noHooks 2⟩) rma6 (inlF_ok rma6 2) (Λ := fun _ => none) (p := []) lpSo SoS.inv SoS.mu SoS.step SoS.T 3 92 0 (fun _ => ⟨rfl, rfl⟩) ?_ ?_ s h
  · intro s r h hi
    refine fl_ok (g := s.lt) (L := [kO s.o < 64, kO s.o < 64] ++ [0 ≤ toZ .i64 s.at_ ∧ toZ .i64 s.at_ < ((8 : Nat) : Int), kO s.o < 64, ixN s.at_ < 8]) (by kernel_rfl) (fun hg p hp => ?_)
    have ha := (SoS.at_nat hi hg).2
    have hk := hi.ix
    simp only [List.cons_append, List.nil_append, List.mem_cons, List.not_mem_nil, or_false] at hp
    rcases hp with rfl | rfl | rfl | rfl | rfl
    · exact hk
    · exact hk
    · rw [toZ_nat (by omega)]; omega
    · exact hk
    · rw [ixN_nat (by omega)]; exact ha
  · exact SoS.good
end Go.Rf
