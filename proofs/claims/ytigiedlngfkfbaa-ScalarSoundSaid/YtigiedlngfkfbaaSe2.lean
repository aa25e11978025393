/- Scalars: the document's Opposite. -/
import Derived.Test.YtigiedlngfkfbaaSe1
import Derived.Test.YtigiedlngfkfbaaRfF
set_option linter.unusedVariables false
set_option linter.unusedSimpArgs false
set_option maxRecDepth 100000
namespace Go.Rf
open Go.Proofs

noncomputable def ta1 : List (FuncId × Con) :=
  (29, con4 cI cBl cW cW fun op w a b => pair (eB (condPV op w a b)) (eI (condPE op w))) ::
  (30, con1 cI fun op => eI (notP op)) ::
  (31, con4 cSc cBl cSc cBl fun a ok b is => eR3 (both3 a ok b is)) ::
  (33, con2 cSc cW fun a n => pair (eSc (woP a n)) (eB (woPB a n))) ::
  (34, con4 cSc cSc cW cW fun a b m n => eR3 (above a b m n)) ::
  (38, con1 cI fun op => eI (plainD op)) ::
  (41, con2 cSc cW fun a n => pair (eSc (woD a n)) (eB (woDB a n))) ::
  (42, con3 cSc cW cW fun a m n => pair (eSc (wd a m n)) (eB (wdB a m n))) :: sf3
theorem rta1 : TabOk Try.prog (tabOf ta1) := tabOf_cons (tabOf_cons (tabOf_cons (tabOf_cons (tabOf_cons (tabOf_cons (tabOf_cons (tabOf_cons rsf3 k42) k41) k38) k34) k33) k31) k30) k29

def froF (j : Nat) : W := if j = 10 then 4#64 else if j = 9 then 12#64 else if j = 8 then 7#64 else if j = 7 then 13#64 else if j = 6 then 6#64 else if j = 5 then 10#64 else if j = 4 then 3#64 else if j = 3 then 11#64 else if j = 2 then 2#64 else if j = 1 then 5#64 else if j = 0 then 1#64 else 0#64
def toF (j : Nat) : W := if j = 10 then 100#64 else if j = 9 then 7#64 else if j = 8 then 12#64 else if j = 7 then 6#64 else if j = 6 then 13#64 else if j = 5 then 3#64 else if j = 4 then 10#64 else if j = 3 then 2#64 else if j = 2 then 11#64 else if j = 1 then 1#64 else if j = 0 then 5#64 else 0#64
structure OpS where
  i : W
  op : W
  r : W
def OpS.lt (s : OpS) : Bool := ltB .i64 s.i 11#64
def OpS.hit (s : OpS) : Bool := froF (ixN s.i) == s.op
def OpS.go (s : OpS) : Bool := s.lt && !s.hit
def OpS.nxt (s : OpS) : OpS := ⟨s.i + 1#64, s.op, s.r⟩
def OpS.rt (s : OpS) : OpS := ⟨s.i, s.op, toF (ixN s.i)⟩
def OpS.step (s : OpS) : Rd OpS := .br s.lt (.br s.hit (.ret s.rt) (.norm s.nxt)) (.exit 0 s)
def OpS.inv (s : OpS) : Prop := s.i.toNat ≤ 11
def OpS.mu (s : OpS) : Nat := 11 - s.i.toNat
theorem OpS.lt_eq {s : OpS} (h : s.inv) : s.lt = decide (s.i.toNat < 11) := by
  have h' : s.i.toNat ≤ 11 := h
  unfold OpS.lt
  rw [ltB_nat (by omega) (by decide)]; rfl
theorem OpS.dec (s : OpS) (h : s.inv) (hg : s.go = true) : s.nxt.inv ∧ s.nxt.mu < s.mu := by
  simp only [OpS.go, Bool.and_eq_true, OpS.lt_eq h, decide_eq_true_eq] at hg
  have e : s.nxt.i.toNat = s.i.toNat + 1 := succ_nat (by omega)
  simp only [OpS.inv, OpS.mu, e]
  omega
def OpS.run (s : OpS) : OpS := runN OpS.go OpS.nxt 11 s
def OpS.T (s : OpS) : Rd OpS := .br s.run.lt (.ret s.run.rt) (.exit 0 s.run)
theorem OpS.good : ∀ s, OpS.inv s → Good OpS.inv OpS.mu OpS.T s s.step.sel := by
  refine good_ret (go := OpS.go) (next := OpS.nxt) (out := OpS.lt) (rt := OpS.rt) OpS.dec (fun s h => by unfold OpS.mu; omega) ?_ ?_ ?_
  · intro s hi hg
    simp only [OpS.go, Bool.and_eq_true, Bool.not_eq_true'] at hg
    unfold OpS.step
    simp only [Rd.sel, hg.1, hg.2, if_true, Bool.false_eq_true, if_false]
  · intro s hi hg ho
    have h3 : s.hit = true := by
      unfold OpS.go at hg
      rw [ho] at hg
      simpa using hg
    simp only [OpS.step, Rd.sel, ho, h3, if_true]
  · intro s hi hg ho
    simp only [OpS.step, Rd.sel, ho, Bool.false_eq_true, if_false]
def arW (f : Nat → W) : AV := .arr 11 (.int .i64 fun ix => f (ix.headD 0))
def pOp : List Nat := [1, 1, 1, 0, 1, 4]
noncomputable def lpOp : Lp OpS where
  keys := [5, 3, 0, 4, 2]
  names := [0, 1]
  scr := wrAt Try.prog 37 pOp
  vals s := [eI s.i, .ptr 0 [], eI s.op, .ptr 1 [], eI s.r]
  blks s := [⟨99, arW froF⟩, ⟨99, arW toF⟩]
  dec vs bs := match vs with
    | [i, _, o, _, r] => match cI.dec i, cI.dec o, cI.dec r with
      | some i, some o, some r => some ⟨i, o, r⟩
      | _, _, _ => none
    | _ => none
theorem goalOp (s : OpS) (h : s.inv) : LoopGoal Try.prog (loopAt Try.prog 37 pOp) lpOp OpS.T s 2 21 0 := by
  refine lp_rule (cx := ⟨Try.prog, tabOf ta1, inlF Try.prog (tabOf ta1) noHooks 2⟩) rta1 (inlF_ok rta1 2) (Λ := fun _ => none) (p := []) lpOp OpS.inv OpS.mu OpS.step OpS.T 2 21 0 (fun _ => ⟨rfl, rfl⟩) ?_ ?_ s h
  · intro s r h hi
    refine fl_ok (g := s.lt) (L := ixs s.i 11 2) (by kernel_rfl) (fun hg => ixs_hold (by decide) ?_ _)
    rw [OpS.lt_eq hi, decide_eq_true_eq] at hg
    exact hg
  · exact OpS.good
noncomputable def hOp : FuncId → Hook := fun f p => if f == 37 && p == pOp then some (lpOp.hk OpS.T) else none
def opEnd (op : W) : OpS := OpS.run ⟨0#64, op, 0#64⟩
def oppR (op : W) : W := bif (opEnd op).lt then toF (ixN (opEnd op).i) else (opEnd op).op
theorem ev_two {P : Program} {Γ : Tab} {Λ : FuncId → Hook} {n : Nat} {f : FuncId} {args : List AV} {r : AV} {L : List Prop} (h1 : (fl (evalN P Γ Λ n f args)).map (fun y => y.1) = some r) (h2 : (fl (evalN P Γ Λ n f args)).map (fun y => y.2.2) = some L) (hL : ∀ p ∈ L, p) : Ev P Γ Λ n f args r := by
  obtain ⟨ob, q1, q2⟩ := fl_two h1 h2 hL
  exact Ev.ob q1 q2
theorem kk37 : ConOk Try.prog 37 (con1 cI fun op => eI (oppR op)) :=
  con1_ok rta1 (Λ := hOp) 5 (fun _ => rfl) (fun op => ev_two (L := [LoopGoal Try.prog (loopAt Try.prog 37 pOp) lpOp OpS.T ⟨0#64, op, 0#64⟩ 2 21 0]) (by kernel_rfl) (by kernel_rfl)
    (fun p hp => by simp only [List.mem_singleton] at hp; subst hp; exact goalOp _ (by show (0#64 : W).toNat ≤ 11; decide)))
def oppL : List (W × W) := [(1#64, 5#64), (5#64, 1#64), (2#64, 11#64), (11#64, 2#64), (3#64, 10#64), (10#64, 3#64), (6#64, 13#64), (13#64, 6#64), (7#64, 12#64), (12#64, 7#64), (4#64, 100#64)]
def oppD (op : W) : W := chain op oppL op
theorem opp_eq (op : W) : oppR op = oppD op := by
  by_cases h1 : op = 1#64; · subst h1; decide
  by_cases h2 : op = 2#64; · subst h2; decide
  by_cases h3 : op = 3#64; · subst h3; decide
  by_cases h4 : op = 4#64; · subst h4; decide
  by_cases h5 : op = 5#64; · subst h5; decide
  by_cases h6 : op = 6#64; · subst h6; decide
  by_cases h7 : op = 7#64; · subst h7; decide
  by_cases h10 : op = 10#64; · subst h10; decide
  by_cases h11 : op = 11#64; · subst h11; decide
  by_cases h12 : op = 12#64; · subst h12; decide
  by_cases h13 : op = 13#64; · subst h13; decide
  have hit : ∀ i, i < 11 → (froF i == op) = false := by
    intro i hi
    have : i = 0 ∨ i = 1 ∨ i = 2 ∨ i = 3 ∨ i = 4 ∨ i = 5 ∨ i = 6 ∨ i = 7 ∨ i = 8 ∨ i = 9 ∨ i = 10 := by omega
    rcases this with rfl | rfl | rfl | rfl | rfl | rfl | rfl | rfl | rfl | rfl | rfl <;> (rw [beq_eq_false_iff_ne]; intro e; simp [froF] at e; exact absurd e.symm ‹_›)
  have hrun : opEnd op = ⟨BitVec.ofNat 64 11, op, 0#64⟩ := by
    refine runN_count (go := OpS.go) (next := OpS.nxt) (fun i => ⟨BitVec.ofNat 64 i, op, 0#64⟩) 11 (fun i hi => ?_) (fun i hi => ?_)
    · unfold OpS.go OpS.lt OpS.hit
      rw [show (11#64 : W) = BitVec.ofNat 64 11 from rfl, ltB_ofNat (by omega) (by omega)]
      by_cases h : i < 11
      · rw [ixN_ofNat (by omega), hit i h]; simp
      · simp [h]
    · unfold OpS.nxt
      rw [ofNat_succ]
  have e1 : oppR op = op := by
    unfold oppR
    rw [hrun]
    rfl
  have b : ∀ k : W, op ≠ k → (op == k) = false := fun k h => by simpa using h
  rw [e1]
  simp only [oppD, oppL, chain, b _ h1, b _ h2, b _ h3, b _ h4, b _ h5, b _ h6, b _ h7, b _ h10, b _ h11, b _ h12, b _ h13, cond_false]
theorem k37 : ConOk Try.prog 37 (con1 cI fun op => eI (oppD op)) :=
  (show (con1 cI fun op => eI (oppR op)) = (con1 cI fun op => eI (oppD op)) from congrArg _ (by funext op; rw [opp_eq])) ▸ kk37
noncomputable def ta2 : List (FuncId × Con) := (37, con1 cI fun op => eI (oppD op)) :: ta1
theorem rta2 : TabOk Try.prog (tabOf ta2) := tabOf_cons rta1 k37
end Go.Rf
