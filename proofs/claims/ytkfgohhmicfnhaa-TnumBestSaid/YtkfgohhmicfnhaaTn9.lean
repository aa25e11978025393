/- The document's operations on numbers (layer 1). -/
import Derived.Test.YtkfgohhmicfnhaaTn8
set_option linter.unusedVariables false
set_option linter.unusedSimpArgs false
namespace Go.Rf
open Go.Proofs

def fitW (wide : Bool) (a : W) : W := bif wide then a else a % 4294967296#64
def sizeW (wide : Bool) : W := bif wide then 64#64 else 32#64

theorem k56 : ConOk Try.prog 56 (con2 cB cW fun wide a => cW.enc (fitW wide a)) :=
  con2_ok gA (Λ := noHooks) 5 (fun _ _ => rfl) (fun x y => Ev.of (by kernel_rfl))
theorem k69 : ConOk Try.prog 69 (con1 cB fun wide => cW.enc (sizeW wide)) :=
  con1_ok gA (Λ := noHooks) 5 (fun _ => rfl) (fun x => Ev.of (by kernel_rfl))
def lB : List (FuncId × Con) := (56, con2 cB cW fun wide a => cW.enc (fitW wide a)) :: (69, con1 cB fun wide => cW.enc (sizeW wide)) :: lA
theorem gB : TabOk Try.prog (tabOf lB) := tabOf_cons (tabOf_cons gA k69) k56

structure AlS where
  by' : W
  r : W
  top : W
  i : W

def pAl : List Nat := [1, 1, 1, 1, 1, 0, 1, 4, 1, 3, 1, 3, 1, 3, 1, 3, 1, 3, 1, 3, 1, 3, 1, 3, 1, 3, 1, 3, 1, 3, 1, 3, 1, 2, 1, 1, 1, 4]

noncomputable def lpAl : Lp AlS where
  keys := [12, 13, 14, 15]
  names := []
  scr := wrAt Try.prog 31 pAl
  vals s := [cW.enc s.by', cW.enc s.r, cW.enc s.top, cW.enc s.i]
  blks s := []
  dec vs bs := match vs with
    | [a, b, c, d] => match cW.dec a, cW.dec b, cW.dec c, cW.dec d with
      | some a, some b, some c, some d => some ⟨a, b, c, d⟩
      | _, _, _, _ => none
    | _ => none

def AlS.go (s : AlS) : Bool := ltB .u64 s.i s.by'
def AlS.nxt (s : AlS) : AlS := ⟨s.by', (s.r >>> 1) ||| (s.r &&& s.top), s.top, s.i + 1#64⟩
def AlS.step (s : AlS) : Rd AlS := .br s.go (.norm s.nxt) (.exit 1 s)
def AlS.inv (s : AlS) : Prop := s.by'.toNat ≤ 64 ∧ s.i.toNat ≤ s.by'.toNat
def AlS.mu (s : AlS) : Nat := s.by'.toNat - s.i.toNat

theorem AlS.go_iff (s : AlS) : s.go = decide (s.i.toNat < s.by'.toNat) := rfl

theorem AlS.dec (s : AlS) (h : s.inv) (hg : s.go = true) : s.nxt.inv ∧ s.nxt.mu < s.mu := by
  rw [AlS.go_iff, decide_eq_true_eq] at hg
  have h1 := h.1
  have e : s.nxt.i.toNat = s.i.toNat + 1 := succ_nat (by omega)
  have e2 : s.nxt.by' = s.by' := rfl
  simp only [AlS.inv, AlS.mu, e, e2]
  omega

def alT (s : AlS) : Rd AlS := .exit 1 (runN AlS.go AlS.nxt 64 s)

theorem alGoal (s : AlS) (h : s.inv) (n : Nat) (hn : n = 0) : LoopGoal Try.prog (loopAt Try.prog 31 pAl) lpAl alT s n 118 0 := by
  subst hn
  refine lp_rule (cx := ⟨Try.prog, tabOf lB, inlF Try.prog (tabOf lB) noHooks 2⟩) gB (inlF_ok gB 2) (Λ := fun _ => none) (p := []) lpAl AlS.inv AlS.mu AlS.step alT 0 118 0 (fun _ => ⟨rfl, rfl⟩) ?_ ?_ s h
  · intro s r h hi
    exact ⟨.tt, by kernel_rfl, trivial⟩
  · refine good_run AlS.dec (fun s h => by have := h.1; simp only [AlS.mu]; omega) ?_ ?_
    · intro s hi hg
      simp only [AlS.step, Rd.sel, hg, if_true]
    · intro s hi hg
      simp only [AlS.step, Rd.sel, hg, Bool.false_eq_true, if_false]

noncomputable def hAl : FuncId → Hook := fun f p => if f == 31 && p == pAl then some (lpAl.hk alT) else none

def badOp (op : W) : Bool := ltB .i64 op 0#64 || ltB .i64 12#64 op
def pos (wide : Bool) (b : W) : Bool := ltB .u64 0#64 (fitW wide b)
def byW (wide : Bool) (b : W) : W := remB .u64 (fitW wide b) (sizeW wide)
def arS (wide : Bool) (a b : W) : AlS := ⟨byW wide b, fitW wide a, 1#64 <<< amt .u64 (sizeW wide - 1#64), 0#64⟩
def aluV (op : W) (wide : Bool) (a b : W) : W :=
  bif badOp op then 0#64
  else bif op == 0#64 then fitW wide (fitW wide a + fitW wide b)
  else bif op == 1#64 then fitW wide (fitW wide a - fitW wide b)
  else bif op == 2#64 then fitW wide (fitW wide a * fitW wide b)
  else bif op == 3#64 then (bif pos wide b then fitW wide (quoB .u64 (fitW wide a) (fitW wide b)) else fitW wide 0#64)
  else bif op == 4#64 then fitW wide (fitW wide a ||| fitW wide b)
  else bif op == 5#64 then fitW wide (fitW wide a &&& fitW wide b)
  else bif op == 6#64 then fitW wide (fitW wide a <<< amt .u64 (byW wide b))
  else bif op == 7#64 then fitW wide (shrB .u64 (fitW wide a) (amt .u64 (byW wide b)))
  else bif op == 8#64 then fitW wide (0#64 - fitW wide a)
  else bif op == 9#64 then (bif pos wide b then fitW wide (remB .u64 (fitW wide a) (fitW wide b)) else fitW wide (fitW wide a))
  else bif op == 10#64 then fitW wide (fitW wide a ^^^ fitW wide b)
  else bif op == 11#64 then fitW wide (fitW wide b)
  else bif op == 12#64 then fitW wide (runN AlS.go AlS.nxt 64 (arS wide a b)).r
  else fitW wide 0#64
def aluE (op : W) : W := bif badOp op then 20#64 else 0#64

def nzOb (wide : Bool) (b : W) : Ob := .imp (pos wide b) true (.pr (fitW wide b ≠ 0#64))
def aluOb (op : W) (wide : Bool) (a b : W) : Ob :=
  .imp (badOp op) false <| .two (.pr (sizeW wide ≠ 0#64)) <| .imp (op == 0#64) false <| .imp (op == 1#64) false <| .imp (op == 2#64) false <|
    .two (.imp (op == 3#64) true (nzOb wide b)) <| .imp (op == 3#64) false <| .imp (op == 4#64) false <| .imp (op == 5#64) false <| .imp (op == 6#64) false <| .imp (op == 7#64) false <| .imp (op == 8#64) false <|
      .two (.imp (op == 9#64) true (nzOb wide b)) <| .imp (op == 9#64) false <| .imp (op == 10#64) false <| .imp (op == 11#64) false <| .imp (op == 12#64) true <|
        .pr (LoopGoal Try.prog (loopAt Try.prog 31 pAl) lpAl alT (arS wide a b) 0 118 0)

theorem sizeW_pos (wide : Bool) : sizeW wide ≠ 0#64 := by cases wide <;> decide
theorem pos_ne {wide : Bool} {b : W} (h : pos wide b = true) : fitW wide b ≠ 0#64 := by
  intro e
  have h' : pos wide b = decide ((0#64 : W).toNat < (fitW wide b).toNat) := rfl
  rw [h', e] at h
  simp at h

theorem byW_le (wide : Bool) (b : W) : (byW wide b).toNat ≤ 64 := by
  have e : byW wide b = fitW wide b % sizeW wide := rfl
  rw [e, BitVec.toNat_umod]
  cases wide with
  | true =>
    have : (sizeW true).toNat = 64 := rfl
    rw [this]; omega
  | false =>
    have : (sizeW false).toNat = 32 := rfl
    rw [this]; omega

theorem aluOb_holds (op : W) (wide : Bool) (a b : W) : (aluOb op wide a b).holds := by
  intro _
  refine ⟨sizeW_pos wide, fun _ _ _ => ⟨fun _ h => pos_ne h, fun _ _ _ _ _ _ => ⟨fun _ h => pos_ne h, fun _ _ _ _ => ?_⟩⟩⟩
  exact alGoal _ ⟨byW_le wide b, by show (0#64 : W).toNat ≤ _; exact Nat.zero_le _⟩ 0 rfl

theorem k31 : ConOk Try.prog 31 (con4 cI cB cW cW fun op wide a b => pair (cW.enc (aluV op wide a b)) (eI (aluE op))) :=
  con4_ok gB (Λ := hAl) 5 (fun _ _ _ _ => rfl) (fun op wide a b => Ev.ob (ob := aluOb op wide a b) (by kernel_rfl) (aluOb_holds op wide a b))

theorem k28 : ConOk Try.prog 28 (con2 cTn cW fun t n => cW.enc (t.v ||| n &&& t.m)) :=
  con2_ok gB (Λ := noHooks) 5 (fun _ _ => rfl) (fun x y => Ev.of (by kernel_rfl))
def doneT (op : W) (a b : Tn) : Tn :=
  Tn.mux (op == 0#64) (Tn.mux (bad2 a b) nil (tAdd a b)) (Tn.mux (op == 1#64) (Tn.mux (bad2 a b) nil (tSub a b)) (Tn.mux (op == 2#64) (Tn.mux (bad2 a b) nil (tMul a b))
    (Tn.mux (op == 4#64) (Tn.mux (bad2 a b) nil (tOr a b)) (Tn.mux (op == 5#64) (Tn.mux (bad2 a b) nil (tAnd a b)) (Tn.mux (bad2 a b) nil (tXor a b))))))
def errB (a b : Tn) : W := bif bad2 a b then 1#64 else 0#64
def doneE (op : W) (a b : Tn) : W := bif op == 0#64 then errB a b else bif op == 1#64 then errB a b else bif op == 2#64 then errB a b else bif op == 4#64 then errB a b else bif op == 5#64 then errB a b else errB a b
theorem k30 : ConOk Try.prog 30 (con3 cI cTn cTn fun op a b => pair (eTn (doneT op a b)) (eI (doneE op a b))) :=
  con3_ok gB (Λ := noHooks) 5 (fun _ _ _ => rfl) (fun op a b => Ev.of (by kernel_rfl))

def lC : List (FuncId × Con) :=
  (31, con4 cI cB cW cW fun op wide a b => pair (cW.enc (aluV op wide a b)) (eI (aluE op))) ::
  (28, con2 cTn cW fun t n => cW.enc (t.v ||| n &&& t.m)) ::
  (30, con3 cI cTn cTn fun op a b => pair (eTn (doneT op a b)) (eI (doneE op a b))) :: lB
theorem gC : TabOk Try.prog (tabOf lC) := tabOf_cons (tabOf_cons (tabOf_cons gB k30) k28) k31
end Go.Rf
