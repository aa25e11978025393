/- States: joins of slots: the document's; the contracts of Join. -/
import Derived.Test.YtflnkcibjebdeaaSt18
set_option linter.unusedVariables false
set_option linter.unusedSimpArgs false
set_option maxRecDepth 100000
namespace Go.Rf
open Go.Proofs
structure JsS where
  a : Slt
  b : Slt
  o : Slt
  i : W
def pJs : List Nat := [1, 1, 1, 0, 1, 4]
/-- The slot that is made is block n. -/
noncomputable def lpJs (n : Nat) : Lp JsS where
  keys := [7, 2, 3, 6]
  names := [0, 1, n]
  scr := wrAt Try.prog 44 pJs
  vals s := [eI s.i, .ptr 0 [], .ptr 1 [], .ptr n []]
  blks s := [⟨33, eSlt s.a⟩, ⟨33, eSlt s.b⟩, ⟨33, eSlt s.o⟩]
  dec vs bs := match vs, bs with
    | [i, _, _, _], [⟨_, a⟩, ⟨_, b⟩, ⟨_, o⟩] => match cI.dec i, cSlt.dec a, cSlt.dec b, cSlt.dec o with
      | some i, some a, some b, some o => some ⟨a, b, o, i⟩
      | _, _, _, _ => none
    | _, _ => none
def one8 (j : W) : B8 := 1#8 <<< jI j
def JsS.go (s : JsS) : Bool := ltB .i64 s.i 8#64
def JsS.c (s : JsS) : Bool := sureD s.a s.i && sureD s.b s.i
def JsS.nA (s : JsS) : JsS := ⟨s.a, s.b, ⟨s.o.h + one8 s.i, s.o.r⟩, s.i + 1#64⟩
def JsS.nB (s : JsS) : JsS := ⟨s.a, s.b, s.o, s.i + 1#64⟩
def JsS.nxt (s : JsS) : JsS := if s.c = true then s.nA else s.nB
def JsS.step (s : JsS) : Rd JsS := .br s.go (.br s.c (.norm s.nA) (.norm s.nB)) (.exit 0 s)
def JsS.inv (s : JsS) : Prop := s.i.toNat ≤ 8
def JsS.mu (s : JsS) : Nat := 8 - s.i.toNat
def JsS.fh (s : JsS) : B8 := (runN JsS.go JsS.nxt 8 s).o.h
def JsS.fi (s : JsS) : W := (runN JsS.go JsS.nxt 8 s).i
def JsS.T (s : JsS) : Rd JsS := .exit 0 ⟨s.a, s.b, ⟨s.fh, s.o.r⟩, s.fi⟩
theorem JsS.T_eq : JsS.T = fun s => .exit 0 (runN JsS.go JsS.nxt 8 s) := by
  funext s
  have h : (runN JsS.go JsS.nxt 8 s).a = s.a ∧ (runN JsS.go JsS.nxt 8 s).b = s.b ∧ (runN JsS.go JsS.nxt 8 s).o.r = s.o.r :=
    runN_inv (go := JsS.go) (next := JsS.nxt) (fun t => t.a = s.a ∧ t.b = s.b ∧ t.o.r = s.o.r) (fun t h _ => by unfold JsS.nxt; split <;> exact h) 8 s ⟨rfl, rfl, rfl⟩
  unfold JsS.T JsS.fh JsS.fi
  rw [← h.1, ← h.2.1, ← h.2.2]
theorem JsS.lt {s : JsS} (h : s.inv) (hg : s.go = true) : s.i.toNat < 8 := by
  have h1 : s.i.toNat ≤ 8 := h
  rw [JsS.go, ltB_nat (by omega) (by decide), decide_eq_true_eq] at hg
  exact hg
theorem JsS.dec (s : JsS) (h : s.inv) (hg : s.go = true) : s.nxt.inv ∧ s.nxt.mu < s.mu := by
  have h1 := JsS.lt h hg
  have e : (s.i + 1#64).toNat = s.i.toNat + 1 := succ_nat (by omega)
  have e2 : s.nxt.i = s.i + 1#64 := by unfold JsS.nxt; split <;> rfl
  unfold JsS.inv JsS.mu
  rw [e2, e]
  omega
theorem goalJs (n : Nat) (hn : n = 3 ∨ n = 4) (s : JsS) (h : s.inv) : LoopGoal Try.prog (loopAt Try.prog 44 pJs) (lpJs n) JsS.T s (n + 1) 48 0 := by
  refine lp_rule (cx := ⟨Try.prog, tabOf sv8, inlF Try.prog (tabOf sv8) noHooks 2⟩) rsv8 (inlF_ok rsv8 2) (Λ := fun _ => none) (p := []) (lpJs n) JsS.inv JsS.mu JsS.step JsS.T (n + 1) 48 0 (fun _ => ⟨rfl, rfl⟩) ?_ ?_ s h
  · intro s r h hi
    have obs : ∀ p ∈ [0 ≤ toZ .i64 s.i, 0 ≤ toZ .i64 s.i, 0 ≤ toZ .i64 s.i], s.go = true → p := by
      intro p hp hg
      simp only [List.mem_cons, List.not_mem_nil, or_false, or_self] at hp
      subst hp
      rw [toZ_nat (by have := JsS.lt hi hg; omega)]
      omega
    rcases hn with rfl | rfl
    · exact fl_ok (g := s.go) (L := [0 ≤ toZ .i64 s.i, 0 ≤ toZ .i64 s.i, 0 ≤ toZ .i64 s.i]) (by kernel_rfl) (fun hg p hp => obs p hp hg)
    · exact fl_ok (g := s.go) (L := [0 ≤ toZ .i64 s.i, 0 ≤ toZ .i64 s.i, 0 ≤ toZ .i64 s.i]) (by kernel_rfl) (fun hg p hp => obs p hp hg)
  · rw [JsS.T_eq]
    refine good_run (go := JsS.go) (next := JsS.nxt) JsS.dec (fun s h => by simp only [JsS.mu]; omega) ?_ ?_
    · intro s hi hg
      simp only [JsS.step, Rd.sel, hg, if_true, JsS.nxt]
      split <;> rfl
    · intro s hi hg
      simp only [JsS.step, Rd.sel, hg, Bool.false_eq_true, if_false]
noncomputable def hJs : FuncId → Hook := fun f p => if f == 44 && p == pJs then some (hkTwo (isPtr 6 3) ((lpJs 3).hk JsS.T) ((lpJs 4).hk JsS.T)) else none

def Reg.mux (c : Bool) (x y : Reg) : Reg := ⟨bif c then x.k else y.k, bif c then x.ln else y.ln, bif c then x.m else y.m, Sc.mux c x.s y.s, bif c then x.lo else y.lo, bif c then x.hi else y.hi⟩
def Slt.mux (c : Bool) (x y : Slt) : Slt := ⟨bif c then x.h else y.h, Reg.mux c x.r y.r⟩
theorem Reg.mux_eq (c : Bool) (x y : Reg) : Reg.mux c x y = bif c then x else y := by cases c <;> rfl
theorem Slt.mux_eq (c : Bool) (x y : Slt) : Slt.mux c x y = bif c then x else y := by cases c <;> rfl
def nilS' : Slt := ⟨0#8, nilR⟩
def jOut (x y : Slt) : Slt := ⟨JsS.fh ⟨x, y, nilS', 0#64⟩, nilR⟩
def jd1 (x y : Slt) : Bool := x.r.k != 0#8 && y.r.k != 0#8
noncomputable def jd2 (x y : Slt) : Bool := (joinRD x.r y.r).k != 0#8
noncomputable def joinSP (x y : Slt) : Slt := Slt.mux (jd1 x y) (Slt.mux (jd2 x y) ⟨255#8, joinRD x.r y.r⟩ (jOut x y)) (jOut x y)
theorem kk44 : ConOk Try.prog 44 (con2 cSlt cSlt fun x y => eSlt (joinSP x y)) :=
  con2_ok rsv8 (Λ := hJs) 6 (fun _ _ => rfl) (fun x y => Ev.fg (L := [([!jd2 x y, jd1 x y], LoopGoal Try.prog (loopAt Try.prog 44 pJs) (lpJs 4) JsS.T ⟨x, y, nilS', 0#64⟩ 5 48 0),
    ([!jd1 x y], LoopGoal Try.prog (loopAt Try.prog 44 pJs) (lpJs 3) JsS.T ⟨x, y, nilS', 0#64⟩ 4 48 0)]) (by kernel_rfl) (by
      intro e he _
      simp only [List.mem_cons, List.not_mem_nil, or_false] at he
      rcases he with rfl | rfl
      · exact goalJs 4 (.inr rfl) _ (by show (0#64 : W).toNat ≤ 8; decide)
      · exact goalJs 3 (.inl rfl) _ (by show (0#64 : W).toNat ≤ 8; decide)))
end Go.Rf
