/- Spans: the chapter's rows: the law SpanKnown's loop. -/
import Derived.Test.YtpmbaddpcahnfaaRf21
import Derived.Test.YtpmbaddpcahnfaaSr7
set_option linter.unusedVariables false
set_option linter.unusedSimpArgs false
set_option maxRecDepth 100000
namespace Go.Rf
open Go.Proofs

structure KRow where
  op : W
  w : Bool
  a : Sp
  b : Sp
  want : Sp
def fKR : FCod KRow := FCod.aggR (FCod.consR fI (FCod.consR FCod.bl (FCod.consR fSp (FCod.consR fSp (FCod.consR fSp FCod.nilR))))) (fun x => ⟨x.1, x.2.1, x.2.2.1, x.2.2.2.1, x.2.2.2.2.1⟩) (fun g => (g.op, g.w, g.a, g.b, g.want, ())) (fun _ => rfl)
def cTab : Cod (Nat → KRow) := fKR.arr 15

structure KnS where
  tab : Nat → KRow
  i : W
def KRow.bad (r : KRow) : Bool := errS r.op r.a r.b != 0#64 || !eqS (resS r.op r.w r.a r.b) r.want
def pKn : List Nat := [1, 0, 1, 4]
noncomputable def lpKn : Lp KnS where
  keys := [71, 70, 69]
  names := [0]
  scr := wrAt Try.prog 9 pKn
  vals s := [eI s.i, eI 15#64, .slc 0 [] (.lit .i64 15) 15]
  blks s := [⟨49, cTab.enc s.tab⟩]
  dec vs bs := match vs, bs with
    | [i, _, _], [⟨_, t⟩] => match cI.dec i, cTab.dec t with
      | some i, some t => some ⟨t, i⟩
      | _, _ => none
    | _, _ => none
def KnS.go (s : KnS) : Bool := ltB .i64 s.i 15#64
def KnS.nxt (s : KnS) : KnS := ⟨s.tab, s.i + 1#64⟩
def KnS.bad (s : KnS) : Bool := (s.tab (ixN s.i)).bad
def KnS.step (s : KnS) : Rd KnS := .br s.go (.br s.bad (.ret s) (.norm s.nxt)) (.exit 0 s)
def KnS.inv (s : KnS) : Prop := s.i.toNat ≤ 15 ∧ ∀ j, j < 15 → (s.tab j).bad = false
def KnS.mu (s : KnS) : Nat := 15 - s.i.toNat
theorem KnS.go_lt {s : KnS} (h : s.inv) (hg : s.go = true) : s.i.toNat < 15 := by
  have h1 := h.1
  rw [KnS.go, ltB_nat (by omega) (by decide), decide_eq_true_eq] at hg
  exact hg
theorem KnS.dec (s : KnS) (h : s.inv) (hg : s.go = true) : s.nxt.inv ∧ s.nxt.mu < s.mu := by
  have h1 := KnS.go_lt h hg
  have e : (s.i + 1#64).toNat = s.i.toNat + 1 := succ_nat (by omega)
  refine ⟨⟨?_, h.2⟩, ?_⟩
  · show (s.i + 1#64).toNat ≤ 15; omega
  · show 15 - (s.i + 1#64).toNat < 15 - s.i.toNat; omega
def KnS.T (s : KnS) : Rd KnS := .exit 0 (runN KnS.go KnS.nxt 15 s)

theorem goalKn (s : KnS) (h : s.inv) : LoopGoal Try.prog (loopAt Try.prog 9 pKn) lpKn KnS.T s 1 142 0 := by
  refine lp_rule (cx := ⟨Try.prog, tabOf sl7, inlF Try.prog (tabOf sl7) noHooks 2⟩) sg7 (inlF_ok sg7 2) (Λ := fun _ => none) (p := []) lpKn KnS.inv KnS.mu KnS.step KnS.T 1 142 0 (fun _ => ⟨rfl, rfl⟩) ?_ ?_ s h
  · intro s r h hi
    exact fl_ok (g := s.go) (L := ixs s.i 15 1) (by kernel_rfl) (fun hg => ixs_hold (by decide) (KnS.go_lt hi hg) _)
  · refine good_run (go := KnS.go) (next := KnS.nxt) KnS.dec (fun s h => by simp only [KnS.mu]; omega) ?_ ?_
    · intro s hi hg
      have hb : s.bad = false := by
        have h1 := KnS.go_lt hi hg
        unfold KnS.bad
        rw [ixN_nat (by omega)]
        exact hi.2 _ h1
      simp only [KnS.step, Rd.sel, hg, hb, Bool.false_eq_true, if_true, if_false]
    · intro s hi hg
      simp only [KnS.step, Rd.sel, hg, Bool.false_eq_true, if_false]
end Go.Rf
