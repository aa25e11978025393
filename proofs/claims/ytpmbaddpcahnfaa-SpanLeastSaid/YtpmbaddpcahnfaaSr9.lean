/- Spans: the law SpanLeast's loops. -/
import Derived.Test.YtpmbaddpcahnfaaSr8
set_option linter.unusedVariables false
set_option linter.unusedSimpArgs false
set_option maxRecDepth 100000
namespace Go.Rf
open Go.Proofs

def dGv : AV → Option Gv
  | .agg (.cons o (.cons w (.cons a (.cons b (.cons x (.cons y .nil)))))) => match cI.dec o, cB.dec w, cSp.dec a, cSp.dec b, cW.dec x, cW.dec y with
    | some o, some w, some a, some b, some x, some y => some ⟨o, w, a, b, x, y⟩
    | _, _, _, _, _, _ => none
  | _ => none

def pLo : List Nat := [1, 1, 1, 1, 1, 1, 0, 1, 4]
def pLs : List Nat := [1, 1, 1, 1, 1, 1, 0, 1, 4, 5, 1, 0, 4, 1, 4]
noncomputable def lpLs : Lp LsS where
  keys := [1, 5, 6, 7, 8, 9]
  names := [0, 2, 3, 4]
  scr := wrAt Try.prog 6 pLs
  vals s := [.ptr 0 [], .ptr 2 [], .ptr 3 [], .ptr 4 [], eW s.i, eW s.k]
  blks s := [⟨36, eGv s.g⟩, ⟨24, eSp s.a⟩, ⟨24, eSp s.b⟩, ⟨24, eSp s.w⟩]
  dec vs bs := match vs, bs with
    | [_, _, _, _, i, k], [⟨_, g⟩, ⟨_, a⟩, ⟨_, b⟩, ⟨_, w⟩] => match cW.dec i, cW.dec k, dGv g, cSp.dec a, cSp.dec b, cSp.dec w with
      | some i, some k, some g, some a, some b, some w => some ⟨g, a, b, w, i, k⟩
      | _, _, _, _, _, _ => none
    | _, _ => none
def LsS.step (s : LsS) : Rd LsS := .br s.go (.norm s.nxt) (.exit 2 s)
def LsS.T (s : LsS) : Rd LsS := .exit 2 s.run

theorem goalLs (s : LsS) (h : s.inv) : LoopGoal Try.prog (loopAt Try.prog 6 pLs) lpLs LsS.T s 5 162 0 := by
  refine lp_rule (cx := ⟨Try.prog, tabOf sl10, inlF Try.prog (tabOf sl10) noHooks 2⟩) sg10 (inlF_ok sg10 2) (Λ := fun _ => none) (p := []) lpLs LsS.inv LsS.mu LsS.step LsS.T 5 162 0 (fun _ => ⟨rfl, rfl⟩) ?_ ?_ s h
  · intro s r h hi
    exact ⟨.tt, by kernel_rfl, trivial⟩
  · refine good_run (go := LsS.go) (next := LsS.nxt) LsS.dec (fun s h => by have := h.1; simp only [LsS.mu]; omega) ?_ ?_
    · intro s hi hg
      simp only [LsS.step, Rd.sel, hg, if_true]
    · intro s hi hg
      simp only [LsS.step, Rd.sel, hg, Bool.false_eq_true, if_false]

noncomputable def lpLo : Lp LoS where
  keys := [1, 5, 6, 7, 8]
  names := [0, 2, 3, 4]
  scr := wrAt Try.prog 6 pLo
  vals s := [.ptr 0 [], .ptr 2 [], .ptr 3 [], .ptr 4 [], eW s.i]
  blks s := [⟨36, eGv s.g⟩, ⟨24, eSp s.a⟩, ⟨24, eSp s.b⟩, ⟨24, eSp s.w⟩]
  dec vs bs := match vs, bs with
    | [_, _, _, _, i], [⟨_, g⟩, ⟨_, a⟩, ⟨_, b⟩, ⟨_, w⟩] => match cW.dec i, dGv g, cSp.dec a, cSp.dec b, cSp.dec w with
      | some i, some g, some a, some b, some w => some ⟨g, a, b, w, i⟩
      | _, _, _, _, _ => none
    | _, _ => none
noncomputable def hLs : Hook := fun p => if p == pLs then some (lpLs.hk LsS.T) else none
def LoS.step (s : LoS) : Rd LoS := .br s.go (.norm s.nxt) (.exit 0 s)
def LoS.T (s : LoS) : Rd LoS := .exit 0 s.run
theorem goalLo (s : LoS) (h : s.inv) : LoopGoal Try.prog (loopAt Try.prog 6 pLo) lpLo LoS.T s 5 162 0 := by
  refine lp_rule (cx := ⟨Try.prog, tabOf sl10, inlF Try.prog (tabOf sl10) noHooks 2⟩) sg10 (inlF_ok sg10 2) (Λ := hLs) (p := pLo ++ [5]) lpLo LoS.inv LoS.mu LoS.step LoS.T 5 162 0 (fun _ => ⟨rfl, rfl⟩) ?_ ?_ s h
  · intro s r h hi
    refine fl_ok (g := s.go) (L := [LoopGoal Try.prog (loopAt Try.prog 6 pLs) lpLs LsS.T ⟨s.g, s.a, s.b, s.w, s.i, 0#64⟩ 5 162 0]) (by kernel_rfl) ?_
    intro hg p hp
    simp only [List.mem_singleton] at hp
    subst hp
    exact goalLs _ ⟨hi.2.1, Nat.zero_le _⟩
  · refine good_run (go := LoS.go) (next := LoS.nxt) LoS.dec (fun s h => by have := h.1; simp only [LoS.mu]; omega) ?_ ?_
    · intro s hi hg
      simp only [LoS.step, Rd.sel, hg, if_true]
    · intro s hi hg
      simp only [LoS.step, Rd.sel, hg, Bool.false_eq_true, if_false]
noncomputable def hLo : FuncId → Hook := fun f p => if f == 6 && p == pLo then some (lpLo.hk LoS.T) else none
end Go.Rf
