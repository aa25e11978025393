/- Memory: laws over no stores, evaluated. -/
import Derived.Test.YtadkiiaagdhhlaaMaH
set_option linter.unusedVariables false
set_option linter.unusedSimpArgs false
set_option maxRecDepth 100000
namespace Go.Rf
open Go.Proofs
/-- Over no stores: the frame is block k. -/
noncomputable def lpFe (k : Nat) (ao : Option Addr) (cap : Nat) : Lp FrS where
  keys := [10, 9, 8, 3]
  names := [k]
  scr := wrAt Try.prog 22 pFr
  vals s := [eI s.i, eI 0#64, .vsl ao cap, .ptr k []]
  blks s := [⟨35, eFra s.f⟩]
  dec vs bs := match vs, bs with
    | [i, _, _, _], [⟨_, f⟩] => match cI.dec i, cFra.dec f with
      | some i, some f => some ⟨f, i⟩
      | _, _ => none
    | _, _ => none
def stepFe (s : FrS) : Rd FrS := .exit 0 s
theorem goalFe (ao : Option Addr) (cap : Nat) (s : FrS) (h : s.i = 0#64) : LoopGoal Try.prog (loopAt Try.prog 22 pFr) (lpFe 2 ao cap) stepFe s 3 33 1 := by
  refine lp_rule (cx := ⟨Try.prog, tabOf ma9, inlF Try.prog (tabOf ma9) noHooks 2⟩) rma9 (inlF_ok rma9 2) (Λ := fun _ => none) (p := []) (lpFe 2 ao cap) (fun s => s.i = 0#64) (fun _ => 0) stepFe stepFe 3 33 1 (fun _ => ⟨rfl, rfl⟩) ?_ ?_ s h
  · intro s r h hi
    refine fl_ok (g := true) (L := [ltB .i64 s.i 0#64 = false]) (by kernel_rfl) (fun _ p hp => ?_)
    simp only [List.mem_singleton] at hp
    subst hp
    rw [hi]; decide
  · intro s hi
    exact rfl
noncomputable def hFe (ao : Option Addr) (cap : Nat) : FuncId → Hook := fun f p => if f == 22 && p == pFr then some ((lpFe 2 ao cap).hk stepFe) else none
theorem a5e (ao : Option Addr) (cap : Nat) (x : Act) : (fl (evalN0 Try.prog (tabOf ma9) (hFe ao cap) 8 5 [.vsl ao cap, eAct x])).map (fun y => y.1) = some (eB (lawBack zF x)) := by kernel_rfl
noncomputable def obFe (ao : Option Addr) (cap : Nat) : List Prop := [LoopGoal Try.prog (loopAt Try.prog 22 pFr) (lpFe 2 ao cap) stepFe ⟨zF, 0#64⟩ 3 33 1]
theorem b5e (ao : Option Addr) (cap : Nat) (x : Act) : (fl (evalN0 Try.prog (tabOf ma9) (hFe ao cap) 8 5 [.vsl ao cap, eAct x])).map (fun y => y.2.2) = some (obFe ao cap) := by kernel_rfl
theorem a6e (ao : Option Addr) (cap : Nat) (x : Act) (o : W) : (fl (evalN0 Try.prog (tabOf ma9) (hFe ao cap) 8 6 [.vsl ao cap, eAct x, eI o])).map (fun y => y.1) = some (eB (lawApart zF x o)) := by kernel_rfl
theorem b6e (ao : Option Addr) (cap : Nat) (x : Act) (o : W) : (fl (evalN0 Try.prog (tabOf ma9) (hFe ao cap) 8 6 [.vsl ao cap, eAct x, eI o])).map (fun y => y.2.2) = some (obFe ao cap) := by kernel_rfl
theorem a7e (ao : Option Addr) (cap : Nat) (x : Act) : (fl (evalN0 Try.prog (tabOf ma9) (hFe ao cap) 8 7 [.vsl ao cap, eAct x])).map (fun y => y.1) = some (eB (lawKinds zF x)) := by kernel_rfl
noncomputable def obKe (ao : Option Addr) (cap : Nat) (x : Act) : List (List Bool × Prop) := [([!(!true)], LoopGoal Try.prog (loopAt Try.prog 22 pFr) (lpFe 2 ao cap) stepFe ⟨zF, 0#64⟩ 3 33 1),
  ([!offB x.o x.s, !(x.v.k == 0#8), !(!mayV x.v || !sizeB x.s), !(!true)], x.s ≠ 0#64)]
theorem b7e (ao : Option Addr) (cap : Nat) (x : Act) : (fg (evalN0 Try.prog (tabOf ma9) (hFe ao cap) 8 7 [.vsl ao cap, eAct x])).map (fun y => y.2) = some (obKe ao cap x) := by kernel_rfl
end Go.Rf
