/- States: the chapter's rows. -/
import Derived.Test.YtflnkcibjebdeaaSt26
set_option linter.unusedVariables false
set_option linter.unusedSimpArgs false
set_option maxRecDepth 100000
namespace Go.Rf
open Go.Proofs
theorem k23 : ConOk Try.prog 23 (con4 cW cW cW cW fun lo hi v m => eSc ⟨⟨v, m⟩, ⟨lo, hi⟩⟩) := con4_ok rsv12 (Λ := noHooks) 5 (fun _ _ _ _ => rfl) (fun _ _ _ _ => Ev.of (by kernel_rfl))
noncomputable def sv13 : List (FuncId × Con) := (23, con4 cW cW cW cW fun lo hi v m => eSc ⟨⟨v, m⟩, ⟨lo, hi⟩⟩) :: sv12
theorem rsv13 : TabOk Try.prog (tabOf sv13) := tabOf_cons rsv12 k23
def pKn : List Nat := [1, 1, 1, 1, 1, 1, 1, 1, 1, 1, 1, 1, 1, 1, 1, 0, 1, 4]
def eight (f : Nat → Reg) : AV := (fReg.arr 8).enc f
/-- With this register it may be. -/
noncomputable def mayOne (r : Reg) : Bool := maySta ⟨updR (fun _ => nilR) 3 r, fun _ => nilS', 0#64⟩
noncomputable def fKn : (Nat → Reg) → W → Bool := fun d j => mayOne (d (ixN j))
noncomputable def lpKn : Lp (AL (Nat → Reg)) where
  keys := [85, 84, 83, 0]
  names := [5]
  scr := wrAt Try.prog 10 pKn
  vals s := [eI s.i, eI 8#64, .slc 5 [] (.lit .i64 8) 8, eB false]
  blks s := [⟨30, eight s.d⟩]
  dec vs bs := match vs, bs with
    | [i, _, _, _], [⟨_, d⟩] => match cI.dec i, (fReg.arr 8).dec d with
      | some i, some d => some ⟨d, i⟩
      | _, _ => none
    | _, _ => none
theorem goalKn (s : AL (Nat → Reg)) (h : s.inv 8) : LoopGoal Try.prog (loopAt Try.prog 10 pKn) lpKn (AL.T 8 fKn 0) s 6 119 0 := by
  refine lp_rule (cx := ⟨Try.prog, tabOf sv13, inlF Try.prog (tabOf sv13) noHooks 2⟩) rsv13 (inlF_ok rsv13 2) (Λ := fun _ => none) (p := []) lpKn (AL.inv 8) (AL.mu 8) (AL.step 8 fKn 0) (AL.T 8 fKn 0) 6 119 0 (fun _ => ⟨rfl, rfl⟩) ?_ ?_ s h
  · intro s r h hi
    exact fl_ok (g := s.lt 8) (L := ixs s.i 8 1 ++ [3 < 11]) (by kernel_rfl) (fun hg p hp => by
      rw [List.mem_append, List.mem_singleton] at hp
      rcases hp with hp | rfl
      · exact AL.ixs 8 hi hg _ p hp
      · decide)
  · exact AL.good 8 fKn 0
noncomputable def hKn : FuncId → Hook := fun f p => if f == 10 && p == pKn then some (lpKn.hk (AL.T 8 fKn 0)) else none

theorem Ev.fl3 {P : Program} {Γ : Tab} {Λ : FuncId → Hook} {n : Nat} {f : FuncId} {args : List AV} {r : AV} {L : List Prop} (h1 : (Rf.fl (evalN P Γ Λ n f args)).map (fun y => y.1) = some r) (h2 : (Rf.fl (evalN P Γ Λ n f args)).map (fun y => y.2.2) = some L) (hL : ∀ p ∈ L, p) : Ev P Γ Λ n f args r := by
  cases e : Rf.fl (evalN P Γ Λ n f args) with
  | none => rw [e] at h1; cases h1
  | some x =>
    obtain ⟨r', g, L'⟩ := x
    rw [e] at h1 h2
    simp only [Option.map_some, Option.some.injEq] at h1 h2
    subst h1 h2
    exact Ev.fl e (fun _ => hL)
def nu (lo hi v m : W) : Sc := ⟨⟨v, m⟩, ⟨lo, hi⟩⟩
def dKn : Nat → Reg :=
  updR (updR (updR (updR (updR (updR (updR (updR (fun _ => nilR) 0 ⟨2#8, false, 0#64, nilC, 1#64, 0#64⟩) 1 ⟨3#8, false, 0#64, nilC, 2#64, 1#64⟩) 2 ⟨5#8, false, BitVec.ofInt 64 (-1), nilC, 0#64, 0#64⟩) 3 ⟨8#8, false, 0#64, nilC, 0#64, 0#64⟩)
    4 ⟨1#8, false, 0#64, nu 5#64 3#64 0#64 7#64, 0#64, 0#64⟩) 5 ⟨4#8, false, 0#64, nilC, 0#64, 1048577#64⟩) 6 ⟨1#8, true, 0#64, nu 0#64 65536#64 0#64 131071#64, 0#64, 0#64⟩) 7 ⟨0#8, false, 1#64, nilC, 0#64, 0#64⟩
noncomputable def obs10 : List Prop := [0 < 11, 0 < 11, 0 < 11, 2 < 64, 2 < 64, 2 < 64, 2 < 64, 2 < 64, LoopGoal Try.prog (loopAt Try.prog 10 pKn) lpKn (AL.T 8 fKn 0) ⟨dKn, 0#64⟩ 6 119 0, 0 < 64]
theorem ev10a : (fl (evalN Try.prog (tabOf sv13) hKn 8 10 [])).map (fun y => y.1) = some (eB true) := by kernel_rfl
theorem ev10b : (fl (evalN Try.prog (tabOf sv13) hKn 8 10 [])).map (fun y => y.2.2) = some obs10 := by kernel_rfl
theorem ev10 : Ev Try.prog (tabOf sv13) hKn 8 10 [] (eB true) := Ev.fl3 ev10a ev10b (by
  intro p hp
  simp only [obs10, List.mem_cons, List.not_mem_nil, or_false] at hp
  rcases hp with rfl | rfl | rfl | rfl | rfl | rfl | rfl | rfl | rfl | rfl <;> first | decide | exact goalKn _ (AL.init 8 (by decide) _))
end Go.Rf
