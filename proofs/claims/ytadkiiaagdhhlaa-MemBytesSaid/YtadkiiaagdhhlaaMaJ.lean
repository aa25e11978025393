/- Memory: what the laws over stores ask of the runtime. -/
import Derived.Test.YtadkiiaagdhhlaaMaI
set_option linter.unusedVariables false
set_option linter.unusedSimpArgs false
set_option maxRecDepth 100000
namespace Go.Rf
open Go.Proofs
noncomputable def obK (D : SlD sAct) (x : Act) : List (List Bool × Prop) := [([!(!true)], 0 ≤ toZ .i64 (BitVec.ofNat 64 D.len)),
  ([!(!true)], LoopGoal Try.prog (loopAt Try.prog 22 pFr) (lpFr 3 D) (FrS.T D.len (acts D)) ⟨zF, 0#64⟩ 4 33 2),
  ([!offB x.o x.s, !(x.v.k == 0#8), !(!mayV x.v || !sizeB x.s), !(!true)], x.s ≠ 0#64)]
theorem b7 (D : SlD sAct) (x : Act) : (fg (evalNM Try.prog (tabOf ma9) (hFr D) 8 7 [D.slc, eAct x] D.blk)).map (fun y => y.2) = some (obK D x) := by kernel_rfl
theorem size_ne {s : W} (h : sizeB s = true) : s ≠ 0#64 := by
  rintro rfl
  revert h; decide
theorem obFr_ok {D : SlD sAct} {w : World} (hD : D.Ok w) : ∀ p ∈ obFr D, p := by
  have h1 : D.len < 2 ^ 63 := Nat.lt_of_le_of_lt hD.le hD.big
  intro p hp
  simp only [obFr, List.mem_cons, List.not_mem_nil, or_false] at hp
  rcases hp with rfl | rfl
  · rw [toZ_nat (by rw [ofNat_toNat (by omega)]; exact h1)]; omega
  · exact goalFr D ⟨zF, 0#64⟩ ⟨h1, Nat.zero_le _, Nat.zero_le _⟩
theorem obK_ok {D : SlD sAct} {w : World} (hD : D.Ok w) (x : Act) : ∀ e ∈ obK D x, (∀ g ∈ e.1, g = true) → e.2 := by
  intro e he hg
  have h0 := obFr_ok hD
  simp only [obK, List.mem_cons, List.not_mem_nil, or_false] at he
  rcases he with rfl | rfl | rfl
  · exact h0 _ (by simp [obFr])
  · exact h0 _ (by simp [obFr])
  · have h1 := hg (!(!mayV x.v || !sizeB x.s)) (by simp)
    refine size_ne (s := x.s) ?_
    cases h : sizeB x.s with
    | true => rfl
    | false => rw [h] at h1; simp at h1
theorem obFe_ok (ao : Option Addr) (cap : Nat) : ∀ p ∈ obFe ao cap, p := by
  intro p hp
  simp only [obFe, List.mem_cons, List.not_mem_nil, or_false] at hp
  subst hp
  exact goalFe ao cap ⟨zF, 0#64⟩ rfl
theorem obKe_ok (ao : Option Addr) (cap : Nat) (x : Act) : ∀ e ∈ obKe ao cap x, (∀ g ∈ e.1, g = true) → e.2 := by
  intro e he hg
  simp only [obKe, List.mem_cons, List.not_mem_nil, or_false] at he
  rcases he with rfl | rfl
  · exact goalFe ao cap ⟨zF, 0#64⟩ rfl
  · have h1 := hg (!(!mayV x.v || !sizeB x.s)) (by simp)
    refine size_ne (s := x.s) ?_
    cases h : sizeB x.s with
    | true => rfl
    | false => rw [h] at h1; simp at h1
end Go.Rf
