/- Spans: the law SpanKnown. -/
import Derived.Test.YtpmbaddpcahnfaaSk1
set_option linter.unusedVariables false
set_option linter.unusedSimpArgs false
set_option maxRecDepth 100000
namespace Go.Rf
open Go.Proofs

def knT : Nat → KRow := fun j => ⟨if j = 14 then 11#64 else if j = 13 then 8#64 else if j = 12 then 12#64 else if j = 11 then 6#64 else if j = 10 then 7#64 else if j = 9 then 9#64 else if j = 8 then 9#64 else if j = 7 then 9#64 else if j = 6 then 3#64 else if j = 5 then 3#64 else if j = 4 then 10#64 else if j = 3 then 5#64 else if j = 2 then 2#64 else if j = 1 then 0#64 else if j = 0 then 1#64 else 0#64,
  if j = 14 then false else if j = 13 then false else if j = 12 then false else if j = 11 then true else if j = 10 then true else if j = 9 then true else if j = 8 then true else if j = 7 then true else if j = 6 then true else if j = 5 then true else if j = 4 then true else if j = 3 then true else if j = 2 then true else if j = 1 then false else if j = 0 then true else false,
  ⟨if j = 14 then 0#64 else if j = 13 then 1#64 else if j = 12 then 2147483647#64 else if j = 11 then 1#64 else if j = 10 then 8#64 else if j = 9 then 3#64 else if j = 8 then 10#64 else if j = 7 then 10#64 else if j = 6 then 10#64 else if j = 5 then 10#64 else if j = 4 then 8#64 else if j = 3 then 8#64 else if j = 2 then 4294967296#64 else if j = 1 then 4294967295#64 else if j = 0 then 1#64 else 0#64,
    if j = 14 then 0#64 else if j = 13 then 2#64 else if j = 12 then 2147483648#64 else if j = 11 then 3#64 else if j = 10 then 17#64 else if j = 9 then 4#64 else if j = 8 then 17#64 else if j = 7 then 13#64 else if j = 6 then 20#64 else if j = 5 then 20#64 else if j = 4 then 12#64 else if j = 3 then 12#64 else if j = 2 then 4294967296#64 else if j = 1 then 4294967295#64 else if j = 0 then 2#64 else 0#64⟩,
  ⟨if j = 14 then 4294967295#64 else if j = 13 then 9#64 else if j = 12 then 4#64 else if j = 11 then 63#64 else if j = 10 then 1#64 else if j = 9 then 5#64 else if j = 8 then 8#64 else if j = 7 then 8#64 else if j = 6 then 3#64 else if j = 5 then 0#64 else if j = 4 then 3#64 else if j = 3 then 3#64 else if j = 2 then 4294967296#64 else if j = 1 then 1#64 else if j = 0 then 3#64 else 0#64,
    if j = 14 then 4294967296#64 else if j = 13 then 9#64 else if j = 12 then 4#64 else if j = 11 then 64#64 else if j = 10 then 3#64 else if j = 9 then 9#64 else if j = 8 then 8#64 else if j = 7 then 8#64 else if j = 6 then 4#64 else if j = 5 then 3#64 else if j = 4 then 6#64 else if j = 3 then 6#64 else if j = 2 then 4294967296#64 else if j = 1 then 1#64 else if j = 0 then 5#64 else 0#64⟩,
  ⟨if j = 14 then 0#64 else if j = 13 then 4294967294#64 else if j = 12 then 134217727#64 else if j = 11 then 0#64 else if j = 10 then 1#64 else if j = 9 then 3#64 else if j = 8 then 0#64 else if j = 7 then 2#64 else if j = 6 then 2#64 else if j = 5 then 0#64 else if j = 4 then 8#64 else if j = 3 then 0#64 else if j = 2 then 0#64 else if j = 1 then 0#64 else if j = 0 then 18446744073709551612#64 else 0#64,
    if j = 14 then 4294967295#64 else if j = 13 then 4294967295#64 else if j = 12 then 4160749568#64 else if j = 11 then 18446744073709551615#64 else if j = 10 then 8#64 else if j = 9 then 4#64 else if j = 8 then 7#64 else if j = 7 then 5#64 else if j = 6 then 6#64 else if j = 5 then 20#64 else if j = 4 then 15#64 else if j = 3 then 4#64 else if j = 2 then 18446744073709551615#64 else if j = 1 then 0#64 else if j = 0 then 18446744073709551615#64 else 0#64⟩⟩

theorem knT_right : ∀ j, j < 15 → (knT j).bad = false := by
  intro j hj
  have : j = 0 ∨ j = 1 ∨ j = 2 ∨ j = 3 ∨ j = 4 ∨ j = 5 ∨ j = 6 ∨ j = 7 ∨ j = 8 ∨ j = 9 ∨ j = 10 ∨ j = 11 ∨ j = 12 ∨ j = 13 ∨ j = 14 := by omega
  rcases this with rfl | rfl | rfl | rfl | rfl | rfl | rfl | rfl | rfl | rfl | rfl | rfl | rfl | rfl | rfl <;> decide +kernel
noncomputable def hKn : FuncId → Hook := fun f p => if f == 9 && p == pKn then some (lpKn.hk KnS.T) else none
def knG : Bool := (!bif noMeetS ⟨1#64, 3#64⟩ ⟨4#64, 5#64⟩ then false else true) && (bif aluBad 0#64 ⟨1#64, 0#64⟩ ⟨0#64, 0#64⟩ then 1#64 else 0#64) == 1#64 && eqS (joinS ⟨1#64, 3#64⟩ ⟨4#64, 5#64⟩) ⟨1#64, 5#64⟩ &&
  eqS (cutS ⟨4294967295#64, 4294967296#64⟩ 32#64) ⟨0#64, 4294967295#64⟩ && eqS (cutS ⟨5#64, 9#64⟩ (BitVec.ofInt 64 (-3))) ⟨0#64, 0#64⟩ && eqS (cutS ⟨5#64, 9#64⟩ 99#64) ⟨5#64, 9#64⟩ && true
theorem ev9 : Ev Try.prog (tabOf sl7) hKn 6 9 [] (eB true) := by
  have h : Ev Try.prog (tabOf sl7) hKn 6 9 [] (eB knG) := Ev.fl (g := true) (L := [LoopGoal Try.prog (loopAt Try.prog 9 pKn) lpKn KnS.T ⟨knT, 0#64⟩ 1 142 0]) (by kernel_rfl)
    (fun _ p hp => by simp only [List.mem_singleton] at hp; subst hp; exact goalKn _ ⟨by show (0#64 : W).toNat ≤ 15; decide, knT_right⟩)
  rwa [show knG = true by decide +kernel] at h
end Go.Rf
