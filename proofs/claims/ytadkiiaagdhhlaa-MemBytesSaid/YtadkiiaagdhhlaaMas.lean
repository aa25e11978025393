/- Memory: what the statements over stores share. -/
import Derived.Test.YtadkiiaagdhhlaaMaH
import Derived.Test.YtadkiiaagdhhlaaMaJ
import Derived.Test.YtadkiiaagdhhlaaRfG
import Derived.Test.YtadkiiaagdhhlaaRfH
import Derived.Test.YtadkiiaagdhhlaaRows
set_option linter.unusedVariables false
set_option linter.unusedSimpArgs false
set_option maxRecDepth 100000
namespace Go.Rf
open Go.Proofs Go.Proofs.Ytadkiiaagdhhlaa
def sI : Sh := .int .i64
theorem enc_Act (x : sAct.T) : sAct.enc x = eAct (mkAct x) := by kernel_rfl
theorem enc_I (x : W) : sI.enc x = eI x := rfl
theorem own : ownKnob Try.prog.godebug = none := by kernel_rfl
def zAct : Value := .agg #[.int .i64 0, .int .i64 0, .int .u8 0, .int .i64 0, .int .u64 0, .int .i64 0]
theorem arr_good (n : Nat) : (Sh.arr n sAct).good = true := by show sAct.good = true; kernel_rfl
theorem encs_ok {l : List Sh} {ts : List TypeId} (h : shAll Try.prog l ts = true) (xs : HL l) : ∀ v ∈ encs l xs, pf v = true := encs_pf l ts h xs
theorem enc1 {s : Sh} {x : s.T} {a : AV} (h1 : s.enc x = a) : encs [s] (x, ()) = [a] := by subst h1; rfl
theorem enc2 {s t : Sh} {x : s.T} {y : t.T} {a b : AV} (h1 : s.enc x = a) (h2 : t.enc y = b) : encs [s, t] (x, y, ()) = [a, b] := by subst h1 h2; rfl
theorem frF_r (n : Nat) (ac : Nat → Act) : rightF (frF n ac) = true := frF_right n ac
theorem nil_ok : ∀ v ∈ encs [] (), pf v = true := fun v h => by cases h
end Go.Rf
