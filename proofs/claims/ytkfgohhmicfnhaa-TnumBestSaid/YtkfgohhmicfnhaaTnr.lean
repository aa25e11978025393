/- Tnums: what the statements' proofs share. -/
import Derived.Test.YtkfgohhmicfnhaaTn3
import Derived.Test.YtkfgohhmicfnhaaRfG
import Derived.Test.YtkfgohhmicfnhaaTp1
import Derived.Test.YtkfgohhmicfnhaaRows
set_option linter.unusedVariables false
set_option linter.unusedSimpArgs false
namespace Go.Rf
open Go.Proofs Go.Proofs.Ytkfgohhmicfnhaa

def addR (a b : Tn) : Tn := Tn.mux (bad2 a b) nil (tAdd a b)
def subR (a b : Tn) : Tn := Tn.mux (bad2 a b) nil (tSub a b)
def mulR (a b : Tn) : Tn := Tn.mux (bad2 a b) nil (tMul a b)
def err2 (a b : Tn) : W := bif bad2 a b then 1#64 else 0#64
def eqT (a b : Tn) : Bool := a.v == b.v && a.m == b.m
def of (n : W) : Tn := ⟨n, 0#64⟩
def sTn : Sh := .agg (.cons (.int .u64) (.cons (.int .u64) .nil))
def sW : Sh := .int .u64
def sI : Sh := .int .i64
theorem eqT_self (a : Tn) : eqT a a = true := by simp [eqT]
theorem own : ownKnob Try.prog.godebug = none := by kernel_rfl
theorem encs_ok {l : List Sh} {ts : List TypeId} (h : shAll Try.prog l ts = true) (xs : HL l) : ∀ v ∈ encs l xs, pf v = true := encs_pf l ts h xs
end Go.Rf
