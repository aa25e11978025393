/- How many bits are any. -/
import Derived.Test.YtkfgohhmicfnhaaTnB
set_option linter.unusedVariables false
set_option linter.unusedSimpArgs false
namespace Go.Rf
open Go.Proofs

def pop1 (x : W) : W := (shrW x 1 &&& 6148914691236517205#64) + (x &&& 6148914691236517205#64)
def pop2 (x : W) : W := (shrW x 2 &&& 3689348814741910323#64) + (x &&& 3689348814741910323#64)
def pop3 (x : W) : W := (shrW x 4 + x) &&& 1085102592571150095#64
def popS (k : Nat) (x : W) : W := x + shrW x k
def toI (x : W) : W := convB .u64 .i64 x
def popW (x : W) : W := toI (popS 32 (popS 16 (popS 8 (pop3 (pop2 (pop1 x)))))) &&& 127#64

theorem k73 : ConOk Try.prog 73 (con1 cW fun x => eI (popW x)) :=
  con1_ok gE (Λ := noHooks) 5 (fun _ => rfl) (fun x => Ev.of (by kernel_rfl))
noncomputable def lF : List (FuncId × Con) := (73, con1 cW fun x => eI (popW x)) :: lE
theorem gF : TabOk Try.prog (tabOf lF) := tabOf_cons gE k73

def freeW (t : Tn) : W := bif !may t then (-1#64) else popW t.m
theorem k52 : ConOk Try.prog 52 (con1 cTn fun t => eI (freeW t)) :=
  con1_ok gF (Λ := noHooks) 5 (fun _ => rfl) (fun x => Ev.of (by kernel_rfl))
noncomputable def lG : List (FuncId × Con) := (52, con1 cTn fun t => eI (freeW t)) :: lF
theorem gG : TabOk Try.prog (tabOf lG) := tabOf_cons gF k52
end Go.Rf
