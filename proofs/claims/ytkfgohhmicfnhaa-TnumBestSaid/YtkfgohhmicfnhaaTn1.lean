/- Tnums: the contracts of the small functions. -/
import Derived.Test.YtkfgohhmicfnhaaUt
import Derived.KernelRfl
import Derived.Test.YtkfgohhmicfnhaaProg
set_option linter.unusedVariables false
set_option linter.unusedSimpArgs false
namespace Go.Rf
open Go.Proofs


structure Tn where
  v : W
  m : W

def fTn : FCod Tn := FCod.agg2 fW fW Tn.mk Tn.v Tn.m (fun _ _ => rfl) (fun _ _ => rfl)
def cTn : Cod Tn := fTn.one
def cA : Cod (Nat → W) := fI.arr 64

def eTn (t : Tn) : AV := cTn.enc t
/-- The one tnum or the other. -/
def Tn.mux (c : Bool) (x y : Tn) : Tn := ⟨bif c then x.v else y.v, bif c then x.m else y.m⟩
def nil : Tn := ⟨0, 0⟩

def may (t : Tn) : Bool := t.v &&& t.m == 0#64
def fit (v any : W) : Tn := ⟨v &&& ~~~ any, any⟩

theorem k15 : ConOk Try.prog 15 (con1 cTn fun t => eB (may t)) :=
  con1_ok (tabOf_nil _) (Λ := noHooks) 3 (fun _ => rfl) (fun x => Ev.of (by kernel_rfl))
theorem k59 : ConOk Try.prog 59 (con2 cW cW fun v any => eTn (fit v any)) :=
  con2_ok (tabOf_nil _) (Λ := noHooks) 3 (fun _ _ => rfl) (fun x y => Ev.of (by kernel_rfl))
theorem k18 : ConOk Try.prog 18 (con1 cW fun v => eTn ⟨v, 0⟩) :=
  con1_ok (tabOf_nil _) (Λ := noHooks) 3 (fun _ => rfl) (fun x => Ev.of (by kernel_rfl))
theorem k54 : ConOk Try.prog 54 (con0 (eTn ⟨0, 18446744073709551615#64⟩)) :=
  con0_ok (tabOf_nil _) (Λ := noHooks) 3 rfl (Ev.of (by kernel_rfl))

def l1 : List (FuncId × Con) := [(15, con1 cTn fun t => eB (may t)), (59, con2 cW cW fun v any => eTn (fit v any)), (18, con1 cW fun v => eTn ⟨v, 0⟩), (54, con0 (eTn ⟨0, 18446744073709551615#64⟩))]
theorem g1 : TabOk Try.prog (tabOf l1) := tabOf_cons (tabOf_cons (tabOf_cons (tabOf_cons (tabOf_nil _) k54) k18) k59) k15

def ok2 (a b : Tn) : Bool := may a && may b
end Go.Rf
