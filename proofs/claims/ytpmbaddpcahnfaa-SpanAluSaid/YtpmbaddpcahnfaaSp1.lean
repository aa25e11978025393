/- Spans: the program's functions but for Alu. -/
import Derived.Test.YtpmbaddpcahnfaaUt
import Derived.Test.YtpmbaddpcahnfaaProg
set_option linter.unusedVariables false
set_option linter.unusedSimpArgs false
namespace Go.Rf
open Go.Proofs

structure Sp where
  lo : W
  hi : W

def fSp : FCod Sp := FCod.agg2 fW fW Sp.mk Sp.lo Sp.hi (fun _ _ => rfl) (fun _ _ => rfl)
def cSp : Cod Sp := fSp.one
def eSp (s : Sp) : AV := cSp.enc s
def Sp.mux (c : Bool) (x y : Sp) : Sp := ⟨bif c then x.lo else y.lo, bif c then x.hi else y.hi⟩
def nilS : Sp := ⟨0, 0⟩

def mayS (s : Sp) : Bool := leB .u64 s.lo s.hi
theorem k20 : ConOk Try.prog 20 (con1 cSp fun s => eB (mayS s)) :=
  con1_ok (tabOf_nil _) (Λ := noHooks) 3 (fun _ => rfl) (fun x => Ev.of (by kernel_rfl))
theorem k17 : ConOk Try.prog 17 (con1 cSp fun s => eB (mayS s)) :=
  con1_ok (tabOf_nil _) (Λ := noHooks) 3 (fun _ => rfl) (fun x => Ev.of (by kernel_rfl))
noncomputable def sl1 : List (FuncId × Con) := [(20, con1 cSp fun s => eB (mayS s)), (17, con1 cSp fun s => eB (mayS s))]
theorem sg1 : TabOk Try.prog (tabOf sl1) := tabOf_cons (tabOf_cons (tabOf_nil _) k17) k20
end Go.Rf
