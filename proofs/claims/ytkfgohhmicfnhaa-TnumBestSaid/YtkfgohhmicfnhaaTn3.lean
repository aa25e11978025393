/- Tnums: the table of contracts; the examples that each statement asks first. -/
import Derived.Test.YtkfgohhmicfnhaaTn2
set_option linter.unusedVariables false
set_option linter.unusedSimpArgs false
namespace Go.Rf
open Go.Proofs

def l3 : List (FuncId × Con) :=
  (17, con2 cTn cTn fun a b => resTE (bad2 a b) (tSub a b)) ::
  (19, con2 cTn cTn fun a b => resTE (bad2 a b) (tMul a b)) ::
  (20, con2 cTn cTn fun a b => eB (isIn a b)) ::
  (24, con2 cTn cTn fun a b => resTE (bad2 a b) (tAnd a b)) ::
  (26, con2 cTn cTn fun a b => resTE (bad2 a b) (tOr a b)) ::
  (27, con2 cTn cTn fun a b => resTE (bad2 a b) (tXor a b)) ::
  (48, con2 cTn cTn fun a b => resTE (bad2 a b) (tJoin a b)) ::
  (47, con2 cTn cTn fun a b => resTB (noMeet a b) (tMeet a b)) ::
  (37, con2 cTn cI fun a n => resTE (badSh a n) (tLsh a n)) ::
  (39, con2 cTn cI fun a n => resTE (badSh a n) (tRsh a n)) ::
  (41, con3 cTn cI cI fun a n s => resTE (badArsh a n s) (tArsh a n s)) ::
  (43, con2 cTn cI fun a n => pair (eTn (tCut a n)) (eI (eCut a n))) :: l2
theorem g3 : TabOk Try.prog (tabOf l3) :=
  tabOf_cons (tabOf_cons (tabOf_cons (tabOf_cons (tabOf_cons (tabOf_cons (tabOf_cons (tabOf_cons (tabOf_cons (tabOf_cons (tabOf_cons (tabOf_cons g2 k43) k41) k39) k37) k47) k48) k27) k26) k24) k20) k19) k17

theorem k14 : ConOk Try.prog 14 (con0 (eB true)) :=
  con0_ok g3 (Λ := noHooks) 5 rfl (Ev.of (by kernel_rfl))

def l4 : List (FuncId × Con) := (14, con0 (eB true)) :: l3
theorem g4 : TabOk Try.prog (tabOf l4) := tabOf_cons g3 k14
end Go.Rf
