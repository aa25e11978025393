/- Spans: the awake test; the document's Cut. -/
import Derived.Test.YtpmbaddpcahnfaaSp3
set_option linter.unusedVariables false
set_option linter.unusedSimpArgs false
namespace Go.Rf
open Go.Proofs

theorem k14 : ConOk Try.prog 14 (con0 (eB true)) :=
  con0_ok sg4 (Λ := noHooks) 6 rfl (Ev.fl (g := true) (L := []) (by kernel_rfl) (fun _ p hp => by simp at hp))

def cutBad (s : Sp) (t : W) : Bool := ltB .u64 t (s.hi - s.lo) || ltB .u64 (s.hi &&& t) (s.lo &&& t)
def cutTo (s : Sp) (t : W) : Sp := Sp.mux (cutBad s t) ⟨0, t⟩ ⟨s.lo &&& t, s.hi &&& t⟩
def cutD (s : Sp) (n : W) : Sp :=
  Sp.mux (!mayS s) nilS (Sp.mux (ltB .i64 n 0#64) (cutTo s (topW 0#64)) (Sp.mux (leB .i64 64#64 n) s (cutTo s (topW n))))
theorem k13 : ConOk Try.prog 13 (con2 cSp cI fun s n => eSp (cutD s n)) :=
  con2_ok sg4 (Λ := noHooks) 3 (fun _ _ => rfl) (fun x y => Ev.of (by kernel_rfl))
noncomputable def sl5 : List (FuncId × Con) := (14, con0 (eB true)) :: (13, con2 cSp cI fun s n => eSp (cutD s n)) :: sl4
theorem sg5 : TabOk Try.prog (tabOf sl5) := tabOf_cons (tabOf_cons sg4 k13) k14
end Go.Rf
