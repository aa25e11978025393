/- Scalars: Each, a slice of 29 sums. -/
import Derived.Test.YtigiedlngfkfbaaSa6
import Derived.Test.YtigiedlngfkfbaaRfH
import Derived.Test.YtigiedlngfkfbaaRfG
set_option linter.unusedVariables false
set_option linter.unusedSimpArgs false
set_option maxRecDepth 100000
namespace Go.Rf
open Go.Proofs

structure SmV where
  op : W
  w : Bool
  a : Sc
  b : Sc
def fI' : FCod W := FCod.bv .i64
def fSm : FCod SmV := FCod.aggR (FCod.consR fI' (FCod.consR FCod.bl (FCod.consR fSc (FCod.consR fSc FCod.nilR)))) (fun x => ⟨x.1, x.2.1, x.2.2.1, x.2.2.2.1⟩) (fun g => (g.op, g.w, g.a, g.b, ())) (fun _ => rfl)
def cSm : Cod SmV := fSm.one
def eSm (g : SmV) : AV := cSm.enc g

def sTn' : Sh := .agg (.cons (.int .u64) (.cons (.int .u64) .nil))
def sSc' : Sh := .agg (.cons sTn' (.cons sTn' .nil))
def sSm' : Sh := .agg (.cons (.int .i64) (.cons .bool (.cons sSc' (.cons sSc' .nil))))
def shSc (c : Sc) : sSc'.T := ((c.t.v, c.t.m, ()), (c.s.lo, c.s.hi, ()), ())
def shSm (g : SmV) : sSm'.T := (g.op, g.w, shSc g.a, shSc g.b, ())
def mkSc (c : sSc'.T) : Sc := ⟨⟨c.1.1, c.1.2.1⟩, ⟨c.2.1.1, c.2.1.2.1⟩⟩
def mkSm (g : sSm'.T) : SmV := ⟨g.1, g.2.1, mkSc g.2.2.1, mkSc g.2.2.2.1⟩
noncomputable def codeOf (f : Nat) (p : List Nat) : Code := match Try.prog.funcs[f]? with
  | some fn => match fn.body with
    | some c => match codeAt c p with
      | some d => d
      | none => .skip
    | none => .skip
  | none => .skip
noncomputable def opsOf (f : Nat) (p : List Nat) : List Oper := match codeOf f p with
  | .region _ ops _ => ops.toList
  | _ => []
noncomputable def cx0 : Cx := ⟨Try.prog, tabOf sf3, inlF Try.prog (tabOf sf3) noHooks 3⟩
end Go.Rf
