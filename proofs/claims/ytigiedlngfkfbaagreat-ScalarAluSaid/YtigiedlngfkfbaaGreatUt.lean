/- Codes that all layers share. -/
import Derived.Test.YtigiedlngfkfbaaGreatRfF
import Derived.KernelRfl
set_option linter.unusedVariables false
set_option linter.unusedSimpArgs false
namespace Go.Rf

abbrev W := BitVec 64
def fW : FCod W := FCod.bv .u64
def fI : FCod W := FCod.bv .i64
def cW : Cod W := fW.one
def cI : Cod W := fI.one
def cB : Cod Bool := FCod.bl.one
def pair (a b : AV) : AV := .tup (.cons a (.cons b .nil))
def eI (x : W) : AV := cI.enc x
def eW (x : W) : AV := cW.enc x
def eB (b : Bool) : AV := cB.enc b
end Go.Rf
