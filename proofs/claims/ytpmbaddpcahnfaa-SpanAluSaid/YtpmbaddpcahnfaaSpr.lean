/- Spans: what the statements' proofs share. -/
import Derived.Test.YtpmbaddpcahnfaaSpp
import Derived.Test.YtpmbaddpcahnfaaRfG
import Derived.Test.YtpmbaddpcahnfaaRows
set_option linter.unusedVariables false
set_option linter.unusedSimpArgs false
namespace Go.Rf
open Go.Proofs Go.Proofs.Ytpmbaddpcahnfaa

def sSp : Sh := .agg (.cons (.int .u64) (.cons (.int .u64) .nil))
def sW : Sh := .int .u64
def sI : Sh := .int .i64
theorem own : ownKnob Try.prog.godebug = none := by kernel_rfl
theorem encs_ok {l : List Sh} {ts : List TypeId} (h : shAll Try.prog l ts = true) (xs : HL l) : ∀ v ∈ encs l xs, pf v = true := encs_pf l ts h xs
end Go.Rf
