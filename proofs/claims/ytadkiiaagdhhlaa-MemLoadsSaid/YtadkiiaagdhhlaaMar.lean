/- Memory: what the statements' proofs share. -/
import Derived.Test.YtadkiiaagdhhlaaMaD
import Derived.Test.YtadkiiaagdhhlaaRfG
import Derived.Test.YtadkiiaagdhhlaaRows
set_option linter.unusedVariables false
set_option linter.unusedSimpArgs false
set_option maxRecDepth 100000
namespace Go.Rf
open Go.Proofs Go.Proofs.Ytadkiiaagdhhlaa
def sVal : Sh := .agg (.cons (.int .u8) (.cons (.int .i64) (.cons (.int .u64) (.cons (.int .i64) .nil))))
def sMSl : Sh := .agg (.cons (.int .u8) (.cons (.arr 8 (.int .u8)) (.cons sVal .nil)))
def sFra : Sh := .arr 64 sMSl
def sI : Sh := .int .i64
def mkVal (x : sVal.T) : Val := ⟨x.1, x.2.1, x.2.2.1, x.2.2.2.1⟩
def mkMSl (x : sMSl.T) : MSl := ⟨x.1, x.2.1, mkVal x.2.2.1⟩
def mkFra (x : sFra.T) : Fra := fun i => mkMSl (x i)
theorem enc_Fra (x : sFra.T) : sFra.enc x = eFra (mkFra x) := by kernel_rfl
theorem enc_I (x : W) : sI.enc x = eI x := rfl
def zFra : Value := .agg ((List.range 64).flatMap (fun _ => ([.int .u8 0, .int .u8 0, .int .u8 0, .int .u8 0, .int .u8 0, .int .u8 0, .int .u8 0, .int .u8 0, .int .u8 0, .int .u8 0, .int .i64 0, .int .u64 0, .int .i64 0] : List Value))).toArray
theorem own : ownKnob Try.prog.godebug = none := by kernel_rfl
theorem encs_ok {l : List Sh} {ts : List TypeId} (h : shAll Try.prog l ts = true) (xs : HL l) : ∀ v ∈ encs l xs, pf v = true := encs_pf l ts h xs
theorem calls_of {l : List Sh} {ts : List TypeId} {xs : HL l} {args : List AV} {Γ : Tab} {Λ : FuncId → Hook} {n : Nat} {f : FuncId} (he : encs l xs = args) (hs : shAll Try.prog l ts = true) (hΓ : TabOk Try.prog Γ) (h : Ev Try.prog Γ Λ n f args (eB true)) (w : World) :
    Calls Try.prog f ((encs l xs).map (val E0)).toArray w fun e w' => e = .returned (.bool true) ∧ RowKit.Below w.heap.size w w' := by
  subst he
  exact h.calls hΓ (encs_ok hs xs) w
theorem enc3 {s t u : Sh} {x : s.T} {y : t.T} {z : u.T} {a b c : AV} (h1 : s.enc x = a) (h2 : t.enc y = b) (h3 : u.enc z = c) : encs [s, t, u] (x, y, z, ()) = [a, b, c] := by subst h1 h2 h3; rfl
end Go.Rf
