/- States: what the statements' proofs share. -/
import Derived.Test.YtflnkcibjebdeaaSt22
import Derived.Test.YtflnkcibjebdeaaRfG
import Derived.Test.YtflnkcibjebdeaaRows
set_option linter.unusedVariables false
set_option linter.unusedSimpArgs false
set_option maxRecDepth 100000
namespace Go.Rf
open Go.Proofs Go.Proofs.Ytflnkcibjebdeaa

def sTn : Sh := .agg (.cons (.int .u64) (.cons (.int .u64) .nil))
def sSc : Sh := .agg (.cons sTn (.cons sTn .nil))
def sVal : Sh := .agg (.cons (.int .u8) (.cons (.int .i64) (.cons (.int .u64) (.cons (.int .i64) .nil))))
def sReg : Sh := .agg (.cons (.int .u8) (.cons .bool (.cons (.int .i64) (.cons sSc (.cons (.int .i64) (.cons (.int .i64) .nil))))))
def sSlt : Sh := .agg (.cons (.int .u8) (.cons sReg .nil))
def sSta : Sh := .agg (.cons (.arr 11 sReg) (.cons (.arr 64 sSlt) (.cons (.int .i64) .nil)))
def sMSl : Sh := .agg (.cons (.int .u8) (.cons (.arr 8 (.int .u8)) (.cons sVal .nil)))
def sVw : Sh := .agg (.cons (.arr 11 sVal) (.cons (.arr 64 sMSl) (.cons (.int .i64) .nil)))
def mkSc (x : sSc.T) : Sc := ⟨⟨x.1.1, x.1.2.1⟩, ⟨x.2.1.1, x.2.1.2.1⟩⟩
def mkVal (x : sVal.T) : Val := ⟨x.1, x.2.1, x.2.2.1, x.2.2.2.1⟩
def mkReg (x : sReg.T) : Reg := ⟨x.1, x.2.1, x.2.2.1, mkSc x.2.2.2.1, x.2.2.2.2.1, x.2.2.2.2.2.1⟩
def mkSlt (x : sSlt.T) : Slt := ⟨x.1, mkReg x.2.1⟩
def mkSta (x : sSta.T) : Sta := ⟨fun i => mkReg (x.1 i), fun i => mkSlt (x.2.1 i), x.2.2.1⟩
def mkMSl (x : sMSl.T) : MSl := ⟨x.1, x.2.1, mkVal x.2.2.1⟩
def mkVw (x : sVw.T) : Vw := ⟨fun i => mkVal (x.1 i), fun i => mkMSl (x.2.1 i), x.2.2.1⟩
theorem enc_Sta (x : sSta.T) : sSta.enc x = eSta (mkSta x) := by kernel_rfl
theorem enc_Vw (x : sVw.T) : sVw.enc x = eVw (mkVw x) := by kernel_rfl
def zSta : Value := .agg ((List.range 11).flatMap (fun _ => ([.int .u8 0, .bool false, .int .i64 0, .int .u64 0, .int .u64 0, .int .u64 0, .int .u64 0, .int .i64 0, .int .i64 0] : List Value)) ++ (List.range 64).flatMap (fun _ => ([.int .u8 0, .int .u8 0, .bool false, .int .i64 0, .int .u64 0, .int .u64 0, .int .u64 0, .int .u64 0, .int .i64 0, .int .i64 0] : List Value)) ++ ([.int .i64 0] : List Value)).toArray
def zVw : Value := .agg ((List.range 11).flatMap (fun _ => ([.int .u8 0, .int .i64 0, .int .u64 0, .int .i64 0] : List Value)) ++ (List.range 64).flatMap (fun _ => ([.int .u8 0, .int .u8 0, .int .u8 0, .int .u8 0, .int .u8 0, .int .u8 0, .int .u8 0, .int .u8 0, .int .u8 0, .int .u8 0, .int .i64 0, .int .u64 0, .int .i64 0] : List Value)) ++ ([.int .i64 0] : List Value)).toArray
theorem own : ownKnob Try.prog.godebug = none := by kernel_rfl
theorem encs_ok {l : List Sh} {ts : List TypeId} (h : shAll Try.prog l ts = true) (xs : HL l) : ∀ v ∈ encs l xs, pf v = true := encs_pf l ts h xs
theorem calls_of {l : List Sh} {ts : List TypeId} {xs : HL l} {args : List AV} {Γ : Tab} {Λ : FuncId → Hook} {n : Nat} {f : FuncId} (he : encs l xs = args) (hs : shAll Try.prog l ts = true) (hΓ : TabOk Try.prog Γ) (h : Ev Try.prog Γ Λ n f args (eB true)) (w : World) :
    Calls Try.prog f ((encs l xs).map (val E0)).toArray w fun e w' => e = .returned (.bool true) ∧ RowKit.Below w.heap.size w w' := by
  subst he
  exact h.calls hΓ (encs_ok hs xs) w
theorem enc2 {s t : Sh} {x : s.T} {y : t.T} {a b : AV} (h1 : s.enc x = a) (h2 : t.enc y = b) : encs [s, t] (x, y, ()) = [a, b] := by subst h1 h2; rfl
theorem enc3 {s t u : Sh} {x : s.T} {y : t.T} {z : u.T} {a b c : AV} (h1 : s.enc x = a) (h2 : t.enc y = b) (h3 : u.enc z = c) : encs [s, t, u] (x, y, z, ()) = [a, b, c] := by subst h1 h2 h3; rfl
theorem enc1 {s : Sh} {x : s.T} {a : AV} (h1 : s.enc x = a) : encs [s] (x, ()) = [a] := by subst h1; rfl
end Go.Rf
