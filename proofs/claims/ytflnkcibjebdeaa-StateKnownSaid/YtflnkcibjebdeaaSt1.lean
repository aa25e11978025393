/- States: data and their codes. -/
import Derived.Test.YtflnkcibjebdeaaRfG
import Derived.Test.YtflnkcibjebdeaaPs2
set_option linter.unusedVariables false
set_option linter.unusedSimpArgs false
namespace Go.Rf

abbrev B8 := BitVec 8
def fB8 : FCod B8 := FCod.bv .u8
def cB8 : Cod B8 := fB8.one
def eB8 (x : B8) : AV := cB8.enc x

structure Val where
  k : B8
  m : W
  n : W
  o : W
def fVal : FCod Val := FCod.aggR (FCod.consR fB8 (FCod.consR fI (FCod.consR fW (FCod.consR fI FCod.nilR)))) (fun x => ⟨x.1, x.2.1, x.2.2.1, x.2.2.2.1⟩) (fun g => (g.k, g.m, g.n, g.o, ())) (fun _ => rfl)
def cVal : Cod Val := fVal.one
def eVal (x : Val) : AV := cVal.enc x

structure Reg where
  k : B8
  ln : Bool
  m : W
  s : Sc
  lo : W
  hi : W
def fReg : FCod Reg := FCod.aggR (FCod.consR fB8 (FCod.consR FCod.bl (FCod.consR fI (FCod.consR fSc (FCod.consR fI (FCod.consR fI FCod.nilR)))))) (fun x => ⟨x.1, x.2.1, x.2.2.1, x.2.2.2.1, x.2.2.2.2.1, x.2.2.2.2.2.1⟩) (fun g => (g.k, g.ln, g.m, g.s, g.lo, g.hi, ())) (fun _ => rfl)
def cReg : Cod Reg := fReg.one
def eReg (x : Reg) : AV := cReg.enc x

structure Slt where
  h : B8
  r : Reg
def fSlt : FCod Slt := FCod.agg2 fB8 fReg Slt.mk Slt.h Slt.r (fun _ _ => rfl) (fun _ _ => rfl)
def cSlt : Cod Slt := fSlt.one
def eSlt (x : Slt) : AV := cSlt.enc x

structure Sta where
  regs : Nat → Reg
  stk : Nat → Slt
  pk : W
def cSta : Cod Sta := Cod.agg3 (fReg.arr 11) (fSlt.arr 64) cI Sta.mk Sta.regs Sta.stk Sta.pk (fun _ _ _ => rfl) (fun _ _ _ => rfl) (fun _ _ _ => rfl)
def eSta (x : Sta) : AV := cSta.enc x

/-- A slot of a frame. -/
structure MSl where
  h : B8
  b : Nat → B8
  v : Val
def fMSl : FCod MSl := FCod.aggR (FCod.consR fB8 (FCod.consR (fB8.arrF 8) (FCod.consR fVal FCod.nilR))) (fun x => ⟨x.1, x.2.1, x.2.2.1⟩) (fun g => (g.h, g.b, g.v, ())) (fun _ => rfl)
def cMSl : Cod MSl := Cod.agg3 cB8 (fB8.arr 8) cVal MSl.mk MSl.h MSl.b MSl.v (fun _ _ _ => rfl) (fun _ _ _ => rfl) (fun _ _ _ => rfl)
def eMSl (x : MSl) : AV := cMSl.enc x
def cFra : Cod (Nat → MSl) := fMSl.arr 64
def eFra (x : Nat → MSl) : AV := cFra.enc x

structure Vw where
  regs : Nat → Val
  fr : Nat → MSl
  pk : W
def cVw : Cod Vw := Cod.agg3 (fVal.arr 11) cFra cI Vw.mk Vw.regs Vw.fr Vw.pk (fun _ _ _ => rfl) (fun _ _ _ => rfl) (fun _ _ _ => rfl)
def eVw (x : Vw) : AV := cVw.enc x
end Go.Rf
