/- Scalars: what conditions tell, small functions. -/
import Derived.Test.YtigiedlngfkfbaaSb1
set_option linter.unusedVariables false
set_option linter.unusedSimpArgs false
set_option maxRecDepth 100000
namespace Go.Rf
open Go.Proofs

def chain {α : Type} (op : W) : List (W × α) → α → α
  | [], d => d
  | (k, x) :: l, d => bif op == k then x else chain op l d
def sgn (w : Bool) (x : W) : W := bif !w then convB .i32 .i64 (convB .u64 .i32 x) else convB .u64 .i64 x
def low32 (x : W) : W := x &&& 4294967295#64
def clP (w : Bool) (a b : W) : List (W × Bool) := [(1#64, a == b), (5#64, a != b), (2#64, ltB .u64 b a), (3#64, leB .u64 b a), (10#64, ltB .u64 a b), (11#64, leB .u64 a b), (4#64, (a &&& b) != 0#64),
  (6#64, ltB .i64 (sgn w b) (sgn w a)), (7#64, leB .i64 (sgn w b) (sgn w a)), (12#64, ltB .i64 (sgn w a) (sgn w b)), (13#64, leB .i64 (sgn w a) (sgn w b))]
def clE : List (W × W) := [(1#64, 0#64), (5#64, 0#64), (2#64, 0#64), (3#64, 0#64), (10#64, 0#64), (11#64, 0#64), (4#64, 0#64), (6#64, 0#64), (7#64, 0#64), (12#64, 0#64), (13#64, 0#64)]
def condPV (op : W) (w : Bool) (a b : W) : Bool := bif !w then chain op (clP w (low32 a) (low32 b)) false else chain op (clP w a b) false
def condPE (op : W) (w : Bool) : W := bif !w then chain op clE 20#64 else chain op clE 20#64
def cBl : Cod Bool := FCod.bl.one
theorem k29 : ConOk Try.prog 29 (con4 cI cBl cW cW fun op w a b => pair (eB (condPV op w a b)) (eI (condPE op w))) :=
  con4_ok rsf3 (Λ := noHooks) 5 (fun _ _ _ _ => rfl) (fun op w a b => Ev.of (by kernel_rfl))
def notL : List (W × W) := [(1#64, 5#64), (5#64, 1#64), (2#64, 11#64), (3#64, 10#64), (10#64, 3#64), (11#64, 2#64), (6#64, 13#64), (7#64, 12#64), (12#64, 7#64), (13#64, 6#64)]
def notP (op : W) : W := chain op notL 0#64
theorem k30 : ConOk Try.prog 30 (con1 cI fun op => eI (notP op)) := con1_ok rsf3 (Λ := noHooks) 5 (fun _ => rfl) (fun op => Ev.of (by kernel_rfl))

structure R3 where
  x : Sc
  y : Sc
  ok : Bool
def R3.mux (c : Bool) (p q : R3) : R3 := ⟨Sc.mux c p.x q.x, Sc.mux c p.y q.y, bif c then p.ok else q.ok⟩
def R3.none : R3 := ⟨nilC, nilC, false⟩
def eR3 (r : R3) : AV := .tup (.cons (eSc r.x) (.cons (eSc r.y) (.cons (eB r.ok) .nil)))
def both3 (a : Sc) (ok : Bool) (b : Sc) (is : Bool) : R3 := R3.mux (!ok || !is) R3.none ⟨a, b, true⟩
theorem k31 : ConOk Try.prog 31 (con4 cSc cBl cSc cBl fun a ok b is => eR3 (both3 a ok b is)) :=
  con4_ok rsf3 (Λ := noHooks) 5 (fun _ _ _ _ => rfl) (fun a ok b is => Ev.of (by kernel_rfl))
noncomputable def wi (a : Sc) (l h : W) : Sc := Sc.mux (l == a.s.lo && h == a.s.hi) a (Sc.mux (a.s.lo == a.s.hi) nilC (setR a.t ⟨l, h⟩))
noncomputable def wiB (a : Sc) (l h : W) : Bool := bif l == a.s.lo && h == a.s.hi then true else bif a.s.lo == a.s.hi then false else setOk a.t ⟨l, h⟩
noncomputable def woP (a : Sc) (n : W) : Sc := Sc.mux (a.s.lo == n) (Sc.mux (a.s.hi == n) (wi a (a.s.lo + 1#64) (a.s.hi - 1#64)) (wi a (a.s.lo + 1#64) a.s.hi)) (Sc.mux (a.s.hi == n) (wi a a.s.lo (a.s.hi - 1#64)) (wi a a.s.lo a.s.hi))
noncomputable def woPB (a : Sc) (n : W) : Bool := bif a.s.lo == n then (bif a.s.hi == n then wiB a (a.s.lo + 1#64) (a.s.hi - 1#64) else wiB a (a.s.lo + 1#64) a.s.hi) else (bif a.s.hi == n then wiB a a.s.lo (a.s.hi - 1#64) else wiB a a.s.lo a.s.hi)
theorem k33 : ConOk Try.prog 33 (con2 cSc cW fun a n => pair (eSc (woP a n)) (eB (woPB a n))) :=
  con2_ok rsf3 (Λ := noHooks) 5 (fun _ _ => rfl) (fun a n => Ev.of (by kernel_rfl))
def abL (a : Sc) (m : W) : Sp := ⟨bif ltB .u64 a.s.lo m then m else a.s.lo, a.s.hi⟩
def abH (b : Sc) (n : W) : Sp := ⟨b.s.lo, bif ltB .u64 n b.s.hi then n else b.s.hi⟩
noncomputable def above (a b : Sc) (m n : W) : R3 := both3 (setR a.t (abL a m)) (setOk a.t (abL a m)) (setR b.t (abH b n)) (setOk b.t (abH b n))
theorem k34 : ConOk Try.prog 34 (con4 cSc cSc cW cW fun a b m n => eR3 (above a b m n)) :=
  con4_ok rsf3 (Λ := noHooks) 5 (fun _ _ _ _ => rfl) (fun a b m n => Ev.of (by kernel_rfl))
noncomputable def wd (a : Sc) (m n : W) : Sc := Sc.mux (!ynS (noMeetS a.s ⟨m, n⟩)) nilC (setR a.t (Sp.mux (noMeetS a.s ⟨m, n⟩) nilS (meetS a.s ⟨m, n⟩)))
noncomputable def wdB (a : Sc) (m n : W) : Bool := bif !ynS (noMeetS a.s ⟨m, n⟩) then false else setOk a.t (Sp.mux (noMeetS a.s ⟨m, n⟩) nilS (meetS a.s ⟨m, n⟩))
theorem k42 : ConOk Try.prog 42 (con3 cSc cW cW fun a m n => pair (eSc (wd a m n)) (eB (wdB a m n))) :=
  con3_ok rsf3 (Λ := noHooks) 5 (fun _ _ _ => rfl) (fun a m n => Ev.of (by kernel_rfl))
noncomputable def woD (a : Sc) (n : W) : Sc := Sc.mux (a.s.lo == n && a.s.hi == n) nilC (Sc.mux (a.s.lo == n) (wd a (n + 1#64) a.s.hi) (Sc.mux (a.s.hi == n) (wd a a.s.lo (n - 1#64)) a))
noncomputable def woDB (a : Sc) (n : W) : Bool := bif a.s.lo == n && a.s.hi == n then false else bif a.s.lo == n then wdB a (n + 1#64) a.s.hi else bif a.s.hi == n then wdB a a.s.lo (n - 1#64) else true
theorem k41 : ConOk Try.prog 41 (con2 cSc cW fun a n => pair (eSc (woD a n)) (eB (woDB a n))) :=
  con2_ok rsf3 (Λ := noHooks) 5 (fun _ _ => rfl) (fun a n => Ev.of (by kernel_rfl))
def plainD (op : W) : W := chain op [(6#64, 2#64), (7#64, 3#64), (12#64, 10#64), (13#64, 11#64)] op
theorem k38 : ConOk Try.prog 38 (con1 cI fun op => eI (plainD op)) := con1_ok rsf3 (Λ := noHooks) 5 (fun _ => rfl) (fun op => Ev.of (by kernel_rfl))
end Go.Rf
