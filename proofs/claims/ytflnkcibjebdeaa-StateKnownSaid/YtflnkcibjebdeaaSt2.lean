/- States: what leaves of the program and of the document answer. -/
import Derived.Test.YtflnkcibjebdeaaSt1
set_option linter.unusedVariables false
set_option linter.unusedSimpArgs false
namespace Go.Rf

def sw2 (c d b r : Bool) : Bool := bif c then (bif c then b else r) else (bif d then b else r)
def sw3 (c d e b r : Bool) : Bool := bif c then (bif c then b else r) else bif d then (bif d then b else r) else (bif e then b else r)
theorem sw2_eq (c d b r : Bool) : sw2 c d b r = bif c || d then b else r := by cases c <;> cases d <;> rfl
theorem sw3_eq (c d e b r : Bool) : sw3 c d e b r = bif c || d || e then b else r := by cases c <;> cases d <;> cases e <;> rfl

def spreadR (r : Reg) : Bool := leB .i64 (BitVec.ofInt 64 (-1048576)) r.lo && leB .i64 r.lo r.hi && leB .i64 r.hi 1048576#64
def farR (r : Reg) : Bool := leB .i64 r.lo r.hi && leB .i64 (BitVec.ofInt 64 (-1048576)) r.lo && leB .i64 r.hi 1048576#64
def noughtR (r : Reg) : Bool := r.k == 1#8 && r.s.s.hi == 0#64
def firstR (r : Reg) : Bool := r.k == 6#8 && r.lo == 0#64 && r.hi == 0#64
def noughtD (r : Reg) : Bool := r.k == 1#8 && eqC r.s (ofC 0#64)
def sureS (x : Slt) : B8 := bif x.r.k == 0#8 then x.h else bif x.r.k == 1#8 then 255#8 else 0#8
def shr8 (x : B8) (n : Nat) : B8 := shrB .u8 x n
def rem8 (x y : B8) : B8 := remB .u8 x y
def jI (j : W) : Nat := amt .i64 j
def jU (j : W) : Nat := amt .u64 (convB .i64 .u64 j)
def sureD (x : Slt) (j : W) : Bool := x.r.k == 1#8 || x.r.k == 0#8 && (shr8 x.h (jI j) &&& 1#8 == 1#8)
def addrV (v : Val) : Bool := v.k != 0#8 && v.k != 1#8
def addrD (v : Val) : Bool := leB .u8 2#8 v.k && leB .u8 v.k 6#8
def hasM (x : MSl) (j : W) : Bool := rem8 (shr8 x.h (jU j)) 2#8 == 1#8
def mayV (v : Val) : Bool :=
  bif v.k == 0#8 then v.m == 0#64 && (v.n == 0#64 && v.o == 0#64) else bif v.k == 1#8 then v.m == 0#64 && v.o == 0#64 else
  sw3 (v.k == 2#8) (v.k == 3#8) (v.k == 4#8) (v.m == 0#64 && v.n == 0#64)
    (bif v.k == 5#8 then (bif ltB .i64 v.m 0#64 then false else v.n == 0#64 && v.o == 0#64)
      else bif v.k == 6#8 then (bif ltB .i64 v.m 0#64 || ltB .u64 v.n 1#64 then false else true) else false)
def mayVD (v : Val) : Bool :=
  bif v.k == 0#8 then v.m == 0#64 && v.n == 0#64 && v.o == 0#64 else bif v.k == 1#8 then v.m == 0#64 && v.o == 0#64 else
  sw3 (v.k == 2#8) (v.k == 3#8) (v.k == 4#8) (v.m == 0#64 && v.n == 0#64)
    (bif v.k == 5#8 then leB .i64 0#64 v.m && v.n == 0#64 && v.o == 0#64 else bif v.k == 6#8 then leB .i64 0#64 v.m && leB .u64 1#64 v.n else false)

theorem leI_lt (x y : W) : leB .i64 x y = !ltB .i64 y x := by
  rw [leI, ltI, Bool.eq_iff_iff]; simp
theorem leU_lt (x y : W) : leB .u64 x y = !ltB .u64 y x := by
  rw [leU, ltU, Bool.eq_iff_iff]; simp
theorem mayV_same (v : Val) : mayVD v = mayV v := by
  unfold mayVD mayV
  rw [leI_lt, leU_lt]
  cases ltB .i64 v.m 0#64 <;> cases ltB .u64 v.n 1#64 <;> simp [Bool.and_assoc]
theorem far_same (r : Reg) : farR r = spreadR r := by
  unfold farR spreadR
  rw [Bool.and_comm (leB .i64 r.lo r.hi)]
end Go.Rf
