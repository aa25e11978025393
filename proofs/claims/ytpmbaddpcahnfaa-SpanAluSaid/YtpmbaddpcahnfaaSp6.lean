/- Spans: the contract of Alu. -/
import Derived.Test.YtpmbaddpcahnfaaSp5
set_option linter.unusedVariables false
set_option linter.unusedSimpArgs false
namespace Go.Rf
open Go.Proofs

noncomputable def sl6 : List (FuncId × Con) :=
  (30, con3 cSp cSp cW fun a b t => eSp (sumS a b t)) :: (31, con3 cSp cSp cW fun a b t => eSp (lessS a b t)) ::
  (33, con2 cSp cSp fun a b => eSp (partsS a b)) :: (38, con2 cSp cSp fun a b => eSp (restS a b)) ::
  (32, con2 cW cW fun x y => pair (eW (mulHi x y)) (eW (x * y))) :: sl5
theorem sg6 : TabOk Try.prog (tabOf sl6) := tabOf_cons (tabOf_cons (tabOf_cons (tabOf_cons (tabOf_cons sg5 k32) k38) k33) k31) k30

def mulS (a b : Sp) (t : W) : Sp := Sp.mux (ltB .u64 0#64 (mulHi a.hi b.hi) || ltB .u64 t (a.hi * b.hi)) ⟨0, t⟩ ⟨a.lo * b.lo, a.hi * b.hi⟩
def toUS (x : W) : W := convB .i64 .u64 x
def toIS (x : W) : W := convB .u64 .i64 x
def half1 (x : W) : W := shrB .u64 x 1
def shC (x n : W) : W := toIS (x &&& toUS (n - 1#64))
def shWide (b : Sp) (n : W) : Bool := leB .u64 (toUS n) (b.hi - b.lo) || ltB .i64 (shC b.hi n) (shC b.lo n)
def drw (x k t : W) : W := shI x k ||| (t &&& ~~~(shI t k))
def signOf (t : W) : W := half1 t + 1#64
def shTo (op : W) (a : Sp) (c d t : W) : Sp :=
  Sp.mux (op == 6#64 && ltB .u64 (shI t d) a.hi) ⟨0, t⟩
    (Sp.mux (op == 6#64) ⟨a.lo <<< amt .i64 c, a.hi <<< amt .i64 d⟩
      (Sp.mux (op == 7#64 || ltB .u64 a.hi (signOf t)) ⟨shI a.lo d, shI a.hi c⟩
        (Sp.mux (ltB .u64 a.lo (signOf t)) ⟨shI a.lo d, drw a.hi d t⟩ ⟨drw a.lo c t, drw a.hi d t⟩)))
def shiftS (op : W) (a b : Sp) (n t : W) : Sp := Sp.mux (shWide b n) (shTo op a 0#64 (n - 1#64) t) (shTo op a (shC b.lo n) (shC b.hi n) t)
def core (op : W) (a b : Sp) (n t : W) : Sp :=
  Sp.mux (op == 0#64) (sumS a b t) (Sp.mux (op == 8#64) (lessS (ofS 0#64) a t) (Sp.mux (op == 1#64) (lessS a b t)
  (Sp.mux (op == 2#64) (mulS a b t) (Sp.mux (op == 3#64) (partsS a b) (Sp.mux (op == 4#64) ⟨leastOr a b, mostOr a b⟩
  (Sp.mux (op == 5#64) ⟨leastAnd a b, mostAnd a b⟩ (Sp.mux (op == 9#64) (restS a b) (Sp.mux (op == 10#64) ⟨leastXor a b, mostXor a b⟩
  (Sp.mux (op == 11#64) b (shiftS op a b n t))))))))))
def aluBad (op : W) (a b : Sp) : Bool := ltB .i64 op 0#64 || ltB .i64 12#64 op || !mayS a || !mayS b
def t32 : W := 4294967295#64
def t64 : W := 18446744073709551615#64
def aluS (op : W) (w : Bool) (a b : Sp) : Sp := Sp.mux (!w) (core op (cutS a 32#64) (cutS b 32#64) 32#64 t32) (core op a b 64#64 t64)

def p0 (x : W) : Prop := 0 ≤ toZ .i64 x
def obsN (b : Sp) (n : W) : List Prop :=
  [p0 0#64, p0 (n - 1#64), p0 (n - 1#64), p0 0#64, p0 (n - 1#64), p0 (n - 1#64), p0 0#64, p0 (n - 1#64),
   p0 (shC b.hi n), p0 (shC b.lo n), p0 (shC b.hi n), p0 (shC b.hi n), p0 (shC b.lo n), p0 (shC b.hi n), p0 (shC b.hi n), p0 (shC b.hi n), p0 (shC b.lo n), p0 (shC b.lo n), p0 (shC b.hi n), p0 (shC b.hi n)]

theorem shC_nat (x : W) (n : W) (hn : n = 32#64 ∨ n = 64#64) : (shC x n).toNat = x.toNat % n.toNat := by
  have e : shC x n = x &&& (n - 1#64) := by
    unfold shC toIS toUS
    show ((x &&& (n - 1#64).signExtend 64).setWidth 64 : W) = _
    rw [BitVec.setWidth_eq, BitVec.signExtend_eq]
  rw [e, BitVec.toNat_and]
  rcases hn with rfl | rfl
  · exact Nat.and_two_pow_sub_one_eq_mod x.toNat 5
  · exact Nat.and_two_pow_sub_one_eq_mod x.toNat 6
theorem shC_pos (x n : W) (hn : n = 32#64 ∨ n = 64#64) : p0 (shC x n) := by
  have h := shC_nat x n hn
  have : (shC x n).toNat < 64 := by
    rw [h]
    rcases hn with rfl | rfl
    · exact Nat.lt_of_lt_of_le (Nat.mod_lt _ (by decide)) (by decide)
    · exact Nat.mod_lt _ (by decide)
  unfold p0
  rw [toZ_nat (by omega)]
  omega
theorem obsN_hold (b : Sp) (n : W) (hn : n = 32#64 ∨ n = 64#64) : ∀ p ∈ obsN b n, p := by
  intro p hp
  have z : p0 0#64 := by show (0 : Int) ≤ (0#64 : W).toInt; decide
  have t : p0 (n - 1#64) := by
    rcases hn with rfl | rfl
    · show (0 : Int) ≤ (32#64 - 1#64 : W).toInt; decide
    · show (0 : Int) ≤ (64#64 - 1#64 : W).toInt; decide
  have c := shC_pos b.lo n hn
  have d := shC_pos b.hi n hn
  simp only [obsN, List.mem_cons, List.not_mem_nil, or_false] at hp
  rcases hp with rfl | rfl | rfl | rfl | rfl | rfl | rfl | rfl | rfl | rfl | rfl | rfl | rfl | rfl | rfl | rfl | rfl | rfl | rfl | rfl <;> assumption

theorem k15 : ConOk Try.prog 15 (con4 cI cB cSp cSp fun op w a b => resSE (aluBad op a b) (aluS op w a b)) :=
  con4_ok sg6 (Λ := noHooks) 6 (fun _ _ _ _ => rfl) (fun op w a b => Ev.fl (g := !(aluBad op a b)) (L := obsN (cutS b 32#64) 32#64 ++ obsN b 64#64) (by kernel_rfl) (fun _ p hp => by
    rw [List.mem_append] at hp
    rcases hp with hp | hp
    · exact obsN_hold _ _ (.inl rfl) p hp
    · exact obsN_hold _ _ (.inr rfl) p hp))
noncomputable def sl7 : List (FuncId × Con) := (15, con4 cI cB cSp cSp fun op w a b => resSE (aluBad op a b) (aluS op w a b)) :: sl6
theorem sg7 : TabOk Try.prog (tabOf sl7) := tabOf_cons sg6 k15
end Go.Rf
