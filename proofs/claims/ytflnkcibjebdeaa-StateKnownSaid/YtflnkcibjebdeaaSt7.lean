/- States: values, slots, joins of registers. -/
import Derived.Test.YtflnkcibjebdeaaSt5
set_option linter.unusedVariables false
set_option linter.unusedSimpArgs false
namespace Go.Rf

def eqVal (a b : Val) : Bool := a.k == b.k && (a.m == b.m && (a.n == b.n && a.o == b.o))
theorem eqVal_iff {a b : Val} : eqVal a b = true ↔ a = b := by
  obtain ⟨k, m, n, o⟩ := a
  obtain ⟨k', m', n', o'⟩ := b
  simp only [eqVal, Bool.and_eq_true, beq_iff_eq, Val.mk.injEq]
theorem eqVal_self (a : Val) : eqVal a a = true := eqVal_iff.2 rfl
inductive ValOk : Val → Prop where
  | none : ValOk ⟨0#8, 0#64, 0#64, 0#64⟩
  | num (n : W) : ValOk ⟨1#8, 0#64, n, 0#64⟩
  | ctx (o : W) : ValOk ⟨2#8, 0#64, 0#64, o⟩
  | pkt (o : W) : ValOk ⟨3#8, 0#64, 0#64, o⟩
  | frame (o : W) : ValOk ⟨4#8, 0#64, 0#64, o⟩
  | ref (m : W) (hm : leB .i64 0#64 m = true) : ValOk ⟨5#8, m, 0#64, 0#64⟩
  | cell (m n o : W) (hm : leB .i64 0#64 m = true) (hn : leB .u64 1#64 n = true) : ValOk ⟨6#8, m, n, o⟩
theorem mayV_ok {v : Val} : mayV v = true ↔ ValOk v := by
  rw [← mayV_same]
  constructor
  · intro h
    obtain ⟨k, m, n, o⟩ := v
    rcases kinds k with hk | hk
    case inr =>
      simp only [mayVD, ne_kind hk 0#8 (by decide), ne_kind hk 1#8 (by decide), ne_kind hk 2#8 (by decide), ne_kind hk 3#8 (by decide), ne_kind hk 4#8 (by decide), ne_kind hk 5#8 (by decide), ne_kind hk 6#8 (by decide)] at h
      exact absurd h (by simp [sw3])
    rcases hk with rfl | rfl | rfl | rfl | rfl | rfl | rfl | rfl <;> simp [mayVD, sw3] at h
    · obtain ⟨⟨rfl, rfl⟩, rfl⟩ := h; exact .none
    · obtain ⟨rfl, rfl⟩ := h; exact .num _
    · obtain ⟨rfl, rfl⟩ := h; exact .ctx _
    · obtain ⟨rfl, rfl⟩ := h; exact .pkt _
    · obtain ⟨rfl, rfl⟩ := h; exact .frame _
    · obtain ⟨⟨h1, rfl⟩, rfl⟩ := h; exact .ref _ h1
    · exact .cell _ _ _ h.1 h.2
  · intro h
    cases h <;> simp_all [mayVD, sw3]

noncomputable def maySD (x : Slt) : Bool := bif x.r.k == 0#8 then eqReg x.r ⟨0#8, false, 0#64, nilC, 0#64, 0#64⟩ else x.h == 255#8 && mayR x.r
theorem maySD_same (x : Slt) : maySD x = knownS x := by
  obtain ⟨h, r⟩ := x
  unfold maySD knownS
  cases hk : (r.k == 0#8) with
  | false =>
    show (h == 255#8 && mayR r) = (mayR r && (false || (h == 255#8)))
    rw [Bool.false_or, Bool.and_comm]
  | true =>
    show eqReg r _ = (mayR r && (true || _))
    rw [Bool.true_or, Bool.and_true, Bool.eq_iff_iff, eqReg_iff, mayR_ok]
    constructor
    · intro e; rw [e]; exact .none
    · intro e
      rw [beq_iff_eq] at hk
      cases e <;> first | rfl | simp at hk

def toU (x : W) : W := convB .i64 .u64 x
noncomputable def holdsR (x : Reg) (v : Val) (pk : W) : Bool :=
  bif x.k == 0#8 then true else bif x.k == 7#8 then eqVal v ⟨1#8, 0#64, 0#64, 0#64⟩ || v.k == 6#8 && v.m == x.m && v.o == 0#64 else
  bif v.k != x.k then false else bif x.k == 1#8 then hasC x.s v.n && (!x.ln || v.n == toU pk) else v.m == x.m && leB .i64 x.lo v.o && leB .i64 v.o x.hi
noncomputable def holdsRD (x : Reg) (v : Val) (pk : W) : Bool :=
  bif x.k == 0#8 then true else bif x.k == 1#8 then v.k == 1#8 && hasC x.s v.n && (!x.ln || v.n == toU pk) else
  bif x.k == 2#8 then v.k == 2#8 && v.o == 0#64 else
  sw2 (x.k == 3#8) (x.k == 4#8) (v.k == x.k && leB .i64 x.lo v.o && leB .i64 v.o x.hi)
    (bif x.k == 5#8 then v.k == 5#8 && v.m == x.m else bif x.k == 6#8 then v.k == 6#8 && v.m == x.m && leB .i64 x.lo v.o && leB .i64 v.o x.hi else
      v.k == 6#8 && v.m == x.m && v.o == 0#64 || v.k == 1#8 && v.n == 0#64)
theorem eq0_le (x : W) : (leB .i64 0#64 x && leB .i64 x 0#64) = (x == 0#64) := by
  rw [leI, leI, Bool.eq_iff_iff, Bool.and_eq_true, decide_eq_true_eq, decide_eq_true_eq, beq_iff_eq]
  have z : (0#64 : W).toInt = 0 := rfl
  constructor
  · intro h; exact BitVec.eq_of_toInt_eq (by omega)
  · rintro rfl; omega
theorem holdsR_same {x : Reg} {v : Val} (hx : RegOk x) (hv : ValOk v) (pk : W) : holdsRD x v pk = holdsR x v pk := by
  unfold holdsRD holdsR
  cases hx <;> cases hv <;> simp [sw2, eqVal, le00, bne, eq0_le, Bool.and_assoc]
def and8 (x y : B8) : B8 := x &&& y
noncomputable def coversS (x y : Slt) : Bool :=
  bif y.r.k == 0#8 then and8 (sureS x) y.h == y.h else bif x.r.k == 0#8 then x.h == 255#8 && eqReg y.r ⟨1#8, false, 0#64, allC, 0#64, 0#64⟩ else inR x.r y.r

def maybeBad (x y : Reg) : Bool := !oneP x || !oneP y || x.k != 1#8 && y.k != 1#8 && x.m != y.m
def maybeOk (x y : Reg) : Bool := bif maybeBad x y then false else true
def maybeM (x y : Reg) : W := bif maybeBad x y then 0#64 else bif x.k == 1#8 then y.m else x.m
noncomputable def joinR (x y : Reg) : Reg :=
  ⟨bif x.k != y.k then (bif maybeOk x y then 7#8 else 0#8) else bif x.k == 1#8 then 1#8 else bif x.m != y.m then 0#8 else x.k,
   bif x.k != y.k then false else bif x.k == 1#8 then x.ln && y.ln else false,
   bif x.k != y.k then (bif maybeOk x y then maybeM x y else 0#64) else bif x.k == 1#8 then 0#64 else bif x.m != y.m then 0#64 else x.m,
   ⟨⟨bif x.k != y.k then 0#64 else bif x.k == 1#8 then (joinCR x.s y.s).t.v else 0#64, bif x.k != y.k then 0#64 else bif x.k == 1#8 then (joinCR x.s y.s).t.m else 0#64⟩,
    ⟨bif x.k != y.k then 0#64 else bif x.k == 1#8 then (joinCR x.s y.s).s.lo else 0#64, bif x.k != y.k then 0#64 else bif x.k == 1#8 then (joinCR x.s y.s).s.hi else 0#64⟩⟩,
   bif x.k != y.k then 0#64 else bif x.k == 1#8 then 0#64 else bif x.m != y.m then 0#64 else minI x.lo y.lo,
   bif x.k != y.k then 0#64 else bif x.k == 1#8 then 0#64 else bif x.m != y.m then 0#64 else maxI x.hi y.hi⟩
end Go.Rf
namespace Go.Rf
def swv {α : Type} (a b c d e : Bool) (x r : α) : α :=
  bif a then (bif a then x else r) else bif b then (bif b then x else r) else bif c then (bif c then x else r) else bif d then (bif d then x else r) else (bif e then x else r)
def swR {α : Type} (r : Reg) (x y : α) : α := swv (r.k == 3#8) (r.k == 4#8) (r.k == 5#8) (r.k == 6#8) (r.k == 7#8) x y
def badM (x y : Reg) : Bool := x.k != 1#8 && y.k != 1#8 && x.m != y.m
noncomputable def joinRD (x y : Reg) : Reg :=
  ⟨bif x.k != y.k then (bif !thirdD x || !thirdD y then 0#8 else bif x.k == 1#8 then (bif badM x y then 0#8 else 7#8) else (bif badM x y then 0#8 else 7#8)) else bif x.k == 1#8 then x.k else swR x (bif x.m != y.m then 0#8 else x.k) x.k,
   bif x.k != y.k then false else bif x.k == 1#8 then x.ln && y.ln else false,
   bif x.k != y.k then (bif !thirdD x || !thirdD y then 0#64 else bif x.k == 1#8 then (bif badM x y then 0#64 else y.m) else (bif badM x y then 0#64 else x.m)) else bif x.k == 1#8 then 0#64 else swR x (bif x.m != y.m then 0#64 else x.m) 0#64,
   ⟨⟨bif x.k != y.k then 0#64 else bif x.k == 1#8 then (joinCR x.s y.s).t.v else 0#64, bif x.k != y.k then 0#64 else bif x.k == 1#8 then (joinCR x.s y.s).t.m else 0#64⟩,
    ⟨bif x.k != y.k then 0#64 else bif x.k == 1#8 then (joinCR x.s y.s).s.lo else 0#64, bif x.k != y.k then 0#64 else bif x.k == 1#8 then (joinCR x.s y.s).s.hi else 0#64⟩⟩,
   bif x.k != y.k then 0#64 else bif x.k == 1#8 then 0#64 else swR x (bif x.m != y.m then 0#64 else minI x.lo y.lo) 0#64,
   bif x.k != y.k then 0#64 else bif x.k == 1#8 then 0#64 else swR x (bif x.m != y.m then 0#64 else maxI x.hi y.hi) 0#64⟩
theorem joinRD_same {x y : Reg} (hx : RegOk x) (hy : RegOk y) : joinRD x y = joinR x y := by
  unfold joinRD joinR maybeOk maybeM maybeBad
  rw [one_same hx, one_same hy]
  have e : (x.k != 1#8 && y.k != 1#8 && x.m != y.m) = badM x y := rfl
  rw [e]
  have q1 : oneP x = false ∨ oneP x = true := by cases oneP x <;> simp
  generalize badM x y = bm
  generalize oneP x = a
  generalize oneP y = b
  cases hx <;> cases hy <;> cases a <;> cases b <;> cases bm <;> simp [swR, swv, minI, maxI]
end Go.Rf
