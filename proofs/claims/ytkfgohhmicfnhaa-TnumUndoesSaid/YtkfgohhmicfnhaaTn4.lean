/- Proved: the law TnumUndoes answers true at every input: what is added and taken away again holds what was. No condition. -/
import Derived.Test.YtkfgohhmicfnhaaTn3
import Derived.Test.YtkfgohhmicfnhaaRf17
import Derived.Test.YtkfgohhmicfnhaaTp1
import Derived.Test.YtkfgohhmicfnhaaRows
set_option linter.unusedVariables false
set_option linter.unusedSimpArgs false
namespace Go.Rf
open Go.Proofs Go.Proofs.Ytkfgohhmicfnhaa

def addR (a b : Tn) : Tn := Tn.mux (bad2 a b) nil (tAdd a b)
def subR (a b : Tn) : Tn := Tn.mux (bad2 a b) nil (tSub a b)
def mulR (a b : Tn) : Tn := Tn.mux (bad2 a b) nil (tMul a b)
def err2 (a b : Tn) : W := bif bad2 a b then 1#64 else 0#64
def eqT (a b : Tn) : Bool := a.v == b.v && a.m == b.m
def of (n : W) : Tn := ⟨n, 0#64⟩

def undoes (a b : Tn) (n : W) : Bool :=
  bif !true || !may a || !may b then true
  else bif err2 a b != 0#64 || err2 (addR a b) b != 0#64 || err2 a (of 0#64) != 0#64 || err2 a (of 0#64) != 0#64 || err2 (of 1#64) a != 0#64 || err2 b a != 0#64 || err2 (of n) (of a.v) != 0#64 then false
  else isIn a (subR (addR a b) b) && eqT (addR a (of 0#64)) a && eqT (mulR a (of 0#64)) (of 0#64) && eqT (mulR (of 1#64) a) a && eqT (addR b a) (addR a b) && eqT (addR (of n) (of a.v)) (of (n + a.v))

theorem ev3 (a b : Tn) (n : W) : Ev Try.prog (tabOf l4) noHooks 5 3 [eTn a, eTn b, cW.enc n] (eB (undoes a b n)) :=
  Ev.of (by kernel_rfl)

def sTn : Sh := .agg (.cons (.int .u64) (.cons (.int .u64) .nil))
def sW : Sh := .int .u64
def sI : Sh := .int .i64

theorem eqT_self (a : Tn) : eqT a a = true := by simp [eqT]

theorem undoes_true (a b : Tn) (n : W) : undoes a b n = true := by
  unfold undoes
  cases ha : may a with
  | false => rfl
  | true =>
    cases hb : may b with
    | false => rfl
    | true =>
      have m0 : ∀ n, may (of n) = true := fun n => may_of n
      have hab : bad2 a b = false := bad2_false ha hb
      have r1 : addR a b = tAdd a b := by simp [addR, Tn.mux, hab]
      have hs : may (tAdd a b) = true := may_tAdd a b
      have r2 : subR (tAdd a b) b = tSub (tAdd a b) b := by simp [subR, Tn.mux, bad2_false hs hb]
      have r3 : addR a (of 0#64) = a := by
        have : addR a (of 0#64) = tAdd a (of 0#64) := by simp [addR, Tn.mux, bad2_false ha (m0 _)]
        rw [this]; exact add_zero' ha
      have r4 : mulR a (of 0#64) = of 0#64 := by
        have : mulR a (of 0#64) = tMul a (of 0#64) := by simp [mulR, Tn.mux, bad2_false ha (m0 _)]
        rw [this]; exact mul_zero' a
      have r5 : mulR (of 1#64) a = a := by
        have : mulR (of 1#64) a = tMul (of 1#64) a := by simp [mulR, Tn.mux, bad2_false (m0 _) ha]
        rw [this]; exact one_mul' ha
      have r6 : addR b a = tAdd a b := by
        have : addR b a = tAdd b a := by simp [addR, Tn.mux, bad2_false hb ha]
        rw [this]; exact add_comm' b a
      have r7 : addR (of n) (of a.v) = of (n + a.v) := by
        have : addR (of n) (of a.v) = tAdd (of n) (of a.v) := by simp [addR, Tn.mux, bad2_false (m0 _) (m0 _)]
        rw [this]; exact add_of n a.v
      have e : ∀ x y, may x = true → may y = true → (err2 x y != 0#64) = false := by
        intro x y hx hy
        simp [err2, bad2_false hx hy]
      rw [r1, r2, r3, r4, r5, r6, r7]
      simp only [e _ _ ha hb, e _ _ hs hb, e _ _ ha (m0 _), e _ _ (m0 _) ha, e _ _ hb ha, e _ _ (m0 _) (m0 _), eqT_self, Bool.not_true, Bool.or_self, Bool.and_true, cond_false]
      -- what is left: a is in the difference
      have hm : Mem (tSub (tAdd a b) b) a.v := by
        have := sub_sound (add_sound (may_mem ha) (may_mem hb)) (may_mem hb)
        rwa [BitVec.add_sub_cancel] at this
      simp only [isIn, ha, has_iff.2 hm, Bool.true_and, beq_iff_eq]
      apply BitVec.eq_of_getLsbD_eq
      intro i hi
      simp only [tSub, tAdd, fit, BitVec.getLsbD_and, BitVec.getLsbD_not, hi, decide_true, Bool.true_and, BitVec.getLsbD_or, BitVec.getLsbD_zero]
      cases a.m.getLsbD i <;> simp

theorem ev3' (a b : Tn) (n : W) : Ev Try.prog (tabOf l4) noHooks 5 3 [eTn a, eTn b, cW.enc n] (eB true) := by
  have h := ev3 a b n
  rwa [undoes_true] at h

theorem own : ownKnob Try.prog.godebug = none := by kernel_rfl

theorem lift3 (os : Os) (started : os.Started) (H : Type) (enc : TypeId × Value → H) :
    ReturnsInHanded {} Try.checked os 3 .any (Rows.tnumUndoesSpec.pre6 enc Try.prog Try.f3 Rows.tnumUndoesRow.domain false) (Rows.tnumUndoesSpec.post enc Try.prog Try.f3 false true false false) :=
  law_lift (C := Try.checked) (tb := 4) [sTn, sTn, sW] own started (by kernel_rfl) Try.func3
    (ChangeSpec.witness6 (enc := enc) (C := Try.checked) false ⟨#[], #[.agg #[.int .u64 0, .int .u64 0], .agg #[.int .u64 0, .int .u64 0], .int .u64 0], []⟩ 8 (by kernel_rfl) (by kernel_rfl) (by kernel_rfl) (by kernel_rfl))
    (by kernel_rfl) rfl Try.underlying4 rfl
    (fun ds h => match ds, h with | [_, _, _], _ => rfl)
    (fun ⟨a, b, n, _⟩ w => by
      exact (ev3' ⟨a.1, a.2.1⟩ ⟨b.1, b.2.1⟩ n).calls g4 (by intro v hv; simp at hv; rcases hv with rfl | rfl | rfl <;> rfl) w)

theorem tnumUndoes_holds : Rows.TnumUndoesSaid :=
  OpenClaim.holds_of_wide 3 Try.f3 rfl rfl rfl rfl rfl rfl rfl ⟨rfl, rfl, rfl, rfl, rfl⟩ rfl rfl rfl rfl rfl (by kernel_rfl) Try.func3 (by kernel_rfl)
    (of_decide_eq_true (by kernel_rfl)) (by unfold Func.isWrapper; first | (rw [if_pos (by decide +kernel)]; kernel_rfl) | (rw [if_neg (by decide +kernel)]; exact ⟨rfl, rfl⟩))
    (fun os started H enc _ => lift3 os started H enc)
end Go.Rf

namespace Go.Proofs.Ytkfgohhmicfnhaa
theorem tnumUndoes_holds : Rows.TnumUndoesSaid := Go.Rf.tnumUndoes_holds
end Go.Proofs.Ytkfgohhmicfnhaa
