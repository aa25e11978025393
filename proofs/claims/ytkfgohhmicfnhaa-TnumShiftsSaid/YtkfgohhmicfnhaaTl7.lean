/- Proved: the law TnumShifts answers true at every input: what is shifted and cut is the document's. No condition. -/
import Derived.Test.YtkfgohhmicfnhaaTnr
import Derived.Test.YtkfgohhmicfnhaaTp4
set_option linter.unusedVariables false
set_option linter.unusedSimpArgs false
namespace Go.Rf
open Go.Proofs Go.Proofs.Ytkfgohhmicfnhaa

def muxC (c : Bool) (t : Tn) : Tn := Tn.mux c nil t
def errC (c : Bool) : W := bif c then 1#64 else 0#64
def offC (c : Bool) (x y : Tn) : Bool := !eqT (muxC c x) (muxC c y) || errC c != errC c
def shifts (t : Tn) (n s : W) : Bool :=
  bif offC (badSh t n) (tLsh t n) (made (mvL t (-n) 64#64 (-1#64))) then false
  else bif offC (badSh t n) (tRsh t n) (made (mvL t n 64#64 (-1#64))) then false
  else bif offC (badArsh t n s) (tArsh t n s) (made (mvL t n s (s - 1#64))) then false
  else true && eqT (tCut t s) (muxC (badCut t s) (made (mvL t 0#64 s (-1#64)))) && eCut t s == errC (badCut t s)

theorem ev7 (t : Tn) (n s : W) : Ev Try.prog (tabOf lA) noHooks 5 7 [eTn t, cI.enc n, cI.enc s] (eB (shifts t n s)) :=
  Ev.of (by kernel_rfl)

theorem offC_not {c : Bool} {x y : Tn} (h : c = false → y = x) : offC c x y = false := by
  unfold offC muxC Tn.mux
  cases c with
  | true => simp [eqT]
  | false => rw [h rfl]; simp [eqT]

theorem sh_range {t : Tn} {n : W} (h : badSh t n = false) : may t = true ∧ 0 ≤ n.toInt ∧ n.toInt ≤ 63 := by
  have z0 : (0#64 : W).toInt = 0 := rfl
  have z63 : (63#64 : W).toInt = 63 := rfl
  simp only [badSh, lt_int, z0, z63, Bool.or_eq_false_iff, decide_eq_false_iff_not, Bool.not_eq_false'] at h
  exact ⟨h.1.1, by omega, by omega⟩

theorem arsh_range {t : Tn} {n s : W} (h : badArsh t n s = false) : may t = true ∧ (s = 32#64 ∨ s = 64#64) ∧ 0 ≤ n.toInt ∧ n.toInt < s.toInt := by
  have z0 : (0#64 : W).toInt = 0 := rfl
  simp only [badArsh, lt_int, le_int, z0, Bool.or_eq_false_iff, decide_eq_false_iff_not, Bool.not_eq_false', Bool.and_eq_false_iff, bne_eq_false_iff_eq] at h
  exact ⟨h.1.1.1, h.1.1.2, by omega, by omega⟩

theorem shifts_true (t : Tn) (n s : W) : shifts t n s = true := by
  unfold shifts
  have h1 : offC (badSh t n) (tLsh t n) (made (mvL t (-n) 64#64 (-1#64))) = false := offC_not fun h => ref_lsh (sh_range h).1 (sh_range h).2.1 (sh_range h).2.2
  have h2 : offC (badSh t n) (tRsh t n) (made (mvL t n 64#64 (-1#64))) = false := offC_not fun h => ref_rsh (sh_range h).1 (sh_range h).2.1 (sh_range h).2.2
  have h3 : offC (badArsh t n s) (tArsh t n s) (made (mvL t n s (s - 1#64))) = false := offC_not fun h => ref_arsh (arsh_range h).1 (arsh_range h).2.1 (arsh_range h).2.2.1 (arsh_range h).2.2.2
  rw [h1, h2, h3]
  simp only [cond_false, Bool.true_and]
  cases ht : may t with
  | false =>
    have b : badCut t s = true := by simp [badCut, ht]
    have c : tCut t s = nil := by simp [tCut, Tn.mux, ht, nil]
    have e : eCut t s = 1#64 := by simp [eCut, ht]
    rw [b, c, e]; rfl
  | true =>
    by_cases h64 : s = 64#64
    · have b : badCut t s = false := by simp [badCut, ht, h64]
      have e : eCut t s = 0#64 := by simp [eCut, ht, h64]
      have r := ref_cut ht (Or.inr (Or.inr (Or.inr h64)))
      rw [b, e]
      unfold muxC Tn.mux
      simp only [cond_false, r]
      rw [eqT_self]; rfl
    · by_cases hs : small s = true
      · have hs' : s = 8#64 ∨ s = 16#64 ∨ s = 32#64 ∨ s = 64#64 := by
          simp only [small, Bool.or_eq_true, beq_iff_eq] at hs
          rcases hs with (h | h) | h <;> simp [h]
        have b : badCut t s = false := by
          simp only [badCut, ht]
          rcases hs' with rfl | rfl | rfl | rfl <;> rfl
        have e : eCut t s = 0#64 := by simp [eCut, ht, hs]
        have r := ref_cut ht hs'
        rw [b, e]
        unfold muxC Tn.mux
        simp only [cond_false, r]
        rw [eqT_self]; rfl
      · have hs2 : small s = false := by simpa using hs
        have b : badCut t s = true := by
          simp only [small, Bool.or_eq_false_iff, beq_eq_false_iff_ne] at hs2
          simp [badCut, ht, hs2, h64]
        have n64 : (s == 64#64) = false := by simpa using h64
        have c : tCut t s = nil := by simp only [tCut, Tn.mux, ht, n64, hs2, Bool.not_true, cond_false]
        have e : eCut t s = 1#64 := by simp [eCut, ht, n64, hs2]
        rw [b, c, e]; rfl

theorem ev7' (t : Tn) (n s : W) : Ev Try.prog (tabOf lA) noHooks 5 7 [eTn t, cI.enc n, cI.enc s] (eB true) := by
  have h := ev7 t n s
  rwa [shifts_true] at h

theorem lift7 (os : Os) (started : os.Started) (H : Type) (enc : TypeId × Value → H) :
    ReturnsInHanded {} Try.checked os 7 .any (Rows.tnumShiftsSpec.pre6 enc Try.prog Try.f7 Rows.tnumShiftsRow.domain false) (Rows.tnumShiftsSpec.post enc Try.prog Try.f7 false true false false) :=
  law_lift (C := Try.checked) (tb := 4) [sTn, sI, sI] own started (by kernel_rfl) Try.func7
    (ChangeSpec.witness6 (enc := enc) (C := Try.checked) false ⟨#[], #[.agg #[.int .u64 0, .int .u64 0], .int .i64 0, .int .i64 0], []⟩ 8 (by kernel_rfl) (by kernel_rfl) (by kernel_rfl) (by kernel_rfl))
    (by kernel_rfl) rfl Try.underlying4 rfl
    (fun ds h => match ds, h with | [_, _, _], _ => rfl)
    (fun xs w => match xs with
      | (a, n, s, ()) => (ev7' ⟨a.1, a.2.1⟩ n s).calls gA (encs_ok (l := [sTn, sI, sI]) (ts := Try.f7.params.toList) (by kernel_rfl) (a, n, s, ())) w)

theorem tnumShifts_row : Rows.TnumShiftsSaid :=
  OpenClaim.holds_of_wide 7 Try.f7 rfl rfl rfl rfl rfl rfl rfl ⟨rfl, rfl, rfl, rfl, rfl⟩ rfl rfl rfl rfl rfl (by kernel_rfl) Try.func7 (by kernel_rfl)
    (of_decide_eq_true (by kernel_rfl)) (by unfold Func.isWrapper; first | (rw [if_pos (by decide +kernel)]; kernel_rfl) | (rw [if_neg (by decide +kernel)]; exact ⟨rfl, rfl⟩))
    (fun os started H enc _ => lift7 os started H enc)
end Go.Rf

namespace Go.Proofs.Ytkfgohhmicfnhaa
theorem tnumShifts_holds : Rows.TnumShiftsSaid := Go.Rf.tnumShifts_row
end Go.Proofs.Ytkfgohhmicfnhaa
