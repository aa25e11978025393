/- Tnums: the document's operations are the program's, in the great seat. -/
import Derived.Test.YtigiedlngfkfbaaGreatZt
set_option linter.unusedVariables false
set_option linter.unusedSimpArgs false
set_option maxRecDepth 100000
namespace Go.Rf.T
open Go.Proofs

theorem resTE_congr {c : Bool} {x y : Tn} (h : c = false → x = y) : resTE c x = resTE c y := by
  cases c with
  | true => rfl
  | false => rw [h rfl]
theorem mays_of {a b : Tn} (h : bad2 a b = false) : may a = true ∧ may b = true := by
  unfold bad2 at h
  cases ha : may a <;> cases hb : may b <;> simp_all
theorem sh_range {t : Tn} {n : W} (h : badSh t n = false) : may t = true ∧ 0 ≤ n.toInt ∧ n.toInt ≤ 63 := by
  have z0 : (0#64 : W).toInt = 0 := rfl
  have z63 : (63#64 : W).toInt = 63 := rfl
  simp only [badSh, lt_int, z0, z63, Bool.or_eq_false_iff, decide_eq_false_iff_not, Bool.not_eq_false'] at h
  exact ⟨h.1.1, by omega, by omega⟩
theorem arsh_range {t : Tn} {n s : W} (h : badArsh t n s = false) : may t = true ∧ (s = 32#64 ∨ s = 64#64) ∧ 0 ≤ n.toInt ∧ n.toInt < s.toInt := by
  have z0 : (0#64 : W).toInt = 0 := rfl
  simp only [badArsh, lt_int, le_int, z0, Bool.or_eq_false_iff, decide_eq_false_iff_not, Bool.not_eq_false', Bool.and_eq_false_iff, bne_eq_false_iff_eq] at h
  exact ⟨h.1.1.1, h.1.1.2, by omega, by omega⟩
theorem cut_res (t : Tn) (s : W) : resTE (badCut t s) (made (mvL t 0#64 s (-1#64))) = pair (eTn (tCut t s)) (eI (eCut t s)) := by
  cases ht : may t with
  | false =>
    have b : badCut t s = true := by simp [badCut, ht]
    have c : tCut t s = nil := by simp [tCut, Tn.mux, ht, nil]
    have e : eCut t s = 1#64 := by simp [eCut, ht]
    rw [b, c, e]; rfl
  | true =>
    by_cases h64 : s = 64#64
    · have b : badCut t s = false := by simp [badCut, ht, h64]
      have e : eCut t s = 0#64 := by simp [eCut, ht, h64]
      have r := ref_cut ht (Or.inr (Or.inr (Or.inr h64)))
      rw [b, e, r]; rfl
    · by_cases hs : small s = true
      · have hs' : s = 8#64 ∨ s = 16#64 ∨ s = 32#64 ∨ s = 64#64 := by
          simp only [small, Bool.or_eq_true, beq_iff_eq] at hs
          rcases hs with (h | h) | h <;> simp [h]
        have b : badCut t s = false := by
          simp only [badCut, ht]
          rcases hs' with rfl | rfl | rfl | rfl <;> rfl
        have e : eCut t s = 0#64 := by simp [eCut, ht, hs]
        have r := ref_cut ht hs'
        rw [b, e, r]; rfl
      · have hs2 : small s = false := by simpa using hs
        have b : badCut t s = true := by
          simp only [small, Bool.or_eq_false_iff, beq_eq_false_iff_ne] at hs2
          simp [badCut, ht, hs2, h64]
        have n64 : (s == 64#64) = false := by simpa using h64
        have c : tCut t s = nil := by simp only [tCut, Tn.mux, ht, n64, hs2, Bool.not_true, cond_false]
        have e : eCut t s = 1#64 := by simp [eCut, ht, n64, hs2]
        rw [b, c, e]; rfl
/-- And, Or, Xor by their numbers. -/
def bitsOp (op : W) (a b : Tn) : Tn := Tn.mux (op == 0#64) (tAnd a b) (Tn.mux (op == 1#64) (tOr a b) (Tn.mux (op == 2#64) (tXor a b) (made (bitsL op a b))))
theorem tn_mux_t {x y : Tn} {c : Bool} (h : c = true) : Tn.mux c x y = x := by subst h; rfl
theorem tn_mux_f {x y : Tn} {c : Bool} (h : c = false) : Tn.mux c x y = y := by subst h; rfl
theorem bitsOp_eq {op : W} {a b : Tn} (ha : may a = true) (hb : may b = true) : made (bitsL op a b) = bitsOp op a b := by
  unfold bitsOp
  by_cases h0 : op = 0#64
  · subst h0; rw [tn_mux_t (by rfl)]; exact ref_and ha hb
  · rw [tn_mux_f (by simpa using h0)]
    by_cases h1 : op = 1#64
    · subst h1; rw [tn_mux_t (by rfl)]; exact ref_or ha hb
    · rw [tn_mux_f (by simpa using h1)]
      by_cases h2 : op = 2#64
      · subst h2; rw [tn_mux_t (by rfl)]; exact ref_xor ha hb
      · rw [tn_mux_f (by simpa using h2)]
theorem ks92 : ConOk Tryz.prog 92 (con2 cTn cTn fun a b => resTE (bad2 a b) (tAdd a b)) :=
  (show (con2 cTn cTn fun a b => resTE (bad2 a b) (made (carL a b false))) = (con2 cTn cTn fun a b => resTE (bad2 a b) (tAdd a b)) from congrArg _ (by funext a b; exact resTE_congr fun h => ref_add (mays_of h).1 (mays_of h).2)) ▸ k92
theorem ks93 : ConOk Tryz.prog 93 (con2 cTn cTn fun a b => resTE (bad2 a b) (tSub a b)) :=
  (show (con2 cTn cTn fun a b => resTE (bad2 a b) (made (carL a b true))) = (con2 cTn cTn fun a b => resTE (bad2 a b) (tSub a b)) from congrArg _ (by funext a b; exact resTE_congr fun h => ref_sub (mays_of h).1 (mays_of h).2)) ▸ k93
theorem ks94 : ConOk Tryz.prog 94 (con2 cTn cTn fun a b => resTE (bad2 a b) (tMul a b)) :=
  (show (con2 cTn cTn fun a b => resTE (bad2 a b) (refMul a b)) = (con2 cTn cTn fun a b => resTE (bad2 a b) (tMul a b)) from congrArg _ (by funext a b; exact resTE_congr fun h => ref_mul (mays_of h).1 (mays_of h).2)) ▸ k94
theorem ks95 : ConOk Tryz.prog 95 (con3 cI cTn cTn fun op a b => resTE (bad2 a b) (bitsOp op a b)) :=
  (show (con3 cI cTn cTn fun op a b => resTE (bad2 a b) (made (bitsL op a b))) = (con3 cI cTn cTn fun op a b => resTE (bad2 a b) (bitsOp op a b)) from congrArg _ (by funext op a b; exact resTE_congr fun h => bitsOp_eq (mays_of h).1 (mays_of h).2)) ▸ k95
theorem ks97 : ConOk Tryz.prog 97 (con2 cTn cI fun t n => resTE (badSh t n) (tLsh t n)) :=
  (show (con2 cTn cI fun t n => resTE (badSh t n) (made (mvL t (-n) 64#64 (-1#64)))) = (con2 cTn cI fun t n => resTE (badSh t n) (tLsh t n)) from congrArg _ (by funext t n; exact resTE_congr fun h => ref_lsh (sh_range h).1 (sh_range h).2.1 (sh_range h).2.2)) ▸ k97
theorem ks98 : ConOk Tryz.prog 98 (con2 cTn cI fun t n => resTE (badSh t n) (tRsh t n)) :=
  (show (con2 cTn cI fun t n => resTE (badSh t n) (made (mvL t n 64#64 (-1#64)))) = (con2 cTn cI fun t n => resTE (badSh t n) (tRsh t n)) from congrArg _ (by funext t n; exact resTE_congr fun h => ref_rsh (sh_range h).1 (sh_range h).2.1 (sh_range h).2.2)) ▸ k98
theorem ks99 : ConOk Tryz.prog 99 (con3 cTn cI cI fun t n s => resTE (badArsh t n s) (tArsh t n s)) :=
  (show (con3 cTn cI cI fun t n s => resTE (badArsh t n s) (made (mvL t n s (s - 1#64)))) = (con3 cTn cI cI fun t n s => resTE (badArsh t n s) (tArsh t n s)) from congrArg _ (by funext t n s; exact resTE_congr fun h => ref_arsh (arsh_range h).1 (arsh_range h).2.1 (arsh_range h).2.2.1 (arsh_range h).2.2.2)) ▸ k99
theorem ks83 : ConOk Tryz.prog 83 (con2 cTn cI fun t s => pair (eTn (tCut t s)) (eI (eCut t s))) :=
  (show (con2 cTn cI fun t s => resTE (badCut t s) (made (mvL t 0#64 s (-1#64)))) = (con2 cTn cI fun t s => pair (eTn (tCut t s)) (eI (eCut t s))) from congrArg _ (by funext t s; exact cut_res t s)) ▸ k83
noncomputable def zt1 : List (FuncId × Con) :=
  (92, con2 cTn cTn fun a b => resTE (bad2 a b) (tAdd a b)) ::
  (93, con2 cTn cTn fun a b => resTE (bad2 a b) (tSub a b)) ::
  (94, con2 cTn cTn fun a b => resTE (bad2 a b) (tMul a b)) ::
  (95, con3 cI cTn cTn fun op a b => resTE (bad2 a b) (bitsOp op a b)) ::
  (97, con2 cTn cI fun t n => resTE (badSh t n) (tLsh t n)) ::
  (98, con2 cTn cI fun t n => resTE (badSh t n) (tRsh t n)) ::
  (99, con3 cTn cI cI fun t n s => resTE (badArsh t n s) (tArsh t n s)) ::
  (83, con2 cTn cI fun t s => pair (eTn (tCut t s)) (eI (eCut t s))) :: tz4
theorem rzt1 : TabOk Tryz.prog (tabOf zt1) := tabOf_cons (tabOf_cons (tabOf_cons (tabOf_cons (tabOf_cons (tabOf_cons (tabOf_cons (tabOf_cons rtz4 ks83) ks99) ks98) ks97) ks95) ks94) ks93) ks92
end Go.Rf.T
