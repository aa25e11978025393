/- Scalars: the document's Refine has the program's contract. -/
import Derived.Test.YtigiedlngfkfbaaSe6
set_option linter.unusedVariables false
set_option linter.unusedSimpArgs false
set_option maxRecDepth 100000
namespace Go.Rf
open Go.Proofs
theorem opp_k {k : W} (h : notP k = oppD k) (w : Bool) (a b : Sc) : ∀ h, refG (bif h then k else notP k) w a b = refG (bif h then k else oppD k) w a b := by
  intro hh; rw [h]
theorem opp_4 (w : Bool) (a b : Sc) : ∀ h, refG (bif h then 4#64 else notP 4#64) w a b = refG (bif h then 4#64 else oppD 4#64) w a b := by
  intro h
  cases h with
  | true => rfl
  | false =>
    have e1 : refG 0#64 w a b = nsG a b := by unfold refG; rfl
    have e2 : refG 100#64 w a b = nsG a b := by unfold refG; rfl
    show refG (notP 4#64) w a b = refG (oppD 4#64) w a b
    rw [show notP 4#64 = 0#64 from by decide, show oppD 4#64 = 100#64 from by decide, e1, e2]
theorem r12_all (op : W) (w : Bool) (a b : Sc) (h : Bool) : EvAt Try.prog 12 [val E0 (cI.enc op), val E0 (cBl.enc w), val E0 (cSc.enc a), val E0 (cSc.enc b), val E0 (cBl.enc h)] (eR3 (refP op w a b h)) := by
  rcases inv_cases op with rfl | rfl | rfl | rfl | rfl | rfl | rfl | rfl | rfl | rfl | rfl | hi
  · rw [← ref_same w a b h (fun w => by cases w <;> decide) (opp_k (by decide) w a b)]
    cases h
    · exact r12_1f w a b
    · exact r12_1t w a b
  · rw [← ref_same w a b h (fun w => by cases w <;> decide) (opp_k (by decide) w a b)]
    cases h
    · exact r12_5f w a b
    · exact r12_5t w a b
  · rw [← ref_same w a b h (fun w => by cases w <;> decide) (opp_k (by decide) w a b)]
    cases h
    · exact r12_2f w a b
    · exact r12_2t w a b
  · rw [← ref_same w a b h (fun w => by cases w <;> decide) (opp_k (by decide) w a b)]
    cases h
    · exact r12_3f w a b
    · exact r12_3t w a b
  · rw [← ref_same w a b h (fun w => by cases w <;> decide) (opp_k (by decide) w a b)]
    cases h
    · exact r12_10f w a b
    · exact r12_10t w a b
  · rw [← ref_same w a b h (fun w => by cases w <;> decide) (opp_k (by decide) w a b)]
    cases h
    · exact r12_11f w a b
    · exact r12_11t w a b
  · rw [← ref_same w a b h (fun w => by cases w <;> decide) (opp_4 w a b)]
    cases h
    · exact r12_4f w a b
    · exact r12_4t w a b
  · rw [← ref_same w a b h (fun w => by cases w <;> decide) (opp_k (by decide) w a b)]
    cases h
    · exact r12_6f w a b
    · exact r12_6t w a b
  · rw [← ref_same w a b h (fun w => by cases w <;> decide) (opp_k (by decide) w a b)]
    cases h
    · exact r12_7f w a b
    · exact r12_7t w a b
  · rw [← ref_same w a b h (fun w => by cases w <;> decide) (opp_k (by decide) w a b)]
    cases h
    · exact r12_12f w a b
    · exact r12_12t w a b
  · rw [← ref_same w a b h (fun w => by cases w <;> decide) (opp_k (by decide) w a b)]
    cases h
    · exact r12_13f w a b
    · exact r12_13t w a b
  · rw [refP_inv hi]; exact r12_i op w a b h hi
theorem k12 : ConOk Try.prog 12 (con5 cI cBl cSc cSc cBl fun op w a b h => eR3 (refP op w a b h)) :=
  con5_ok (fun _ _ _ _ _ => rfl) r12_all
noncomputable def tc1 : List (FuncId × Con) :=
  (11, con5 cI cBl cSc cSc cBl fun op w a b h => eR3 (refP op w a b h)) ::
  (12, con5 cI cBl cSc cSc cBl fun op w a b h => eR3 (refP op w a b h)) ::
  (35, con4 cI cBl cW cW fun op w a b => pair (eB (condDV op w a b)) (eI (condDE op))) :: ta2
theorem rtc1 : TabOk Try.prog (tabOf tc1) := tabOf_cons (tabOf_cons (tabOf_cons rta2 k35) k12) k11
end Go.Rf
