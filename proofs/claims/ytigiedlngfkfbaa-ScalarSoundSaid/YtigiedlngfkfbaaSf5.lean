/- Scalars: keeps answers true. -/
import Derived.Test.YtigiedlngfkfbaaSf4
import Derived.Test.YtigiedlngfkfbaaSe9
set_option linter.unusedVariables false
set_option linter.unusedSimpArgs false
set_option maxRecDepth 100000
namespace Go.Rf
open Go.Proofs

noncomputable def kpA (r : R3) (op : W) : Bool := (!r.ok && (!eqC r.x nilC || !eqC r.y nilC)) || (r.ok && (condDE op != 0#64))
noncomputable def kpB (s : SmV) (x y : W) : Bool := ((condDE s.op != 0#64) || !hasC s.a x) || !hasC s.b y
noncomputable def kpC (r : R3) (s : SmV) (x y : W) (h : Bool) : Bool := (condDV s.op s.w x y == h) && ((!r.ok || !hasC r.x x) || !hasC r.y y)
noncomputable def keepsB (s : SmV) (x y : W) (h : Bool) : Bool :=
  bif kpA (refP s.op s.w s.a s.b h) s.op then false else bif kpB s x y then true else bif kpC (refP s.op s.w s.a s.b h) s x y h then false else !(refP s.op s.w s.a s.b h).ok || (inC (refP s.op s.w s.a s.b h).x s.a && inC (refP s.op s.w s.a s.b h).y s.b)
theorem kpA_none (op : W) : kpA R3.none op = false := by
  have e : eqC nilC nilC = true := eqC_iff.2 rfl
  show ((!false && (!eqC nilC nilC || !eqC nilC nilC)) || (false && (condDE op != 0#64))) = false
  rw [e]; rfl
theorem keeps_none (s : SmV) (x y : W) (h : Bool) (hr : refP s.op s.w s.a s.b h = R3.none) (hb : kpB s x y = true) : keepsB s x y h = true := by
  unfold keepsB
  rw [hr, hb]
  rw [kpA_none]
  rfl
theorem hasC_not {a : Sc} (h : mayC a = false) (x : W) : hasC a x = false := by unfold hasC; rw [h]; rfl
theorem condDE_ok {op : W} (hi : inv op = false) : condDE op = 0#64 := by
  rcases inv_cases op with rfl | rfl | rfl | rfl | rfl | rfl | rfl | rfl | rfl | rfl | rfl | hi' <;> first
    | rfl
    | (rw [hi] at hi'; cases hi')
theorem keepsB_true (s : SmV) (x y : W) (h : Bool) : keepsB s x y h = true := by
  cases hi : inv s.op with
  | true =>
    refine keeps_none s x y h (refP_inv hi _ _ _ _) ?_
    unfold kpB
    rw [inv_DE hi]; rfl
  | false =>
    cases ha : mayC s.a with
    | false =>
      refine keeps_none s x y h ?_ ?_
      · unfold refP badR; rw [ha]; simp [mux_t]
      · unfold kpB; rw [hasC_not ha]; simp
    | true =>
      cases hb : mayC s.b with
      | false =>
        refine keeps_none s x y h ?_ ?_
        · unfold refP badR; rw [hb]; simp [mux_t]
        · unfold kpB; rw [hasC_not hb]; simp
      | true =>
        have T := tells_all hi (w := s.w) ha hb h
        unfold keepsB
        generalize refP s.op s.w s.a s.b h = r at T ⊢
        have hA : kpA r s.op = false := by
          cases ho : r.ok with
          | true => unfold kpA; rw [condDE_ok hi, ho]; rfl
          | false =>
            have := T.none ho
            subst this
            exact kpA_none _
        rw [hA]
        cases hB : kpB s x y with
        | true => rfl
        | false =>
          unfold kpB at hB
          simp only [Bool.or_eq_false_iff, Bool.not_eq_false'] at hB
          have mx := (hasC_iff.1 hB.1.2).2
          have my := (hasC_iff.1 hB.2).2
          have hC : kpC r s x y h = false := by
            unfold kpC
            cases hc : (condDV s.op s.w x y == h) with
            | false => rfl
            | true =>
              obtain ⟨q1, q2, q3⟩ := T.mem x y mx my (by simpa using hc)
              obtain ⟨l1, l2⟩ := T.le q1
              rw [q1, hasC_iff.2 ⟨(inC_iff.1 l1).1, q2⟩, hasC_iff.2 ⟨(inC_iff.1 l2).1, q3⟩]
              rfl
          rw [hC]
          show (!r.ok || (inC r.x s.a && inC r.y s.b)) = true
          cases ho : r.ok with
          | false => rfl
          | true =>
            obtain ⟨l1, l2⟩ := T.le ho
            rw [l1, l2]; rfl
theorem kk17 : ConOk Try.prog 17 (con4 cSm cW cW cBl fun s x y h => eB (keepsB s x y h)) :=
  con4_ok rtc1 (Λ := noHooks) 6 (fun _ _ _ _ => rfl) (fun s x y h => Ev.of (by kernel_rfl))
theorem k17 : ConOk Try.prog 17 (con4 cSm cW cW cBl fun s x y h => eB true) :=
  (show (con4 cSm cW cW cBl fun s x y h => eB (keepsB s x y h)) = (con4 cSm cW cW cBl fun s x y h => eB true) from congrArg _ (by funext s x y h; rw [keepsB_true])) ▸ kk17
noncomputable def tk1 : List (FuncId × Con) := (17, con4 cSm cW cW cBl fun s x y h => eB true) :: tc1
theorem rtk1 : TabOk Try.prog (tabOf tk1) := tabOf_cons rtc1 k17
end Go.Rf
