/- Spans: the law SpanLeast. -/
import Derived.Test.YtpmbaddpcahnfaaSr9
set_option linter.unusedVariables false
set_option linter.unusedSimpArgs false
set_option maxRecDepth 100000
namespace Go.Rf
open Go.Proofs

def offL (g : Gv) : Bool := !mayS g.a || !mayS g.b || ltB .u64 23#64 (g.a.hi - g.a.lo) || ltB .u64 23#64 (g.b.hi - g.b.lo) || g.op == 2#64 || g.op == 6#64 || g.op == 7#64 || g.op == 9#64 || ltB .i64 11#64 g.op || ltB .i64 g.op 0#64
def farL (g : Gv) : Bool := ltB .u64 23#64 ((cutD g.a 32#64).hi - (cutD g.a 32#64).lo) || ltB .u64 23#64 ((cutD g.b 32#64).hi - (cutD g.b 32#64).lo)
def stN (g : Gv) : LoS := ⟨g, cutD g.a 32#64, cutD g.b 32#64, ⟨t64, 0#64⟩, 0#64⟩
def stW (g : Gv) : LoS := ⟨g, g.a, g.b, ⟨t64, 0#64⟩, 0#64⟩
def ansL (g : Gv) (s : LoS) : Bool := errG g == 0#64 && eqS (resG g) s.run.w && true
def leastG (g : Gv) : Bool := bif offL g then true else bif !g.w then (bif farL g then true else ansL g (stN g)) else ansL g (stW g)
noncomputable def obsL (g : Gv) : List (List Bool × Prop) :=
  [([!farL g, !g.w, !offL g], LoopGoal Try.prog (loopAt Try.prog 6 pLo) lpLo LoS.T (stN g) 5 162 0),
   ([!(!g.w), !offL g], LoopGoal Try.prog (loopAt Try.prog 6 pLo) lpLo LoS.T (stW g) 5 162 0)]

theorem offL_not {g : Gv} (h : (!offL g) = true) : mayS g.a = true ∧ mayS g.b = true ∧ (g.a.hi - g.a.lo).toNat ≤ 23 ∧ (g.b.hi - g.b.lo).toNat ≤ 23 ∧ tight g.op := by
  have z0 : (0#64 : W).toInt = 0 := rfl
  have z11 : (11#64 : W).toInt = 11 := rfl
  have z23 : (23#64 : W).toNat = 23 := rfl
  rw [Bool.not_eq_true'] at h
  unfold offL at h
  simp only [Bool.or_eq_false_iff, Bool.not_eq_false', ltU, ltI, decide_eq_false_iff_not, beq_eq_false_iff_ne, z0, z11, z23] at h
  obtain ⟨⟨⟨⟨⟨⟨⟨⟨⟨h1, h2⟩, h3⟩, h4⟩, h5⟩, h6⟩, h7⟩, h8⟩, h9⟩, h10⟩ := h
  refine ⟨h1, h2, by omega, by omega, ?_⟩
  have := isOp_of (op := g.op) (by omega) (by omega)
  unfold tight
  rcases this with e | e | e | e | e | e | e | e | e | e | e | e | e
  · exact .inl e
  · exact .inr (.inl e)
  · exact absurd e h5
  · exact .inr (.inr (.inl e))
  · exact .inr (.inr (.inr (.inl e)))
  · exact .inr (.inr (.inr (.inr (.inl e))))
  · exact absurd e h6
  · exact absurd e h7
  · exact .inr (.inr (.inr (.inr (.inr (.inl e)))))
  · exact absurd e h8
  · exact .inr (.inr (.inr (.inr (.inr (.inr (.inl e))))))
  · exact .inr (.inr (.inr (.inr (.inr (.inr (.inr e))))))
  · have : g.op.toInt = 12 := by rw [e]; rfl
    omega
theorem farL_not {g : Gv} (h : (!farL g) = true) : ((cutS g.a 32#64).hi - (cutS g.a 32#64).lo).toNat ≤ 23 ∧ ((cutS g.b 32#64).hi - (cutS g.b 32#64).lo).toNat ≤ 23 := by
  have z23 : (23#64 : W).toNat = 23 := rfl
  rw [Bool.not_eq_true'] at h
  unfold farL at h
  rw [← cut_same, ← cut_same] at h
  simp only [Bool.or_eq_false_iff, ltU, decide_eq_false_iff_not, z23] at h
  omega

theorem obsL_hold (g : Gv) : ∀ e ∈ obsL g, (∀ x ∈ e.1, x = true) → e.2 := by
  intro e he hg
  simp only [obsL, List.mem_cons, List.not_mem_nil, or_false] at he
  rcases he with rfl | rfl
  · have h1 := farL_not (hg _ (List.mem_cons_self ..))
    rw [cut_same, cut_same] at h1
    exact goalLo _ ⟨h1.1, h1.2, Nat.zero_le _⟩
  · have h1 := offL_not (hg (!offL g) (by simp))
    exact goalLo _ ⟨h1.2.2.1, h1.2.2.2.1, Nat.zero_le _⟩

theorem not_bad {g : Gv} (h : (!offL g) = true) : aluBad g.op g.a g.b = false := by
  obtain ⟨ma, mb, _, _, ho⟩ := offL_not h
  have := tight_op ho
  unfold aluBad
  rw [ma, mb]
  rcases this with e | e | e | e | e | e | e | e | e | e | e | e | e <;> rw [e] <;> rfl

theorem ansL_true {g : Gv} (h : (!offL g) = true) {s : LoS} (hs : aluS g.op g.w g.a g.b = s.run.w) : ansL g s = true := by
  unfold ansL errG resG
  rw [not_bad h]
  show (0#64 == 0#64 && eqS (aluS g.op g.w g.a g.b) s.run.w && true) = true
  rw [hs, eqS_self]; rfl

theorem and32_le {s : Sp} (h : s.hi.toNat ≤ t32.toNat) {X : W} (hX : memS s X) : X &&& t32 = X := by
  apply BitVec.eq_of_toNat_eq
  have tn : t32.toNat = 4294967295 := rfl
  have e : (32#64 : W).toNat = 32 := rfl
  rw [wd32.and, e]
  exact Nat.mod_eq_of_lt (by have := hX.2; omega)

theorem leastG_true (g : Gv) : leastG g = true := by
  unfold leastG
  cases ho : offL g with
  | true => rfl
  | false =>
    have ho' : (!offL g) = true := by rw [ho]; rfl
    obtain ⟨ma, mb, da, db, op⟩ := offL_not ho'
    cases hw : g.w with
    | true =>
      show ansL g (stW g) = true
      refine ansL_true ho' ?_
      unfold aluS
      rw [hw]
      exact tight_want wd64 g op ma mb (le64' _) (le64' _) (fun X Y _ _ => by
        unfold oneR
        rw [hw, top64, and64, and64]; rfl) (outer_seen g g.a g.b db da)
    | false =>
      show (bif farL g then true else ansL g (stN g)) = true
      cases hf : farL g with
      | true => rfl
      | false =>
        obtain ⟨ca, cb⟩ := farL_not (g := g) (by rw [hf]; rfl)
        have hax := cut32 ma (memS_lo ma)
        have hbx := cut32 mb (memS_lo mb)
        show ansL g (stN g) = true
        refine ansL_true ho' ?_
        unfold aluS stN
        rw [hw, ← cut_same, ← cut_same]
        exact tight_want wd32 g op hax.2.2 hbx.2.2 hax.2.1 hbx.2.1 (fun X Y hX hY => by
          unfold oneR
          rw [hw, top32]
          show one' g.op (X &&& t32) (Y &&& t32) 32#64 t32 = _
          rw [and32_le hax.2.1 hX, and32_le hbx.2.1 hY]) (outer_seen g _ _ cb ca)

theorem ev6 (g : Gv) : Ev Try.prog (tabOf sl10) hLo 6 6 [eGv g] (eB true) := by
  have h : Ev Try.prog (tabOf sl10) hLo 6 6 [eGv g] (eB (leastG g)) := Ev.fg (L := obsL g) (by kernel_rfl) (obsL_hold g)
  rwa [leastG_true] at h
end Go.Rf
