/- States: the contracts of what a slot's knowledge holds. -/
import Derived.Test.YtflnkcibjebdeaaSt13
set_option linter.unusedVariables false
set_option linter.unusedSimpArgs false
set_option maxRecDepth 100000
namespace Go.Rf
open Go.Proofs
def pHt : List Nat := [1, 1, 1, 1, 1, 0, 1, 4]
noncomputable def lpHt : Lp DnS where
  keys := [9, 8, 4]
  names := [1]
  scr := wrAt Try.prog 36 pHt
  vals s := [eI s.j, eW s.n, .ptr 1 []]
  blks s := [⟨45, eMSl s.x⟩]
  dec vs bs := match vs, bs with
    | [j, n, _], [⟨_, x⟩] => match cI.dec j, cW.dec n, cMSl.dec x with
      | some j, some n, some x => some ⟨x, n, j⟩
      | _, _, _ => none
    | _, _ => none
theorem goalHt (s : DnS) (h : s.inv) : LoopGoal Try.prog (loopAt Try.prog 36 pHt) lpHt (DnS.T2 2) s 2 70 0 := by
  refine lp_rule (cx := ⟨Try.prog, tabOf sv6, inlF Try.prog (tabOf sv6) noHooks 2⟩) rsv6 (inlF_ok rsv6 2) (Λ := fun _ => none) (p := []) lpHt DnS.inv DnS.mu (DnS.s2 2) (DnS.T2 2) 2 70 0 (fun _ => ⟨rfl, rfl⟩) ?_ ?_ s h
  · intro s r h hi
    exact fl_ok (g := s.go) (L := ixs s.j 8 1) (by kernel_rfl) (fun hg => ixs_hold (by decide) (DnS.nat hi hg) _)
  · exact DnS.good2 2
noncomputable def hHo : FuncId → Hook := fun f p => if f == 36 && p == pHs then some (lpHs.hk (AL.T 8 fHs 0)) else if f == 36 && p == pHt then some (lpHt.hk (DnS.T2 2)) else none
noncomputable def holdsSP (x : Slt) (m : MSl) (pk : W) : Bool :=
  bif x.r.k == 0#8 then (bif x.h == 0#8 then true else bif m.v.k != 0#8 then false else bif AL.hit 8 fHs ⟨(x, m), 0#64⟩ then false else true) else
  bif m.v.k != 0#8 then holdsRD x.r m.v pk else bif m.h != 255#8 then false else holdsRD x.r ⟨1#8, 0#64, DnS.r2 ⟨m, 0#64, 7#64⟩, 0#64⟩ pk
noncomputable def holdsSD (x : Slt) (m : MSl) (pk : W) : Bool :=
  bif x.r.k == 0#8 then (bif x.h == 0#8 then true else bif m.v.k != 0#8 then false else and8 m.h x.h == x.h) else
  bif m.v.k != 0#8 then holdsRD x.r m.v pk else bif m.h != 255#8 then false else holdsRD x.r ⟨1#8, 0#64, numP m.b, 0#64⟩ pk
theorem zx_nat (b : B8) : (zx b).toNat = b.toNat := by
  show ((b.setWidth 64 : W)).toNat = _
  rw [BitVec.toNat_setWidth]
  have := b.isLt
  omega
theorem f2_f1 (n : W) (b : B8) : f2 n b = f1 n b := by
  unfold f1 f2
  have e : amt .u64 8#64 = 8 := by decide
  rw [e, BitVec.mul_comm, mul256]
  apply BitVec.add_eq_or_of_and_eq_zero
  apply BitVec.eq_of_getLsbD_eq
  intro i hi
  rw [BitVec.getLsbD_and, BitVec.getLsbD_zero, BitVec.getLsbD_shiftLeft]
  by_cases h8 : i < 8
  · simp [h8]
  · have : (zx b).getLsbD i = false := by
      show (b.setWidth 64 : W).getLsbD i = false
      rw [BitVec.getLsbD_setWidth, BitVec.getLsbD_of_ge b i (by omega), Bool.and_false]
    rw [this, Bool.and_false]
theorem numQ_P (b : Nat → B8) : numQ b = numP b := by
  unfold numQ numP
  simp only [f2_f1]
theorem and8_all (a b : B8) : (and8 a b == b) = allN (fun j => !(b.getLsbD j && !a.getLsbD j)) 8 := by
  rw [Bool.eq_iff_iff, beq_iff_eq, allN_iff]
  constructor
  · intro h i hi
    have := congrArg (fun z => BitVec.getLsbD z i) h
    simp only [and8, BitVec.getLsbD_and] at this
    cases hb : b.getLsbD i <;> cases ha : a.getLsbD i <;> simp_all
  · intro h
    apply BitVec.eq_of_getLsbD_eq
    intro i hi
    have := h i hi
    simp only [and8, BitVec.getLsbD_and]
    cases hb : b.getLsbD i with
    | false => rw [Bool.and_false]
    | true =>
      rw [hb] at this
      cases ha : a.getLsbD i with
      | true => rfl
      | false => rw [ha] at this; cases this
theorem holdsSP_eq (x : Slt) (m : MSl) (pk : W) : holdsSP x m pk = holdsSD x m pk := by
  unfold holdsSP holdsSD
  have e : allN (fun i => !fHs (x, m) (BitVec.ofNat 64 i)) 8 = (and8 m.h x.h == x.h) := by
    rw [and8_all]
    exact allN_congr fun i hi => by simp only [fHs, bit_jI i hi, bit_jI0 i hi]
  rw [AL.all 8 fHs (by decide), e, runD, numQ_P]
  cases (and8 m.h x.h == x.h) <;> rfl
theorem right_val {m : MSl} (h : rightS m = true) : ValOk m.v := by
  unfold rightS at h
  cases he : eqVal m.v nilV with
  | true => rw [eqVal_iff.1 he]; exact .none
  | false =>
    rw [he] at h
    simp only [cond_false, Bool.and_eq_true] at h
    exact mayV_ok.1 h.1.1.1
theorem slot_same {x : Slt} {m : MSl} (hx : knownS x = true) (hm : rightS m = true) (pk : W) : holdsSD x m pk = bytesS x m pk := by
  have hr : RegOk x.r := mayR_ok.1 (by unfold knownS at hx; rw [Bool.and_eq_true] at hx; exact hx.1)
  have hv := right_val hm
  unfold holdsSD bytesS
  rw [holdsR_same hr hv, holdsR_same hr (.num _)]
  cases x.r.k == 0#8 <;> cases x.h == 0#8 <;> cases h : (m.v.k == 0#8) <;> simp [bne, h]
  all_goals (cases h2 : (m.h == 255#8) <;> simp [h2])

theorem a32 (x : Slt) (m : MSl) (p : W) : (fg (evalN Try.prog (tabOf sv6) hGe 6 32 [cSlt.enc x, cMSl.enc m, cI.enc p])).map (·.1) = some (eB (bytesP x m p)) := by kernel_rfl
theorem b32 (x : Slt) (m : MSl) (p : W) : (fg (evalN Try.prog (tabOf sv6) hGe 6 32 [cSlt.enc x, cMSl.enc m, cI.enc p])).map (·.2) = some [([!(m.v.k != 0#8), !(x.r.k == 0#8), !(x.r.k == 0#8 && x.h == 0#8)], LoopGoal Try.prog (loopAt Try.prog 51 pGe) lpGe (DnS.T1 0) ⟨m, 0#64, 7#64⟩ 2 35 2)] := by kernel_rfl
theorem d32 (x : Slt) (m : MSl) (p : W) : ∀ e ∈ [([!(m.v.k != 0#8), !(x.r.k == 0#8), !(x.r.k == 0#8 && x.h == 0#8)], LoopGoal Try.prog (loopAt Try.prog 51 pGe) lpGe (DnS.T1 0) ⟨m, 0#64, 7#64⟩ 2 35 2)], (∀ g ∈ e.1, g = true) → e.2 := by
      intro e he _
      simp only [List.mem_singleton] at he
      subst he
      exact goalGe _ ⟨by show -1 ≤ (7#64 : W).toInt; decide, by show (7#64 : W).toInt ≤ 7; decide⟩
theorem c32 (x : Slt) (m : MSl) (p : W) : Ev Try.prog (tabOf sv6) hGe 6 32 [cSlt.enc x, cMSl.enc m, cI.enc p] (eB (bytesP x m p)) := Ev.fg2 (a32 x m p) (b32 x m p) (d32 x m p)
theorem kk32 : ConOk Try.prog 32 (con3 cSlt cMSl cI fun x m p => eB (bytesP x m p)) :=
  con3_ok rsv6 (Λ := hGe) 6 (fun _ _ _ => rfl) (fun x m p => c32 x m p)
theorem bytesP_eq (x : Slt) (m : MSl) (p : W) : bytesP x m p = bytesS x m p := by
  unfold bytesP bytesS
  rw [runP]
theorem k32 : ConOk Try.prog 32 (con3 cSlt cMSl cI fun x m p => eB (bytesS x m p)) :=
  (show (con3 cSlt cMSl cI fun x m p => eB (bytesP x m p)) = (con3 cSlt cMSl cI fun x m p => eB (bytesS x m p)) from congrArg _ (by funext x m p; rw [bytesP_eq])) ▸ kk32
theorem a36 (x : Slt) (m : MSl) (p : W) : (fg (evalN Try.prog (tabOf sv6) hHo 6 36 [cSlt.enc x, cMSl.enc m, cI.enc p])).map (·.1) = some (eB (holdsSP x m p)) := by kernel_rfl
theorem b36 (x : Slt) (m : MSl) (p : W) : (fg (evalN Try.prog (tabOf sv6) hHo 6 36 [cSlt.enc x, cMSl.enc m, cI.enc p])).map (·.2) = some [([!(m.v.k != 0#8), !(x.h == 0#8), x.r.k == 0#8], LoopGoal Try.prog (loopAt Try.prog 36 pHs) lpHs (AL.T 8 fHs 0) ⟨(x, m), 0#64⟩ 2 70 0),
      ([!(m.h != 255#8), !(m.v.k != 0#8), !(x.r.k == 0#8)], LoopGoal Try.prog (loopAt Try.prog 36 pHt) lpHt (DnS.T2 2) ⟨m, 0#64, 7#64⟩ 2 70 0)] := by kernel_rfl
theorem kk36 : ConOk Try.prog 36 (con3 cSlt cMSl cI fun x m p => eB (holdsSP x m p)) :=
  con3_ok rsv6 (Λ := hHo) 6 (fun _ _ _ => rfl) (fun x m p => Ev.fg2 (a36 x m p) (b36 x m p) (by
      intro e he _
      simp only [List.mem_cons, List.not_mem_nil, or_false] at he
      rcases he with rfl | rfl
      · exact goalHs _ (AL.init 8 (by decide) _)
      · exact goalHt _ ⟨by show -1 ≤ (7#64 : W).toInt; decide, by show (7#64 : W).toInt ≤ 7; decide⟩))
theorem k36 : ConOk Try.prog 36 (con3 cSlt cMSl cI fun x m p => eB (holdsSD x m p)) :=
  (show (con3 cSlt cMSl cI fun x m p => eB (holdsSP x m p)) = (con3 cSlt cMSl cI fun x m p => eB (holdsSD x m p)) from congrArg _ (by funext x m p; rw [holdsSP_eq])) ▸ kk36
noncomputable def sv7 : List (FuncId × Con) := (32, con3 cSlt cMSl cI fun x m p => eB (bytesS x m p)) :: (36, con3 cSlt cMSl cI fun x m p => eB (holdsSD x m p)) :: sv6
theorem rsv7 : TabOk Try.prog (tabOf sv7) := tabOf_cons (tabOf_cons rsv6 k36) k32
end Go.Rf
