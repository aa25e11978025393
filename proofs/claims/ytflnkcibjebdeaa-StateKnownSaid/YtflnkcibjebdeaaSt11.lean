/- States: slots of a frame. -/
import Derived.Test.YtflnkcibjebdeaaSt10
set_option linter.unusedVariables false
set_option linter.unusedSimpArgs false
set_option maxRecDepth 100000
namespace Go.Rf
open Go.Proofs
def cBy : Cod (Nat → B8) := fB8.arr 8
def and1 (x : B8) : B8 := x &&& 1#8
def jN (j : Nat) : Nat := j
noncomputable def fRa : (MSl × (Nat → B8)) → W → Bool := fun d j => d.2 (ixN j) != 0#8 && and1 (shr8 d.1.h (jU j)) == 0#8
def pRa : List Nat := [1, 1, 0, 1, 4]
noncomputable def lpRa : Lp (AL (MSl × (Nat → B8))) where
  keys := [30, 29, 1, 2]
  names := [0]
  scr := wrAt Try.prog 49 pRa
  vals s := [eI s.i, cBy.enc s.d.2, .ptr 0 [], eB false]
  blks s := [⟨51, eMSl s.d.1⟩]
  dec vs bs := match vs, bs with
    | [i, b, _, _], [⟨_, d⟩] => match cI.dec i, cBy.dec b, cMSl.dec d with
      | some i, some b, some d => some ⟨(d, b), i⟩
      | _, _, _ => none
    | _, _ => none
theorem goalRa (s : AL (MSl × (Nat → B8))) (h : s.inv 8) : LoopGoal Try.prog (loopAt Try.prog 49 pRa) lpRa (AL.T 8 fRa 0) s 1 46 0 := by
  refine lp_rule (cx := ⟨Try.prog, tabOf sv4, inlF Try.prog (tabOf sv4) noHooks 2⟩) rsv4 (inlF_ok rsv4 2) (Λ := fun _ => none) (p := []) lpRa (AL.inv 8) (AL.mu 8) (AL.step 8 fRa 0) (AL.T 8 fRa 0) 1 46 0 (fun _ => ⟨rfl, rfl⟩) ?_ ?_ s h
  · intro s r h hi
    exact fl_ok (g := s.lt 8) (L := [0 ≤ toZ .i64 s.i ∧ toZ .i64 s.i < ((8 : Nat) : Int)]) (by kernel_rfl) (fun hg => AL.ix1 8 hi hg)
  · exact AL.good 8 fRa 0
noncomputable def hRa : FuncId → Hook := fun f p => if f == 49 && p == pRa then some (lpRa.hk (AL.T 8 fRa 0)) else none

/-! What they say. -/
theorem lt8 {p : Nat → Prop} (h : p 0 ∧ p 1 ∧ p 2 ∧ p 3 ∧ p 4 ∧ p 5 ∧ p 6 ∧ p 7) : ∀ j, j < 8 → p j := by
  intro j hj
  have : j = 0 ∨ j = 1 ∨ j = 2 ∨ j = 3 ∨ j = 4 ∨ j = 5 ∨ j = 6 ∨ j = 7 := by omega
  rcases this with rfl | rfl | rfl | rfl | rfl | rfl | rfl | rfl
  · exact h.1
  · exact h.2.1
  · exact h.2.2.1
  · exact h.2.2.2.1
  · exact h.2.2.2.2.1
  · exact h.2.2.2.2.2.1
  · exact h.2.2.2.2.2.2.1
  · exact h.2.2.2.2.2.2.2
theorem bit_and1 : ∀ j, j < 8 → ∀ h : B8, (and1 (shr8 h (jU (BitVec.ofNat 64 j))) == 0#8) = !h.getLsbD j :=
  lt8 (by refine ⟨?_, ?_, ?_, ?_, ?_, ?_, ?_, ?_⟩ <;> decide +kernel)
theorem bit_hasM : ∀ j, j < 8 → ∀ h : B8, (rem8 (shr8 h (jU (BitVec.ofNat 64 j))) 2#8 == 1#8) = h.getLsbD j :=
  lt8 (by refine ⟨?_, ?_, ?_, ?_, ?_, ?_, ?_, ?_⟩ <;> decide +kernel)
theorem bit_jI : ∀ j, j < 8 → ∀ h : B8, (and1 (shr8 h (jI (BitVec.ofNat 64 j))) == 1#8) = h.getLsbD j :=
  lt8 (by refine ⟨?_, ?_, ?_, ?_, ?_, ?_, ?_, ?_⟩ <;> decide +kernel)
theorem bit_jI0 : ∀ j, j < 8 → ∀ h : B8, (and1 (shr8 h (jI (BitVec.ofNat 64 j))) == 0#8) = !h.getLsbD j :=
  lt8 (by refine ⟨?_, ?_, ?_, ?_, ?_, ?_, ?_, ?_⟩ <;> decide +kernel)
def nilV : Val := ⟨0#8, 0#64, 0#64, 0#64⟩
/-- A slot of a frame that may be. -/
def rightS (x : MSl) : Bool :=
  bif eqVal x.v nilV then allN (fun j => x.b j == 0#8 || x.h.getLsbD j) 8 else mayV x.v && addrV x.v && x.h == 255#8 && allN (fun j => x.b j == 0#8) 8
noncomputable def rightP (x : MSl) : Bool :=
  bif !eqVal x.v nilV then mayV x.v && addrV x.v && x.h == 255#8 && (List.range 8).all (fun i => x.b i == 0#8) else bif AL.hit 8 fRa ⟨(x, x.b), 0#64⟩ then false else true
theorem all_allN (p : Nat → Bool) : (List.range 8).all p = allN p 8 := by
  rw [Bool.eq_iff_iff, List.all_eq_true, allN_iff]
  simp
theorem rightP_eq (x : MSl) : rightP x = rightS x := by
  unfold rightP rightS
  rw [AL.all 8 fRa (by decide), all_allN]
  have e : allN (fun i => !fRa (x, x.b) (BitVec.ofNat 64 i)) 8 = allN (fun j => x.b j == 0#8 || x.h.getLsbD j) 8 := allN_congr fun i hi => by
    simp only [fRa, ixN_ofNat (show i < 2 ^ 63 by omega), bit_and1 i hi, bne]
    cases x.b i == 0#8 <;> cases x.h.getLsbD i <;> rfl
  rw [e]
  cases eqVal x.v nilV <;> cases allN (fun j => x.b j == 0#8 || x.h.getLsbD j) 8 <;> rfl
theorem kk49 : ConOk Try.prog 49 (con1 cMSl fun x => eB (rightP x)) :=
  con1_ok rsv4 (Λ := hRa) 5 (fun _ => rfl) (fun x => Ev.fg (L := [([!(!eqVal x.v nilV)], LoopGoal Try.prog (loopAt Try.prog 49 pRa) lpRa (AL.T 8 fRa 0) ⟨(x, x.b), 0#64⟩ 1 46 0)]) (by kernel_rfl) (by
      intro e he _
      simp only [List.mem_singleton] at he
      subst he
      exact goalRa _ (AL.init 8 (by decide) _)))
theorem k49 : ConOk Try.prog 49 (con1 cMSl fun x => eB (rightS x)) := (show (con1 cMSl fun x => eB (rightP x)) = (con1 cMSl fun x => eB (rightS x)) from congrArg _ (by funext x; rw [rightP_eq])) ▸ kk49
noncomputable def sv5 : List (FuncId × Con) := (49, con1 cMSl fun x => eB (rightS x)) :: sv4
theorem rsv5 : TabOk Try.prog (tabOf sv5) := tabOf_cons rsv4 k49
def rightF (f : Nat → MSl) : Bool := allN (fun i => rightS (f i)) 64
noncomputable def fRb : (Nat → MSl) → W → Bool := fun d j => !rightS (d (ixN j))
def pRb : List Nat := [1, 0, 1, 4]
noncomputable def lpRb : Lp (AL (Nat → MSl)) where
  keys := [4, 1, 2]
  names := [0]
  scr := wrAt Try.prog 29 pRb
  vals s := [eI s.i, .ptr 0 [], eB false]
  blks s := [⟨53, eFra s.d⟩]
  dec vs bs := match vs, bs with
    | [i, _, _], [⟨_, d⟩] => match cI.dec i, cFra.dec d with
      | some i, some d => some ⟨d, i⟩
      | _, _ => none
    | _, _ => none
theorem goalRb (s : AL (Nat → MSl)) (h : s.inv 64) : LoopGoal Try.prog (loopAt Try.prog 29 pRb) lpRb (AL.T 64 fRb 0) s 1 13 0 := by
  refine lp_rule (cx := ⟨Try.prog, tabOf sv5, inlF Try.prog (tabOf sv5) noHooks 2⟩) rsv5 (inlF_ok rsv5 2) (Λ := fun _ => none) (p := []) lpRb (AL.inv 64) (AL.mu 64) (AL.step 64 fRb 0) (AL.T 64 fRb 0) 1 13 0 (fun _ => ⟨rfl, rfl⟩) ?_ ?_ s h
  · intro s r h hi
    exact fl_ok (g := s.lt 64) (L := ixs s.i 64 1) (by kernel_rfl) (fun hg => AL.ixs 64 hi hg _)
  · exact AL.good 64 fRb 0
noncomputable def hRb : FuncId → Hook := fun f p => if f == 29 && p == pRb then some (lpRb.hk (AL.T 64 fRb 0)) else none
theorem kk29 : ConOk Try.prog 29 (con1 cFra fun f => eB (bif AL.hit 64 fRb ⟨f, 0#64⟩ then false else true)) :=
  con1_ok rsv5 (Λ := hRb) 5 (fun _ => rfl) (fun f => Ev.fl (g := true) (L := [LoopGoal Try.prog (loopAt Try.prog 29 pRb) lpRb (AL.T 64 fRb 0) ⟨f, 0#64⟩ 1 13 0]) (by kernel_rfl)
    (fun _ p hp => by simp only [List.mem_singleton] at hp; subst hp; exact goalRb _ (AL.init 64 (by decide) _)))
theorem rb_eq (f : Nat → MSl) : (bif AL.hit 64 fRb ⟨f, 0#64⟩ then false else true) = rightF f := by
  rw [AL.all 64 fRb (by decide)]
  have e : allN (fun i => !fRb f (BitVec.ofNat 64 i)) 64 = rightF f := allN_congr fun i hi => by simp [fRb, ixN_ofNat (show i < 2 ^ 63 by omega)]
  rw [e]
  cases rightF f <;> rfl
theorem k29 : ConOk Try.prog 29 (con1 cFra fun f => eB (rightF f)) := (show (con1 cFra fun f => eB (bif AL.hit 64 fRb ⟨f, 0#64⟩ then false else true)) = (con1 cFra fun f => eB (rightF f)) from congrArg _ (by funext f; rw [rb_eq])) ▸ kk29
noncomputable def fRc : (MSl × Bool) → W → Bool := fun d j => ltB .u8 0#8 (d.1.b (ixN j)) && (!d.2 || !hasM d.1 j)
def pRc : List Nat := [1, 0, 1, 4, 5, 1, 0, 4, 1, 1, 1, 1, 4]
noncomputable def lpRc : Lp (AL (MSl × Bool)) where
  keys := [6, 5, 4, 2]
  names := [1]
  scr := wrAt Try.prog 33 pRc
  vals s := [eI s.i, eB s.d.2, .ptr 1 [], eB false]
  blks s := [⟨45, eMSl s.d.1⟩]
  dec vs bs := match vs, bs with
    | [i, e, _, _], [⟨_, d⟩] => match cI.dec i, cB.dec e, cMSl.dec d with
      | some i, some e, some d => some ⟨(d, e), i⟩
      | _, _, _ => none
    | _, _ => none
theorem goalRc (s : AL (MSl × Bool)) (h : s.inv 8) : LoopGoal Try.prog (loopAt Try.prog 33 pRc) lpRc (AL.T 8 fRc 2) s 2 74 0 := by
  refine lp_rule (cx := ⟨Try.prog, tabOf sv5, inlF Try.prog (tabOf sv5) noHooks 2⟩) rsv5 (inlF_ok rsv5 2) (Λ := fun _ => none) (p := []) lpRc (AL.inv 8) (AL.mu 8) (AL.step 8 fRc 2) (AL.T 8 fRc 2) 2 74 0 (fun _ => ⟨rfl, rfl⟩) ?_ ?_ s h
  · intro s r h hi
    exact fl_ok (g := s.lt 8) (L := ixs s.i 8 1) (by kernel_rfl) (fun hg => AL.ixs 8 hi hg _)
  · exact AL.good 8 fRc 2
end Go.Rf
