/- Memory: contracts of leaves; frames that may be. -/
import Derived.Test.YtadkiiaagdhhlaaMa1
import Derived.Test.YtadkiiaagdhhlaaProg
set_option linter.unusedVariables false
set_option linter.unusedSimpArgs false
set_option maxRecDepth 100000
namespace Go.Rf
open Go.Proofs
noncomputable def ma0 : List (FuncId × Con) := []
theorem rma0 : TabOk Try.prog (tabOf ma0) := tabOf_nil _
theorem k31 : ConOk Try.prog 31 (con1 cVal fun r => eB (addrV r)) := con1_ok rma0 (Λ := noHooks) 5 (fun _ => rfl) (fun x => Ev.of (by kernel_rfl))
theorem k34 : ConOk Try.prog 34 (con1 cVal fun r => eB (addrD r)) := con1_ok rma0 (Λ := noHooks) 5 (fun _ => rfl) (fun x => Ev.of (by kernel_rfl))
theorem k35 : ConOk Try.prog 35 (con2 cMSl cI fun x j => eB (hasM x j)) := con2_ok rma0 (Λ := noHooks) 5 (fun _ _ => rfl) (fun x j => Ev.of (by kernel_rfl))
noncomputable def ma1 : List (FuncId × Con) := (31, con1 cVal fun r => eB (addrV r)) :: (34, con1 cVal fun r => eB (addrD r)) :: (35, con2 cMSl cI fun x j => eB (hasM x j)) :: ma0
theorem rma1 : TabOk Try.prog (tabOf ma1) := tabOf_cons (tabOf_cons (tabOf_cons rma0 k35) k34) k31
theorem k20 : ConOk Try.prog 20 (con1 cVal fun r => eB (mayV r)) := con1_ok rma1 (Λ := noHooks) 5 (fun _ => rfl) (fun x => Ev.of (by kernel_rfl))
theorem kk21 : ConOk Try.prog 21 (con1 cVal fun r => eB (mayVD r)) := con1_ok rma1 (Λ := noHooks) 5 (fun _ => rfl) (fun x => Ev.of (by kernel_rfl))
theorem k21 : ConOk Try.prog 21 (con1 cVal fun r => eB (mayV r)) := (show (con1 cVal fun r => eB (mayVD r)) = (con1 cVal fun r => eB (mayV r)) from congrArg _ (by funext r; rw [mayV_same])) ▸ kk21
noncomputable def ma2 : List (FuncId × Con) := (20, con1 cVal fun r => eB (mayV r)) :: (21, con1 cVal fun r => eB (mayV r)) :: ma1
theorem rma2 : TabOk Try.prog (tabOf ma2) := tabOf_cons (tabOf_cons rma1 k21) k20
noncomputable def fRa : (MSl × (Nat → B8)) → W → Bool := fun d j => d.2 (ixN j) != 0#8 && and1 (shr8 d.1.h (jU j)) == 0#8
def pRa : List Nat := [1, 1, 0, 1, 4]
noncomputable def lpRa : Lp (AL (MSl × (Nat → B8))) where
  keys := [30, 29, 1, 2]
  names := [0]
  scr := wrAt Try.prog 36 pRa
  vals s := [eI s.i, cBy.enc s.d.2, .ptr 0 [], eB false]
  blks s := [⟨33, eMSl s.d.1⟩]
  dec vs bs := match vs, bs with
    | [i, b, _, _], [⟨_, d⟩] => match cI.dec i, cBy.dec b, cMSl.dec d with
      | some i, some b, some d => some ⟨(d, b), i⟩
      | _, _, _ => none
    | _, _ => none
theorem goalRa (s : AL (MSl × (Nat → B8))) (h : s.inv 8) : LoopGoal Try.prog (loopAt Try.prog 36 pRa) lpRa (AL.T 8 fRa 0) s 1 46 0 := by
  refine lp_rule (cx := ⟨Try.prog, tabOf ma2, inlF Try.prog (tabOf ma2) noHooks 2⟩) rma2 (inlF_ok rma2 2) (Λ := fun _ => none) (p := []) lpRa (AL.inv 8) (AL.mu 8) (AL.step 8 fRa 0) (AL.T 8 fRa 0) 1 46 0 (fun _ => ⟨rfl, rfl⟩) ?_ ?_ s h
  · intro s r h hi
    exact fl_ok (g := s.lt 8) (L := [0 ≤ toZ .i64 s.i ∧ toZ .i64 s.i < ((8 : Nat) : Int)]) (by kernel_rfl) (fun hg => AL.ix1 8 hi hg)
  · exact AL.good 8 fRa 0
noncomputable def hRa : FuncId → Hook := fun f p => if f == 36 && p == pRa then some (lpRa.hk (AL.T 8 fRa 0)) else none

noncomputable def rightP (x : MSl) : Bool :=
  bif !eqVal x.v nilV then mayV x.v && addrV x.v && x.h == 255#8 && (List.range 8).all (fun i => x.b i == 0#8) else bif AL.hit 8 fRa ⟨(x, x.b), 0#64⟩ then false else true
theorem rightP_eq (x : MSl) : rightP x = rightS x := by
  unfold rightP rightS
  rw [AL.all 8 fRa (by decide), all_allN]
  have e : allN (fun i => !fRa (x, x.b) (BitVec.ofNat 64 i)) 8 = allN (fun j => x.b j == 0#8 || x.h.getLsbD j) 8 := allN_congr fun i hi => by
    simp only [fRa, ixN_ofNat (show i < 2 ^ 63 by omega), bit_and1 i hi, bne]
    cases x.b i == 0#8 <;> cases x.h.getLsbD i <;> rfl
  rw [e]
  cases eqVal x.v nilV <;> cases allN (fun j => x.b j == 0#8 || x.h.getLsbD j) 8 <;> rfl
theorem kk36 : ConOk Try.prog 36 (con1 cMSl fun x => eB (rightP x)) :=
  con1_ok rma2 (Λ := hRa) 5 (fun _ => rfl) (fun x => Ev.fg (L := [([!(!eqVal x.v nilV)], LoopGoal Try.prog (loopAt Try.prog 36 pRa) lpRa (AL.T 8 fRa 0) ⟨(x, x.b), 0#64⟩ 1 46 0)]) (by kernel_rfl) (by
      intro e he _
      simp only [List.mem_singleton] at he
      subst he
      exact goalRa _ (AL.init 8 (by decide) _)))
theorem k36 : ConOk Try.prog 36 (con1 cMSl fun x => eB (rightS x)) := (show (con1 cMSl fun x => eB (rightP x)) = (con1 cMSl fun x => eB (rightS x)) from congrArg _ (by funext x; rw [rightP_eq])) ▸ kk36
noncomputable def ma3 : List (FuncId × Con) := (36, con1 cMSl fun x => eB (rightS x)) :: ma2
theorem rma3 : TabOk Try.prog (tabOf ma3) := tabOf_cons rma2 k36
noncomputable def fRb : (Nat → MSl) → W → Bool := fun d j => !rightS (d (ixN j))
def pRb : List Nat := [1, 0, 1, 4]
noncomputable def lpRb : Lp (AL (Nat → MSl)) where
  keys := [4, 1, 2]
  names := [0]
  scr := wrAt Try.prog 15 pRb
  vals s := [eI s.i, .ptr 0 [], eB false]
  blks s := [⟨35, eFra s.d⟩]
  dec vs bs := match vs, bs with
    | [i, _, _], [⟨_, d⟩] => match cI.dec i, cFra.dec d with
      | some i, some d => some ⟨d, i⟩
      | _, _ => none
    | _, _ => none
theorem goalRb (s : AL (Nat → MSl)) (h : s.inv 64) : LoopGoal Try.prog (loopAt Try.prog 15 pRb) lpRb (AL.T 64 fRb 0) s 1 13 0 := by
  refine lp_rule (cx := ⟨Try.prog, tabOf ma3, inlF Try.prog (tabOf ma3) noHooks 2⟩) rma3 (inlF_ok rma3 2) (Λ := fun _ => none) (p := []) lpRb (AL.inv 64) (AL.mu 64) (AL.step 64 fRb 0) (AL.T 64 fRb 0) 1 13 0 (fun _ => ⟨rfl, rfl⟩) ?_ ?_ s h
  · intro s r h hi
    exact fl_ok (g := s.lt 64) (L := ixs s.i 64 1) (by kernel_rfl) (fun hg => AL.ixs 64 hi hg _)
  · exact AL.good 64 fRb 0
noncomputable def hRb : FuncId → Hook := fun f p => if f == 15 && p == pRb then some (lpRb.hk (AL.T 64 fRb 0)) else none
theorem kk15 : ConOk Try.prog 15 (con1 cFra fun f => eB (bif AL.hit 64 fRb ⟨f, 0#64⟩ then false else true)) :=
  con1_ok rma3 (Λ := hRb) 5 (fun _ => rfl) (fun f => Ev.fl (g := true) (L := [LoopGoal Try.prog (loopAt Try.prog 15 pRb) lpRb (AL.T 64 fRb 0) ⟨f, 0#64⟩ 1 13 0]) (by kernel_rfl)
    (fun _ p hp => by simp only [List.mem_singleton] at hp; subst hp; exact goalRb _ (AL.init 64 (by decide) _)))
theorem rb_eq (f : Nat → MSl) : (bif AL.hit 64 fRb ⟨f, 0#64⟩ then false else true) = rightF f := by
  rw [AL.all 64 fRb (by decide)]
  have e : allN (fun i => !fRb f (BitVec.ofNat 64 i)) 64 = rightF f := allN_congr fun i hi => by simp [fRb, ixN_ofNat (show i < 2 ^ 63 by omega)]
  rw [e]
  cases rightF f <;> rfl
theorem k15 : ConOk Try.prog 15 (con1 cFra fun f => eB (rightF f)) := (show (con1 cFra fun f => eB (bif AL.hit 64 fRb ⟨f, 0#64⟩ then false else true)) = (con1 cFra fun f => eB (rightF f)) from congrArg _ (by funext f; rw [rb_eq])) ▸ kk15
noncomputable def fRc : (MSl × Bool) → W → Bool := fun d j => ltB .u8 0#8 (d.1.b (ixN j)) && (!d.2 || !hasM d.1 j)
def pRc : List Nat := [1, 0, 1, 4, 5, 1, 0, 4, 1, 1, 1, 1, 4]
noncomputable def lpRc : Lp (AL (MSl × Bool)) where
  keys := [6, 5, 4, 2]
  names := [1]
  scr := wrAt Try.prog 16 pRc
  vals s := [eI s.i, eB s.d.2, .ptr 1 [], eB false]
  blks s := [⟨27, eMSl s.d.1⟩]
  dec vs bs := match vs, bs with
    | [i, e, _, _], [⟨_, d⟩] => match cI.dec i, cB.dec e, cMSl.dec d with
      | some i, some e, some d => some ⟨(d, e), i⟩
      | _, _, _ => none
    | _, _ => none
theorem goalRc (s : AL (MSl × Bool)) (h : s.inv 8) : LoopGoal Try.prog (loopAt Try.prog 16 pRc) lpRc (AL.T 8 fRc 2) s 2 74 0 := by
  refine lp_rule (cx := ⟨Try.prog, tabOf ma3, inlF Try.prog (tabOf ma3) noHooks 2⟩) rma3 (inlF_ok rma3 2) (Λ := fun _ => none) (p := []) lpRc (AL.inv 8) (AL.mu 8) (AL.step 8 fRc 2) (AL.T 8 fRc 2) 2 74 0 (fun _ => ⟨rfl, rfl⟩) ?_ ?_ s h
  · intro s r h hi
    exact fl_ok (g := s.lt 8) (L := ixs s.i 8 1) (by kernel_rfl) (fun hg => AL.ixs 8 hi hg _)
  · exact AL.good 8 fRc 2
noncomputable def badI (x : MSl) : Bool := AL.hit 8 fRc ⟨(x, emptyD x.v), 0#64⟩
noncomputable def fRd : (Nat → MSl) → W → Bool := fun d j => badV (d (ixN j)) || badI (d (ixN j))
def pRd : List Nat := [1, 0, 1, 4]
noncomputable def lpRd : Lp (AL (Nat → MSl)) where
  keys := [3, 1, 2]
  names := [0]
  scr := wrAt Try.prog 16 pRd
  vals s := [eI s.i, .ptr 0 [], eB false]
  blks s := [⟨29, eFra s.d⟩]
  dec vs bs := match vs, bs with
    | [i, _, _], [⟨_, d⟩] => match cI.dec i, cFra.dec d with
      | some i, some d => some ⟨d, i⟩
      | _, _ => none
    | _, _ => none
noncomputable def stepRd (s : AL (Nat → MSl)) : Rd (AL (Nat → MSl)) := .br (s.lt 64) (.br (badV (s.d (ixN s.i))) (.ret s) (.br (badI (s.d (ixN s.i))) (.ret s) (.norm s.nxt))) (.exit 0 s)
theorem stepRd_sel (s : AL (Nat → MSl)) : (stepRd s).sel = (s.step 64 fRd 0).sel := by
  simp only [stepRd, AL.step, Rd.sel, AL.bd, fRd]
  cases badV (s.d (ixN s.i)) <;> cases badI (s.d (ixN s.i)) <;> simp
noncomputable def hRc : Hook := fun p => if p == pRc then some (lpRc.hk (AL.T 8 fRc 2)) else none
theorem goalRd (s : AL (Nat → MSl)) (h : s.inv 64) : LoopGoal Try.prog (loopAt Try.prog 16 pRd) lpRd (AL.T 64 fRd 0) s 1 74 0 := by
  refine lp_rule (cx := ⟨Try.prog, tabOf ma3, inlF Try.prog (tabOf ma3) noHooks 2⟩) rma3 (inlF_ok rma3 2) (Λ := hRc) (p := pRd ++ [5]) lpRd (AL.inv 64) (AL.mu 64) stepRd (AL.T 64 fRd 0) 1 74 0 (fun _ => ⟨rfl, rfl⟩) ?_ ?_ s h
  · intro s r h hi
    refine fl_ok (g := s.lt 64) (L := ixs s.i 64 1 ++ [LoopGoal Try.prog (loopAt Try.prog 16 pRc) lpRc (AL.T 8 fRc 2) ⟨(s.d (ixN s.i), emptyD (s.d (ixN s.i)).v), 0#64⟩ 2 74 0]) (by kernel_rfl) ?_
    intro hg p hp
    rw [List.mem_append, List.mem_singleton] at hp
    rcases hp with hp | rfl
    · exact AL.ixs 64 hi hg _ p hp
    · exact goalRc _ (AL.init 8 (by decide) _)
  · intro s hi
    rw [stepRd_sel]
    exact AL.good 64 fRd 0 s hi
noncomputable def hRd : FuncId → Hook := fun f p => if f == 16 && p == pRd then some (lpRd.hk (AL.T 64 fRd 0)) else none

theorem badS_eq (x : MSl) : (badV x || badI x) = !rightS x := by
  have hin : badI x = !allN (fun j => x.b j == 0#8 || (emptyD x.v && x.h.getLsbD j)) 8 := by
    unfold badI
    rw [AL.all 8 fRc (by decide)]
    congr 1
    refine allN_congr fun i hi => ?_
    simp only [fRc, ixN_ofNat (show i < 2 ^ 63 by omega), lt0_8, hasM, bit_hasM i hi]
    cases x.b i == 0#8 <;> cases emptyD x.v <;> cases x.h.getLsbD i <;> rfl
  rw [hin]
  unfold badV rightS
  rw [emptyD_eq]
  cases he : eqVal x.v nilV with
  | true => simp
  | false =>
    simp only [Bool.false_and, Bool.or_false, Bool.not_false, Bool.true_and, cond_false]
    cases hm : mayV x.v with
    | false => simp
    | true =>
      rw [addr_same hm]
      cases addrV x.v <;> cases hx : (x.h == 255#8) <;> simp [bne, hx]
theorem kk16 : ConOk Try.prog 16 (con1 cFra fun f => eB (bif AL.hit 64 fRd ⟨f, 0#64⟩ then false else true)) :=
  con1_ok rma3 (Λ := hRd) 5 (fun _ => rfl) (fun f => Ev.fl (g := true) (L := [LoopGoal Try.prog (loopAt Try.prog 16 pRd) lpRd (AL.T 64 fRd 0) ⟨f, 0#64⟩ 1 74 0]) (by kernel_rfl)
    (fun _ p hp => by simp only [List.mem_singleton] at hp; subst hp; exact goalRd _ (AL.init 64 (by decide) _)))
theorem rd_eq (f : Nat → MSl) : (bif AL.hit 64 fRd ⟨f, 0#64⟩ then false else true) = rightF f := by
  rw [AL.all 64 fRd (by decide)]
  have e : allN (fun i => !fRd f (BitVec.ofNat 64 i)) 64 = rightF f := allN_congr fun i hi => by simp only [fRd, ixN_ofNat (show i < 2 ^ 63 by omega), badS_eq, Bool.not_not]
  rw [e]
  cases rightF f <;> rfl
theorem k16 : ConOk Try.prog 16 (con1 cFra fun f => eB (rightF f)) := (show (con1 cFra fun f => eB (bif AL.hit 64 fRd ⟨f, 0#64⟩ then false else true)) = (con1 cFra fun f => eB (rightF f)) from congrArg _ (by funext f; rw [rd_eq])) ▸ kk16
noncomputable def ma4 : List (FuncId × Con) := (15, con1 cFra fun f => eB (rightF f)) :: (16, con1 cFra fun f => eB (rightF f)) :: ma3
theorem rma4 : TabOk Try.prog (tabOf ma4) := tabOf_cons (tabOf_cons rma3 k16) k15
end Go.Rf
