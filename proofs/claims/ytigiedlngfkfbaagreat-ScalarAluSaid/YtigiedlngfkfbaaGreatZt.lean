/- Tnums: the document's operations, in the great seat. -/
import Derived.Test.YtigiedlngfkfbaaGreatZZB
set_option linter.unusedVariables false
set_option linter.unusedSimpArgs false
set_option maxRecDepth 100000
namespace Go.Rf.T
open Go.Proofs
noncomputable def zq4 : List (FuncId × Con) := tz4
theorem gq4 : TabOk Tryz.prog (tabOf zq4) := rtz4
theorem k108 : ConOk Tryz.prog 108 (con2 cTn cI fun t i => eI (markB t i)) :=
  con2_ok gq4 (Λ := noHooks) 5 (fun _ _ => rfl) (fun x y => Ev.of (by kernel_rfl))
theorem k134 : ConOk Tryz.prog 134 (con1 cI fun n => eI (bitN n)) :=
  con1_ok gq4 (Λ := noHooks) 5 (fun _ => rfl) (fun x => Ev.of (by kernel_rfl))
theorem k39 : ConOk Tryz.prog 39 (con1 cTn fun t => eB (may t)) :=
  con1_ok gq4 (Λ := noHooks) 5 (fun _ => rfl) (fun x => Ev.of (by kernel_rfl))
theorem k52 : ConOk Tryz.prog 52 (con0 (eTn ⟨0#64, 18446744073709551615#64⟩)) :=
  con0_ok gq4 (Λ := noHooks) 5 rfl (Ev.of (by kernel_rfl))
noncomputable def zq5 : List (FuncId × Con) := (108, con2 cTn cI fun t i => eI (markB t i)) :: (134, con1 cI fun n => eI (bitN n)) :: (39, con1 cTn fun t => eB (may t)) :: (52, con0 (eTn ⟨0#64, 18446744073709551615#64⟩)) :: zq4
theorem gq5 : TabOk Tryz.prog (tabOf zq5) := tabOf_cons (tabOf_cons (tabOf_cons (tabOf_cons gq4 k52) k39) k134) k108
noncomputable def lpMade : Lp MadeS where
  keys := [1, 3, 4]
  names := [0, 2]
  scr := wrAt Tryz.prog 107 [1, 1, 0, 1, 4]
  vals s := [.ptr 0 [], .ptr 2 [], .int .i64 fun _ => s.i]
  blks s := [⟨108, cA.enc s.l⟩, ⟨24, eTn s.t⟩]
  dec vs bs := match vs, bs with
    | [_, _, v], [⟨_, x⟩, ⟨_, y⟩] => match cI.dec v, cA.dec x, cTn.dec y with
      | some i, some l, some t => some ⟨i, t, l⟩
      | _, _, _ => none
    | _, _ => none
theorem madeGoal (s : MadeS) (h : s.inv) : LoopGoal Tryz.prog (loopAt Tryz.prog 107 [1, 1, 0, 1, 4]) lpMade madeT s 3 32 0 := by
  refine lp_rule (cx := ⟨Tryz.prog, tabOf zq5, inlF Tryz.prog (tabOf zq5) noHooks 2⟩) gq5 (inlF_ok gq5 2) (Λ := fun _ => none) (p := []) lpMade MadeS.inv MadeS.mu MadeS.step madeT 3 32 0 (fun _ => ⟨rfl, rfl⟩) ?_ ?_ s h
  · intro s r h hi
    refine ⟨.imp s.go true ((ixOb s.i 64).two ((Ob.imp s.is2 true (ixOb s.i 64)).two (Ob.imp s.is2 false (ixOb s.i 64)))), by kernel_rfl, ?_⟩
    intro hg
    rw [MadeS.go_iff hi, decide_eq_true_eq] at hg
    have hx := ixOb_holds (by decide) hg
    exact ⟨hx, fun _ => hx, fun _ => hx⟩
  · refine good_run MadeS.dec (fun s h => by simp only [MadeS.mu]; omega) ?_ ?_
    · intro s hi hg
      simp only [MadeS.step, Rd.sel, hg, if_true, MadeS.next]
      cases s.is2 <;> cases s.is3 <;> rfl
    · intro s hi hg
      simp only [MadeS.step, Rd.sel, hg, Bool.false_eq_true, if_false]
noncomputable def hMade : FuncId → Hook := fun f p => if f == 107 && p == [1, 1, 0, 1, 4] then some (lpMade.hk madeT) else none
theorem k107 : ConOk Tryz.prog 107 (con1 cA fun l => eTn (made l)) :=
  con1_ok gq5 (Λ := hMade) 5 (fun _ => rfl) (fun l => Ev.ob (ob := .pr (LoopGoal Tryz.prog (loopAt Tryz.prog 107 [1, 1, 0, 1, 4]) lpMade madeT ⟨0#64, ⟨0#64, 0#64⟩, l⟩ 3 32 0)) (by kernel_rfl) (madeGoal _ (by show (0#64 : W).toNat ≤ 64; decide)))
noncomputable def zq6 : List (FuncId × Con) := (107, con1 cA fun l => eTn (made l)) :: zq5
theorem gq6 : TabOk Tryz.prog (tabOf zq6) := tabOf_cons gq5 k107
noncomputable def lpBIn : Lp BIn where
  keys := [0, 4, 5, 8, 9, 10]
  names := [0, 1, 3]
  scr := wrAt Tryz.prog 95 [1, 1, 1, 0, 1, 4, 5, 1, 0, 4, 1, 4]
  vals s := [eI s.op, .ptr 0 [], .ptr 1 [], .ptr 3 [], eI s.i, eI s.n]
  blks s := [⟨24, eTn s.a⟩, ⟨24, eTn s.b⟩, ⟨108, cA.enc s.l⟩]
  dec vs bs := match vs, bs with
    | [o, _, _, _, i, n], [⟨_, x⟩, ⟨_, y⟩, ⟨_, z⟩] => match cI.dec o, cI.dec i, cI.dec n, cTn.dec x, cTn.dec y, cA.dec z with
      | some o, some i, some n, some a, some b, some l => some ⟨o, a, b, i, n, l⟩
      | _, _, _, _, _, _ => none
    | _, _ => none
theorem bInGoal (s : BIn) (h : s.inv) : LoopGoal Tryz.prog (loopAt Tryz.prog 95 [1, 1, 1, 0, 1, 4, 5, 1, 0, 4, 1, 4]) lpBIn bInT s 4 73 0 := by
  refine lp_rule (cx := ⟨Tryz.prog, tabOf zq6, inlF Tryz.prog (tabOf zq6) noHooks 2⟩) gq6 (inlF_ok gq6 2) (Λ := fun _ => none) (p := []) lpBIn BIn.inv BIn.mu BIn.step bInT 4 73 0 (fun _ => ⟨rfl, rfl⟩) ?_ ?_ s h
  · intro s r h hi
    exact fl_ok (g := s.go) (L := ixs s.i 64 8) (by kernel_rfl) (fun _ => ixs_hold (by decide) hi.2 _)
  · refine good_run BIn.dec (fun s h => by simp only [BIn.mu]; omega) ?_ ?_
    · intro s hi hg
      simp only [BIn.step, Rd.sel, hg, if_true, BIn.next, BIn.z]
      cases s.skip <;> cases s.one <;> cases s.two <;> rfl
    · intro s hi hg
      simp only [BIn.step, Rd.sel, hg, Bool.false_eq_true, if_false]
noncomputable def lpBOut : Lp BOut where
  keys := [0, 4, 5, 8, 9]
  names := [0, 1, 3]
  scr := wrAt Tryz.prog 95 [1, 1, 1, 0, 1, 4]
  vals s := [eI s.op, .ptr 0 [], .ptr 1 [], .ptr 3 [], eI s.i]
  blks s := [⟨24, eTn s.a⟩, ⟨24, eTn s.b⟩, ⟨108, cA.enc s.l⟩]
  dec vs bs := match vs, bs with
    | [o, _, _, _, i], [⟨_, x⟩, ⟨_, y⟩, ⟨_, z⟩] => match cI.dec o, cI.dec i, cTn.dec x, cTn.dec y, cA.dec z with
      | some o, some i, some a, some b, some l => some ⟨o, a, b, i, l⟩
      | _, _, _, _, _ => none
    | _, _ => none
noncomputable def hBIn : Hook := fun p => if p == [1, 1, 1, 0, 1, 4, 5, 1, 0, 4, 1, 4] then some (lpBIn.hk bInT) else none
theorem bOutGoal (s : BOut) (h : s.inv) : LoopGoal Tryz.prog (loopAt Tryz.prog 95 [1, 1, 1, 0, 1, 4]) lpBOut bOutT s 4 73 0 := by
  refine lp_rule (cx := ⟨Tryz.prog, tabOf zq6, inlF Tryz.prog (tabOf zq6) noHooks 2⟩) gq6 (inlF_ok gq6 2) (Λ := hBIn) (p := [1, 1, 1, 0, 1, 4, 5]) lpBOut BOut.inv BOut.mu BOut.step bOutT 4 73 0 (fun _ => ⟨rfl, rfl⟩) ?_ ?_ s h
  · intro s r h hi
    refine fl_ok (g := s.go) (L := [LoopGoal Tryz.prog (loopAt Tryz.prog 95 [1, 1, 1, 0, 1, 4, 5, 1, 0, 4, 1, 4]) lpBIn bInT ⟨s.op, s.a, s.b, s.i, 0#64, s.l⟩ 4 73 0]) (by kernel_rfl) ?_
    intro hg p hp
    simp only [List.mem_singleton] at hp
    subst hp
    refine bInGoal _ ⟨by show (0#64 : W).toNat ≤ 4; decide, ?_⟩
    have h' : s.i.toNat ≤ 64 := hi
    rw [BOut.go, ltB_nat (by omega) (by decide), decide_eq_true_eq] at hg
    exact hg
  · refine good_run BOut.dec (fun s h => by simp only [BOut.mu]; omega) ?_ ?_
    · intro s hi hg
      simp only [BOut.step, Rd.sel, hg, if_true]
    · intro s hi hg
      simp only [BOut.step, Rd.sel, hg, Bool.false_eq_true, if_false]
noncomputable def hBits : FuncId → Hook := fun f p => if f == 95 && p == [1, 1, 1, 0, 1, 4] then some (lpBOut.hk bOutT) else none
theorem k95 : ConOk Tryz.prog 95 (con3 cI cTn cTn fun op a b => resTE (bad2 a b) (made (bitsL op a b))) :=
  con3_ok gq6 (Λ := hBits) 5 (fun _ _ _ => rfl) (fun op a b => Ev.fl (g := !bad2 a b) (L := [LoopGoal Tryz.prog (loopAt Tryz.prog 95 [1, 1, 1, 0, 1, 4]) lpBOut bOutT ⟨op, a, b, 0#64, fun _ => 0#64⟩ 4 73 0]) (by kernel_rfl)
    (fun _ p hp => by simp only [List.mem_singleton] at hp; subst hp; exact bOutGoal _ (by show (0#64 : W).toNat ≤ 64; decide)))
noncomputable def lpCIn : Lp CIn where
  keys := [2, 3, 4, 7, 8, 9, 10, 11]
  names := [0, 1, 3]
  scr := wrAt Tryz.prog 133 pCIn
  vals s := [eB s.less, .ptr 0 [], .ptr 1 [], .ptr 3 [], eI s.carry, eI s.i, eI s.next, eI s.n]
  blks s := [⟨24, eTn s.a⟩, ⟨24, eTn s.b⟩, ⟨108, cA.enc s.l⟩]
  dec vs bs := match vs, bs with
    | [o, _, _, _, c, i, x, n], [⟨_, p⟩, ⟨_, q⟩, ⟨_, z⟩] => match cB.dec o, cI.dec c, cI.dec i, cI.dec x, cI.dec n, cTn.dec p, cTn.dec q, cA.dec z with
      | some o, some c, some i, some x, some n, some a, some b, some l => some ⟨a, b, o, c, i, x, n, l⟩
      | _, _, _, _, _, _, _, _ => none
    | _, _ => none
theorem cInGoal (s : CIn) (h : s.inv) : LoopGoal Tryz.prog (loopAt Tryz.prog 133 pCIn) lpCIn cInT s 4 84 0 := by
  refine lp_rule (cx := ⟨Tryz.prog, tabOf zq6, inlF Tryz.prog (tabOf zq6) noHooks 2⟩) gq6 (inlF_ok gq6 2) (Λ := fun _ => none) (p := []) lpCIn CIn.inv CIn.mu CIn.step cInT 4 84 0 (fun _ => ⟨rfl, rfl⟩) ?_ ?_ s h
  · intro s r h hi
    exact fl_ok (g := s.go) (L := ixs s.i 64 2) (by kernel_rfl) (fun _ => ixs_hold (by decide) hi.2 _)
  · refine good_run CIn.dec (fun s h => by simp only [CIn.mu]; omega) ?_ ?_
    · intro s hi hg
      simp only [CIn.step, Rd.sel, hg, if_true, CIn.nxt, CIn.over]
      cases s.skip <;> cases s.less <;> cases s.below <;> rfl
    · intro s hi hg
      simp only [CIn.step, Rd.sel, hg, Bool.false_eq_true, if_false]
noncomputable def lpCOut : Lp COut where
  keys := [2, 3, 4, 7, 8, 9]
  names := [0, 1, 3]
  scr := wrAt Tryz.prog 133 pCOut
  vals s := [eB s.less, .ptr 0 [], .ptr 1 [], .ptr 3 [], eI s.carry, eI s.i]
  blks s := [⟨24, eTn s.a⟩, ⟨24, eTn s.b⟩, ⟨108, cA.enc s.l⟩]
  dec vs bs := match vs, bs with
    | [o, _, _, _, c, i], [⟨_, p⟩, ⟨_, q⟩, ⟨_, z⟩] => match cB.dec o, cI.dec c, cI.dec i, cTn.dec p, cTn.dec q, cA.dec z with
      | some o, some c, some i, some a, some b, some l => some ⟨a, b, o, c, i, l⟩
      | _, _, _, _, _, _ => none
    | _, _ => none
noncomputable def hCIn : Hook := fun p => if p == pCIn then some (lpCIn.hk cInT) else none
theorem cOutGoal (s : COut) (h : s.inv) : LoopGoal Tryz.prog (loopAt Tryz.prog 133 pCOut) lpCOut cOutT s 4 84 0 := by
  refine lp_rule (cx := ⟨Tryz.prog, tabOf zq6, inlF Tryz.prog (tabOf zq6) noHooks 2⟩) gq6 (inlF_ok gq6 2) (Λ := hCIn) (p := [1, 1, 1, 0, 1, 4, 5]) lpCOut COut.inv COut.mu COut.step cOutT 4 84 0 (fun _ => ⟨rfl, rfl⟩) ?_ ?_ s h
  · intro s r h hi
    refine fl_ok (g := s.go) (L := [LoopGoal Tryz.prog (loopAt Tryz.prog 133 pCIn) lpCIn cInT ⟨s.a, s.b, s.less, s.carry, s.i, 0#64, 0#64, s.l⟩ 4 84 0]) (by kernel_rfl) ?_
    intro hg p hp
    simp only [List.mem_singleton] at hp
    subst hp
    refine cInGoal _ ⟨by show (0#64 : W).toNat ≤ 8; decide, ?_⟩
    have h' : s.i.toNat ≤ 64 := hi
    rw [COut.go, ltB_nat (by omega) (by decide), decide_eq_true_eq] at hg
    exact hg
  · refine good_run COut.dec (fun s h => by simp only [COut.mu]; omega) ?_ ?_
    · intro s hi hg
      simp only [COut.step, Rd.sel, hg, if_true]
    · intro s hi hg
      simp only [COut.step, Rd.sel, hg, Bool.false_eq_true, if_false]
noncomputable def hCar : FuncId → Hook := fun f p => if f == 133 && p == pCOut then some (lpCOut.hk cOutT) else none
theorem k133 : ConOk Tryz.prog 133 (con3 cTn cTn cB fun a b less => eTn (made (carL a b less))) :=
  con3_ok gq6 (Λ := hCar) 5 (fun _ _ _ => rfl) (fun a b less => Ev.fl (g := true) (L := [LoopGoal Tryz.prog (loopAt Tryz.prog 133 pCOut) lpCOut cOutT ⟨a, b, less, 1#64, 0#64, fun _ => 0#64⟩ 4 84 0]) (by kernel_rfl)
    (fun _ p hp => by simp only [List.mem_singleton] at hp; subst hp; exact cOutGoal _ (by show (0#64 : W).toNat ≤ 64; decide)))
noncomputable def zq7 : List (FuncId × Con) := (133, con3 cTn cTn cB fun a b less => eTn (made (carL a b less))) :: (95, con3 cI cTn cTn fun op a b => resTE (bad2 a b) (made (bitsL op a b))) :: zq6
theorem gq7 : TabOk Tryz.prog (tabOf zq7) := tabOf_cons (tabOf_cons gq6 k95) k133
theorem k92 : ConOk Tryz.prog 92 (con2 cTn cTn fun a b => resTE (bad2 a b) (made (carL a b false))) :=
  con2_ok gq7 (Λ := noHooks) 5 (fun _ _ => rfl) (fun a b => Ev.of (by kernel_rfl))
theorem k93 : ConOk Tryz.prog 93 (con2 cTn cTn fun a b => resTE (bad2 a b) (made (carL a b true))) :=
  con2_ok gq7 (Λ := noHooks) 5 (fun _ _ => rfl) (fun a b => Ev.of (by kernel_rfl))
noncomputable def lpMv : Lp MvS where
  keys := [1, 2, 3, 4, 9, 10]
  names := [0, 2]
  scr := wrAt Tryz.prog 129 pMv
  vals s := [eI s.by', eI s.size, eI s.most, .ptr 0 [], .ptr 2 [], eI s.i]
  blks s := [⟨24, eTn s.t⟩, ⟨108, cA.enc s.l⟩]
  dec vs bs := match vs, bs with
    | [b, z, m, _, _, i], [⟨_, p⟩, ⟨_, q⟩] => match cI.dec b, cI.dec z, cI.dec m, cI.dec i, cTn.dec p, cA.dec q with
      | some b, some z, some m, some i, some t, some l => some ⟨t, b, z, m, i, l⟩
      | _, _, _, _, _, _ => none
    | _, _ => none
theorem mvGoal (s : MvS) (h : s.inv) : LoopGoal Tryz.prog (loopAt Tryz.prog 129 pMv) lpMv mvT s 3 47 0 := by
  refine lp_rule (cx := ⟨Tryz.prog, tabOf zq7, inlF Tryz.prog (tabOf zq7) noHooks 2⟩) gq7 (inlF_ok gq7 2) (Λ := fun _ => none) (p := []) lpMv MvS.inv MvS.mu MvS.step mvT 3 47 0 (fun _ => ⟨rfl, rfl⟩) ?_ ?_ s h
  · intro s r h hi
    refine fl_ok (g := s.go) (L := ixs s.i 64 3) (by kernel_rfl) (fun hg => ixs_hold (by decide) ?_ _)
    have h' : s.i.toNat ≤ 64 := hi
    rw [MvS.go, ltB_nat (by omega) (by decide), decide_eq_true_eq] at hg
    exact hg
  · refine good_run MvS.dec (fun s h => by simp only [MvS.mu]; omega) ?_ ?_
    · intro s hi hg
      by_cases h1 : s.past = true
      · have e : s.at' = s.most := by unfold MvS.at'; rw [if_pos h1]
        simp only [MvS.step, Rd.sel, hg, if_true, MvS.nxt, e, h1]
        by_cases h2 : s.fits s.most = true <;> simp [h2]
      · have e : s.at' = s.i + s.by' := by unfold MvS.at'; rw [if_neg h1]
        simp only [MvS.step, Rd.sel, hg, if_true, MvS.nxt, e, h1]
        by_cases h2 : s.fits (s.i + s.by') = true <;> simp [h2]
    · intro s hi hg
      simp only [MvS.step, Rd.sel, hg, Bool.false_eq_true, if_false]
noncomputable def hMv : FuncId → Hook := fun f p => if f == 129 && p == pMv then some (lpMv.hk mvT) else none
theorem k129 : ConOk Tryz.prog 129 (con4 cTn cI cI cI fun t b z m => eTn (made (mvL t b z m))) :=
  con4_ok gq7 (Λ := hMv) 5 (fun _ _ _ _ => rfl) (fun t b z m => Ev.fl (g := true) (L := [LoopGoal Tryz.prog (loopAt Tryz.prog 129 pMv) lpMv mvT ⟨t, b, z, m, 0#64, fun _ => 0#64⟩ 3 47 0]) (by kernel_rfl)
    (fun _ p hp => by simp only [List.mem_singleton] at hp; subst hp; exact mvGoal _ (by show (0#64 : W).toNat ≤ 64; decide)))
noncomputable def zq8 : List (FuncId × Con) :=
  (129, con4 cTn cI cI cI fun t b z m => eTn (made (mvL t b z m))) ::
  (92, con2 cTn cTn fun a b => resTE (bad2 a b) (made (carL a b false))) ::
  (93, con2 cTn cTn fun a b => resTE (bad2 a b) (made (carL a b true))) :: zq7
theorem gq8 : TabOk Tryz.prog (tabOf zq8) := tabOf_cons (tabOf_cons (tabOf_cons gq7 k93) k92) k129
theorem k97 : ConOk Tryz.prog 97 (con2 cTn cI fun t n => resTE (badSh t n) (made (mvL t (-n) 64#64 (-1#64)))) :=
  con2_ok gq8 (Λ := noHooks) 5 (fun _ _ => rfl) (fun a b => Ev.of (by kernel_rfl))
theorem k98 : ConOk Tryz.prog 98 (con2 cTn cI fun t n => resTE (badSh t n) (made (mvL t n 64#64 (-1#64)))) :=
  con2_ok gq8 (Λ := noHooks) 5 (fun _ _ => rfl) (fun a b => Ev.of (by kernel_rfl))
theorem k99 : ConOk Tryz.prog 99 (con3 cTn cI cI fun t n s => resTE (badArsh t n s) (made (mvL t n s (s - 1#64)))) :=
  con3_ok gq8 (Λ := noHooks) 5 (fun _ _ _ => rfl) (fun a b c => Ev.of (by kernel_rfl))
theorem k83 : ConOk Tryz.prog 83 (con2 cTn cI fun t s => resTE (badCut t s) (made (mvL t 0#64 s (-1#64)))) :=
  con2_ok gq8 (Λ := noHooks) 5 (fun _ _ => rfl) (fun a b => Ev.of (by kernel_rfl))
noncomputable def zq9 : List (FuncId × Con) :=
  (97, con2 cTn cI fun t n => resTE (badSh t n) (made (mvL t (-n) 64#64 (-1#64)))) ::
  (98, con2 cTn cI fun t n => resTE (badSh t n) (made (mvL t n 64#64 (-1#64)))) ::
  (99, con3 cTn cI cI fun t n s => resTE (badArsh t n s) (made (mvL t n s (s - 1#64)))) ::
  (83, con2 cTn cI fun t s => resTE (badCut t s) (made (mvL t 0#64 s (-1#64)))) :: zq8
theorem gq9 : TabOk Tryz.prog (tabOf zq9) := tabOf_cons (tabOf_cons (tabOf_cons (tabOf_cons gq8 k83) k99) k98) k97
noncomputable def lpMu : Lp MuS where
  keys := [2, 3, 6, 7]
  names := [0, 1, 3]
  scr := wrAt Tryz.prog 94 pMu
  vals s := [.ptr 0 [], .ptr 1 [], .ptr 3 [], eI s.i]
  blks s := [⟨24, eTn s.a⟩, ⟨24, eTn s.b⟩, ⟨24, eTn s.s⟩]
  dec vs bs := match vs, bs with
    | [_, _, _, i], [⟨_, p⟩, ⟨_, q⟩, ⟨_, z⟩] => match cI.dec i, cTn.dec p, cTn.dec q, cTn.dec z with
      | some i, some a, some b, some s => some ⟨a, b, s, i⟩
      | _, _, _, _ => none
    | _, _ => none
theorem muGoal (s : MuS) (h : s.inv) : LoopGoal Tryz.prog (loopAt Tryz.prog 94 pMu) lpMu muT s 4 56 0 := by
  refine lp_rule (cx := ⟨Tryz.prog, tabOf zq9, inlF Tryz.prog (tabOf zq9) noHooks 2⟩) gq9 (inlF_ok gq9 2) (Λ := fun _ => none) (p := []) lpMu MuS.inv MuS.mu MuS.step muT 4 56 0 (fun _ => ⟨rfl, rfl⟩) ?_ ?_ s h
  · intro s r h hi
    exact ⟨.tt, by kernel_rfl, trivial⟩
  · refine good_run MuS.dec (fun s h => by simp only [MuS.mu]; omega) ?_ ?_
    · intro s hi hg
      simp only [MuS.step, Rd.sel, hg, if_true, MuS.nxt, MuS.s1]
      cases s.is2 <;> cases s.is3 <;> rfl
    · intro s hi hg
      simp only [MuS.step, Rd.sel, hg, Bool.false_eq_true, if_false]
noncomputable def hMu : FuncId → Hook := fun f p => if f == 94 && p == pMu then some (lpMu.hk muT) else none
theorem k94 : ConOk Tryz.prog 94 (con2 cTn cTn fun a b => resTE (bad2 a b) (refMul a b)) :=
  con2_ok gq9 (Λ := hMu) 5 (fun _ _ => rfl) (fun a b => Ev.fl (g := !bad2 a b) (L := [LoopGoal Tryz.prog (loopAt Tryz.prog 94 pMu) lpMu muT ⟨a, b, ⟨0#64, 0#64⟩, 0#64⟩ 4 56 0]) (by kernel_rfl)
    (fun _ p hp => by simp only [List.mem_singleton] at hp; subst hp; exact muGoal _ (by show (0#64 : W).toNat ≤ 64; decide)))
noncomputable def zqA : List (FuncId × Con) := (94, con2 cTn cTn fun a b => resTE (bad2 a b) (refMul a b)) :: zq9
theorem gqA : TabOk Tryz.prog (tabOf zqA) := tabOf_cons gq9 k94
end Go.Rf.T
