/- Scalars: the document's tnums, spans, settling. -/
import Derived.Test.YtigiedlngfkfbaaGreatZa4
import Derived.Test.YtigiedlngfkfbaaGreatPs4
set_option linter.unusedVariables false
set_option linter.unusedSimpArgs false
set_option maxRecDepth 100000
namespace Go.Rf
open Go.Proofs

theorem k108 : ConOk Tryz.prog 108 (con2 T.cTn cI fun t i => eI (T.markB t i)) :=
  con2_ok rsd2 (Λ := noHooks) 5 (fun _ _ => rfl) (fun x y => Ev.of (by kernel_rfl))
theorem k39 : ConOk Tryz.prog 39 (con1 T.cTn fun t => eB (T.may t)) :=
  con1_ok rsd2 (Λ := noHooks) 5 (fun _ => rfl) (fun x => Ev.of (by kernel_rfl))
theorem k40 : ConOk Tryz.prog 40 (con1 cSp fun s => eB (mayS s)) :=
  con1_ok rsd2 (Λ := noHooks) 5 (fun _ => rfl) (fun x => Ev.of (by kernel_rfl))
theorem k52 : ConOk Tryz.prog 52 (con0 (T.eTn ⟨0#64, 18446744073709551615#64⟩)) :=
  con0_ok rsd2 (Λ := noHooks) 5 rfl (Ev.of (by kernel_rfl))
noncomputable def se1 : List (FuncId × Con) :=
  (108, con2 T.cTn cI fun t i => eI (T.markB t i)) ::
  (39, con1 T.cTn fun t => eB (T.may t)) ::
  (40, con1 cSp fun s => eB (mayS s)) ::
  (52, con0 (T.eTn ⟨0#64, 18446744073709551615#64⟩)) :: sd2
theorem rse1 : TabOk Tryz.prog (tabOf se1) := (tabOf_cons (tabOf_cons (tabOf_cons (tabOf_cons rsd2 k52) k40) k39) k108)

noncomputable def lpMade : Lp T.MadeS where
  keys := [1, 3, 4]
  names := [0, 2]
  scr := wrAt Tryz.prog 107 [1, 1, 0, 1, 4]
  vals s := [.ptr 0 [], .ptr 2 [], .int .i64 fun _ => s.i]
  blks s := [⟨108, T.cA.enc s.l⟩, ⟨24, eTn s.t⟩]
  dec vs bs := match vs, bs with
    | [_, _, v], [⟨_, x⟩, ⟨_, y⟩] => match cI.dec v, T.cA.dec x, T.cTn.dec y with
      | some i, some l, some t => some ⟨i, t, l⟩
      | _, _, _ => none
    | _, _ => none
theorem madeGoal (s : T.MadeS) (h : s.inv) : LoopGoal Tryz.prog (loopAt Tryz.prog 107 [1, 1, 0, 1, 4]) lpMade T.madeT s 3 32 0 := by
  refine lp_rule (cx := ⟨Tryz.prog, tabOf se1, inlF Tryz.prog (tabOf se1) noHooks 2⟩) rse1 (inlF_ok rse1 2) (Λ := fun _ => none) (p := []) lpMade T.MadeS.inv T.MadeS.mu T.MadeS.step T.madeT 3 32 0 (fun _ => ⟨rfl, rfl⟩) ?_ ?_ s h
  · intro s r h hi
    refine ⟨.imp s.go true ((ixOb s.i 64).two ((Ob.imp s.is2 true (ixOb s.i 64)).two (Ob.imp s.is2 false (ixOb s.i 64)))), by kernel_rfl, ?_⟩
    intro hg
    rw [T.MadeS.go_iff hi, decide_eq_true_eq] at hg
    have hx := ixOb_holds (by decide) hg
    exact ⟨hx, fun _ => hx, fun _ => hx⟩
  · refine good_run T.MadeS.dec (fun s h => by simp only [T.MadeS.mu]; omega) ?_ ?_
    · intro s hi hg
      simp only [T.MadeS.step, Rd.sel, hg, if_true, T.MadeS.next]
      cases s.is2 <;> cases s.is3 <;> rfl
    · intro s hi hg
      simp only [T.MadeS.step, Rd.sel, hg, Bool.false_eq_true, if_false]
noncomputable def hMade : FuncId → Hook := fun f p => if f == 107 && p == [1, 1, 0, 1, 4] then some (lpMade.hk T.madeT) else none
theorem k107 : ConOk Tryz.prog 107 (con1 T.cA fun l => eTn (T.made l)) :=
  con1_ok rse1 (Λ := hMade) 5 (fun _ => rfl) (fun l => Ev.ob (ob := .pr (LoopGoal Tryz.prog (loopAt Tryz.prog 107 [1, 1, 0, 1, 4]) lpMade T.madeT ⟨0#64, ⟨0#64, 0#64⟩, l⟩ 3 32 0)) (by kernel_rfl) (madeGoal _ (by show (0#64 : W).toNat ≤ 64; decide)))
theorem kk41 : ConOk Tryz.prog 41 (con2 cSp cSp fun a b => resSB (noMeetD a b) (meetD a b)) :=
  con2_ok rse1 (Λ := noHooks) 3 (fun _ _ => rfl) (fun x y => Ev.of (by kernel_rfl))
theorem k41 : ConOk Tryz.prog 41 (con2 cSp cSp fun a b => resSB (noMeetS a b) (meetS a b)) :=
  (show (con2 cSp cSp fun a b => resSB (noMeetD a b) (meetD a b)) = (con2 cSp cSp fun a b => resSB (noMeetS a b) (meetS a b)) from congrArg _ (by funext a b; rw [meet_same, noMeet_same])) ▸ kk41
theorem kk47 : ConOk Tryz.prog 47 (con2 cSp cSp fun a b => eSp (joinD a b)) :=
  con2_ok rse1 (Λ := noHooks) 3 (fun _ _ => rfl) (fun x y => Ev.of (by kernel_rfl))
theorem k47 : ConOk Tryz.prog 47 (con2 cSp cSp fun a b => eSp (joinS a b)) :=
  (show (con2 cSp cSp fun a b => eSp (joinD a b)) = (con2 cSp cSp fun a b => eSp (joinS a b)) from congrArg _ (by funext a b; rw [join_same])) ▸ kk47
noncomputable def se2 : List (FuncId × Con) :=
  (107, con1 T.cA fun l => eTn (T.made l)) ::
  (41, con2 cSp cSp fun a b => resSB (noMeetS a b) (meetS a b)) ::
  (47, con2 cSp cSp fun a b => eSp (joinS a b)) :: se1
theorem rse2 : TabOk Tryz.prog (tabOf se2) := (tabOf_cons (tabOf_cons (tabOf_cons rse1 k47) k41) k107)

noncomputable def lpRg : Lp T.RgS where
  keys := [0, 1, 6, 7, 8]
  names := [1]
  scr := wrAt Tryz.prog 42 T.pRg
  vals s := [cW.enc s.lo, cW.enc s.hi, .ptr 1 [], eB s.un, eI s.i]
  blks s := [⟨108, T.cA.enc s.l⟩]
  dec vs bs := match vs, bs with
    | [a, b, _, u, i], [⟨_, q⟩] => match cW.dec a, cW.dec b, cB.dec u, cI.dec i, T.cA.dec q with
      | some a, some b, some u, some i, some l => some ⟨a, b, u, i, l⟩
      | _, _, _, _, _ => none
    | _, _ => none
theorem rgGoal (s : T.RgS) (h : s.inv) : LoopGoal Tryz.prog (loopAt Tryz.prog 42 T.pRg) lpRg T.rgLoop s 2 46 0 := by
  refine lp_rule (cx := ⟨Tryz.prog, tabOf se2, inlF Tryz.prog (tabOf se2) noHooks 2⟩) rse2 (inlF_ok rse2 2) (Λ := fun _ => none) (p := []) lpRg T.RgS.inv T.RgS.mu T.RgS.step T.rgLoop 2 46 0 (fun _ => ⟨rfl, rfl⟩) ?_ ?_ s h
  · intro s r h hi
    refine fl_ok (g := s.go) (L := ixs s.i 64 4) (by kernel_rfl) (fun hg => ixs_hold (by decide) ?_ _)
    rw [T.RgS.go_iff, decide_eq_true_eq] at hg
    have h2 := hi.2
    have := nat_of_int hg
    omega
  · refine good_run T.RgS.dec (fun s h => by have := h.2; simp only [T.RgS.mu]; omega) ?_ ?_
    · intro s hi hg
      simp only [T.RgS.step, Rd.sel, hg, if_true, T.RgS.nxt, T.RgS.l1, T.upd_upd]
      cases s.x <;> cases s.ne <;> rfl
    · intro s hi hg
      simp only [T.RgS.step, Rd.sel, hg, Bool.false_eq_true, if_false]
noncomputable def hRg : FuncId → Hook := fun f p => if f == 42 && p == T.pRg then some (lpRg.hk T.rgLoop) else none
theorem kk42 : ConOk Tryz.prog 42 (con2 cW cW fun lo hi => T.resTE (T.badRg lo hi) (T.made (T.rgL lo hi))) :=
  con2_ok rse2 (Λ := hRg) 5 (fun _ _ => rfl) (fun lo hi => Ev.fl (g := !T.badRg lo hi) (L := [LoopGoal Tryz.prog (loopAt Tryz.prog 42 T.pRg) lpRg T.rgLoop ⟨lo, hi, false, 63#64, fun _ => 0#64⟩ 2 46 0]) (by kernel_rfl)
    (fun _ p hp => by simp only [List.mem_singleton] at hp; subst hp; exact rgGoal _ ⟨by show -1 ≤ (63#64 : W).toInt; decide, by show (63#64 : W).toInt ≤ 63; decide⟩))
theorem k42 : ConOk Tryz.prog 42 (con2 cW cW fun a b => T.resTE (T.badRg a b) (T.rgT a b)) :=
  (show (con2 cW cW fun a b => T.resTE (T.badRg a b) (T.made (T.rgL a b))) = (con2 cW cW fun a b => T.resTE (T.badRg a b) (T.rgT a b)) from congrArg _ (by funext a b; rw [T.ref_range])) ▸ kk42
noncomputable def lpMe : Lp T.MeS where
  keys := [2, 3, 4, 5, 6, 7]
  names := [0, 1, 2, 3]
  scr := wrAt Tryz.prog 43 T.pFr
  vals s := [.ptr 0 [], .ptr 1 [], .ptr 2 [], eB s.res, .ptr 3 [], eI s.i]
  blks s := [⟨24, eTn s.a⟩, ⟨24, eTn s.b⟩, ⟨24, eTn s.r⟩, ⟨108, T.cA.enc s.l⟩]
  dec vs bs := match vs, bs with
    | [_, _, _, r, _, i], [⟨_, p⟩, ⟨_, q⟩, ⟨_, z⟩, ⟨_, l⟩] => match cB.dec r, cI.dec i, T.cTn.dec p, T.cTn.dec q, T.cTn.dec z, T.cA.dec l with
      | some r, some i, some a, some b, some z, some l => some ⟨a, b, z, r, i, l⟩
      | _, _, _, _, _, _ => none
    | _, _ => none
theorem meGoal (s : T.MeS) (h : s.inv) : LoopGoal Tryz.prog (loopAt Tryz.prog 43 T.pFr) lpMe T.meT s 4 37 0 := by
  refine lp_rule (cx := ⟨Tryz.prog, tabOf se2, inlF Tryz.prog (tabOf se2) noHooks 2⟩) rse2 (inlF_ok rse2 2) (Λ := fun _ => none) (p := []) lpMe T.MeS.inv T.MeS.mu T.MeS.step T.meT 4 37 0 (fun _ => ⟨rfl, rfl⟩) ?_ ?_ s h
  · intro s r h hi
    refine fl_ok (g := s.more) (L := ixs s.i 64 2) (by kernel_rfl) (fun hg => ixs_hold (by decide) ?_ _)
    have h' : s.i.toNat ≤ 64 := hi
    simpa only [T.MeS.more, T.le64 h', decide_eq_true_eq] using hg
  · refine good_ret T.MeS.dec (fun s h => by simp only [T.MeS.mu]; omega) ?_ ?_ ?_
    · intro s hi hg
      simp only [T.MeS.go, Bool.and_eq_true, Bool.not_eq_true'] at hg
      simp only [T.MeS.step, Rd.sel, hg.1, hg.2, if_true, Bool.false_eq_true, if_false]
    · intro s hi hg ho
      simp only [T.MeS.go, ho, Bool.true_and, Bool.not_eq_false'] at hg
      simp only [T.MeS.step, Rd.sel, ho, hg, if_true]
    · intro s hi hg ho
      simp only [T.MeS.step, Rd.sel, ho, Bool.false_eq_true, if_false]
noncomputable def hMe : FuncId → Hook := fun f p => if f == 43 && p == T.pFr then some (lpMe.hk T.meT) else none
theorem kk43 : ConOk Tryz.prog 43 (con2 T.cTn T.cTn fun a b => pair (eTn (T.meetD a b)) (eB (T.meetDB a b))) :=
  con2_ok rse2 (Λ := hMe) 5 (fun _ _ => rfl) (fun a b => Ev.fl (g := !T.bad2 a b) (L := [LoopGoal Tryz.prog (loopAt Tryz.prog 43 T.pFr) lpMe T.meT ⟨a, b, T.nil, false, 0#64, fun _ => 0#64⟩ 4 37 0]) (by kernel_rfl)
    (fun _ p hp => by simp only [List.mem_singleton] at hp; subst hp; exact meGoal _ (by show (0#64 : W).toNat ≤ 64; decide)))
theorem k43 : ConOk Tryz.prog 43 (con2 T.cTn T.cTn fun a b => pair (eTn (T.meetR a b)) (eB (T.isM a b))) :=
  (show (con2 T.cTn T.cTn fun a b => pair (eTn (T.meetD a b)) (eB (T.meetDB a b))) = (con2 T.cTn T.cTn fun a b => pair (eTn (T.meetR a b)) (eB (T.isM a b))) from congrArg _ (by funext a b; rw [(T.meet_same a b).1, (T.meet_same a b).2])) ▸ kk43
noncomputable def lpJo : Lp T.JoS where
  keys := [2, 3, 6, 7]
  names := [0, 1, 3]
  scr := wrAt Tryz.prog 46 T.pFr
  vals s := [.ptr 0 [], .ptr 1 [], .ptr 3 [], eI s.i]
  blks s := [⟨24, eTn s.a⟩, ⟨24, eTn s.b⟩, ⟨108, T.cA.enc s.l⟩]
  dec vs bs := match vs, bs with
    | [_, _, _, i], [⟨_, p⟩, ⟨_, q⟩, ⟨_, l⟩] => match cI.dec i, T.cTn.dec p, T.cTn.dec q, T.cA.dec l with
      | some i, some a, some b, some l => some ⟨a, b, i, l⟩
      | _, _, _, _ => none
    | _, _ => none
theorem joGoal (s : T.JoS) (h : s.inv) : LoopGoal Tryz.prog (loopAt Tryz.prog 46 T.pFr) lpJo T.joT s 4 32 0 := by
  refine lp_rule (cx := ⟨Tryz.prog, tabOf se2, inlF Tryz.prog (tabOf se2) noHooks 2⟩) rse2 (inlF_ok rse2 2) (Λ := fun _ => none) (p := []) lpJo T.JoS.inv T.JoS.mu T.JoS.step T.joT 4 32 0 (fun _ => ⟨rfl, rfl⟩) ?_ ?_ s h
  · intro s r h hi
    refine fl_ok (g := s.go) (L := ixs s.i 64 1) (by kernel_rfl) (fun hg => ixs_hold (by decide) ?_ _)
    have h' : s.i.toNat ≤ 64 := hi
    simpa only [T.JoS.go, T.le64 h', decide_eq_true_eq] using hg
  · refine good_run T.JoS.dec (fun s h => by simp only [T.JoS.mu]; omega) ?_ ?_
    · intro s hi hg
      simp only [T.JoS.step, Rd.sel, hg, if_true]
    · intro s hi hg
      simp only [T.JoS.step, Rd.sel, hg, Bool.false_eq_true, if_false]
noncomputable def hJo : FuncId → Hook := fun f p => if f == 46 && p == T.pFr then some (lpJo.hk T.joT) else none
theorem kk46 : ConOk Tryz.prog 46 (con2 T.cTn T.cTn fun a b => T.resTE (T.bad2 a b) (T.made (T.joL a b))) :=
  con2_ok rse2 (Λ := hJo) 5 (fun _ _ => rfl) (fun a b => Ev.fl (g := !T.bad2 a b) (L := [LoopGoal Tryz.prog (loopAt Tryz.prog 46 T.pFr) lpJo T.joT ⟨a, b, 0#64, fun _ => 0#64⟩ 4 32 0]) (by kernel_rfl)
    (fun _ p hp => by simp only [List.mem_singleton] at hp; subst hp; exact joGoal _ (by show (0#64 : W).toNat ≤ 64; decide)))
theorem k46 : ConOk Tryz.prog 46 (con2 T.cTn T.cTn fun a b => pair (eTn (T.joinR a b)) (eI (T.err2 a b))) :=
  (show (con2 T.cTn T.cTn fun a b => T.resTE (T.bad2 a b) (T.made (T.joL a b))) = (con2 T.cTn T.cTn fun a b => pair (eTn (T.joinR a b)) (eI (T.err2 a b))) from congrArg _ (by funext a b; rw [T.join_same]; rfl)) ▸ kk46
noncomputable def lpIn : Lp T.InS where
  keys := [2, 3, 4, 5]
  names := [0, 1]
  scr := wrAt Tryz.prog 58 T.pIn
  vals s := [.ptr 0 [], .ptr 1 [], eB s.res, eI s.i]
  blks s := [⟨24, eTn s.a⟩, ⟨24, eTn s.b⟩]
  dec vs bs := match vs, bs with
    | [_, _, r, i], [⟨_, p⟩, ⟨_, q⟩] => match cB.dec r, cI.dec i, T.cTn.dec p, T.cTn.dec q with
      | some r, some i, some a, some b => some ⟨a, b, r, i⟩
      | _, _, _, _ => none
    | _, _ => none
theorem inGoal (s : T.InS) (h : s.inv) : LoopGoal Tryz.prog (loopAt Tryz.prog 58 T.pIn) lpIn T.inT s 2 29 0 := by
  refine lp_rule (cx := ⟨Tryz.prog, tabOf se2, inlF Tryz.prog (tabOf se2) noHooks 2⟩) rse2 (inlF_ok rse2 2) (Λ := fun _ => none) (p := []) lpIn T.InS.inv T.InS.mu T.InS.step T.inT 2 29 0 (fun _ => ⟨rfl, rfl⟩) ?_ ?_ s h
  · intro s r h hi
    exact ⟨.tt, by kernel_rfl, trivial⟩
  · refine good_ret T.InS.dec (fun s h => by simp only [T.InS.mu]; omega) ?_ ?_ ?_
    · intro s hi hg
      simp only [T.InS.go, Bool.and_eq_true, Bool.not_eq_true'] at hg
      simp only [T.InS.step, Rd.sel, hg.1, hg.2, if_true, Bool.false_eq_true, if_false]
    · intro s hi hg ho
      simp only [T.InS.go, ho, Bool.true_and, Bool.not_eq_false'] at hg
      simp only [T.InS.step, Rd.sel, ho, hg, if_true]
    · intro s hi hg ho
      simp only [T.InS.step, Rd.sel, ho, Bool.false_eq_true, if_false]
noncomputable def hIn : FuncId → Hook := fun f p => if f == 58 && p == T.pIn then some (lpIn.hk T.inT) else none
theorem kk58 : ConOk Tryz.prog 58 (con2 T.cTn T.cTn fun a b => eB (T.inD a b)) :=
  con2_ok rse2 (Λ := hIn) 5 (fun _ _ => rfl) (fun a b => Ev.fl (g := !T.bad2 a b) (L := [LoopGoal Tryz.prog (loopAt Tryz.prog 58 T.pIn) lpIn T.inT ⟨a, b, false, 0#64⟩ 2 29 0]) (by kernel_rfl)
    (fun _ p hp => by simp only [List.mem_singleton] at hp; subst hp; exact inGoal _ (by show (0#64 : W).toNat ≤ 64; decide)))
theorem k58 : ConOk Tryz.prog 58 (con2 T.cTn T.cTn fun a b => eB (T.isIn a b)) :=
  (show (con2 T.cTn T.cTn fun a b => eB (T.inD a b)) = (con2 T.cTn T.cTn fun a b => eB (T.isIn a b)) from congrArg _ (by funext a b; rw [T.inD_eq])) ▸ kk58
noncomputable def lpHa : Lp T.HaS where
  keys := [1, 2, 4, 5]
  names := [0]
  scr := wrAt Tryz.prog 55 T.pIn
  vals s := [cW.enc s.n, .ptr 0 [], eB s.res, eI s.i]
  blks s := [⟨24, eTn s.t⟩]
  dec vs bs := match vs, bs with
    | [n, _, r, i], [⟨_, p⟩] => match cW.dec n, cB.dec r, cI.dec i, T.cTn.dec p with
      | some n, some r, some i, some t => some ⟨t, n, r, i⟩
      | _, _, _, _ => none
    | _, _ => none
theorem haGoal (s : T.HaS) (h : s.inv) : LoopGoal Tryz.prog (loopAt Tryz.prog 55 T.pIn) lpHa T.haT s 1 26 0 := by
  refine lp_rule (cx := ⟨Tryz.prog, tabOf se2, inlF Tryz.prog (tabOf se2) noHooks 2⟩) rse2 (inlF_ok rse2 2) (Λ := fun _ => none) (p := []) lpHa T.HaS.inv T.HaS.mu T.HaS.step T.haT 1 26 0 (fun _ => ⟨rfl, rfl⟩) ?_ ?_ s h
  · intro s r h hi
    exact ⟨.tt, by kernel_rfl, trivial⟩
  · refine good_ret T.HaS.dec (fun s h => by simp only [T.HaS.mu]; omega) ?_ ?_ ?_
    · intro s hi hg
      simp only [T.HaS.go, T.HaS.bad, Bool.and_eq_true, Bool.not_eq_true'] at hg
      simp only [T.HaS.step, Rd.sel, hg.1, if_true]
      cases h : s.one <;> rw [h] at hg <;> simp_all
    · intro s hi hg ho
      simp only [T.HaS.go, T.HaS.bad, ho, Bool.true_and, Bool.not_eq_false'] at hg
      simp only [T.HaS.step, Rd.sel, ho, if_true]
      cases h : s.one <;> rw [h] at hg <;> simp_all
    · intro s hi hg ho
      simp only [T.HaS.step, Rd.sel, ho, Bool.false_eq_true, if_false]
noncomputable def hHa : FuncId → Hook := fun f p => if f == 55 && p == T.pIn then some (lpHa.hk T.haT) else none
theorem kk55 : ConOk Tryz.prog 55 (con2 T.cTn cW fun a b => eB (T.hasD a b)) :=
  con2_ok rse2 (Λ := hHa) 5 (fun _ _ => rfl) (fun a b => Ev.fl (g := !(!T.may a)) (L := [LoopGoal Tryz.prog (loopAt Tryz.prog 55 T.pIn) lpHa T.haT ⟨a, b, false, 0#64⟩ 1 26 0]) (by kernel_rfl)
    (fun _ p hp => by simp only [List.mem_singleton] at hp; subst hp; exact haGoal _ (by show (0#64 : W).toNat ≤ 64; decide)))
theorem k55 : ConOk Tryz.prog 55 (con2 T.cTn cW fun a b => eB (T.has a b)) :=
  (show (con2 T.cTn cW fun a b => eB (T.hasD a b)) = (con2 T.cTn cW fun a b => eB (T.has a b)) from congrArg _ (by funext a b; rw [T.hasD_eq])) ▸ kk55
noncomputable def se3 : List (FuncId × Con) :=
  (42, con2 cW cW fun a b => T.resTE (T.badRg a b) (T.rgT a b)) ::
  (43, con2 T.cTn T.cTn fun a b => pair (eTn (T.meetR a b)) (eB (T.isM a b))) ::
  (46, con2 T.cTn T.cTn fun a b => pair (eTn (T.joinR a b)) (eI (T.err2 a b))) ::
  (58, con2 T.cTn T.cTn fun a b => eB (T.isIn a b)) ::
  (55, con2 T.cTn cW fun a b => eB (T.has a b)) :: se2
theorem rse3 : TabOk Tryz.prog (tabOf se3) := (tabOf_cons (tabOf_cons (tabOf_cons (tabOf_cons (tabOf_cons rse2 k55) k58) k46) k43) k42)

def pRs : List Nat := [1, 1, 0, 1, 4]
noncomputable def lpRs : Lp RsS where
  keys := [2, 3, 4, 5, 6]
  names := [0, 1, 2]
  scr := wrAt Tryz.prog 10 pRs
  vals s := [.ptr 0 [], .ptr 1 [], .ptr 2 [], eB s.ok, eI s.n]
  blks s := [⟨24, eTn s.t⟩, ⟨26, eSp s.s⟩, ⟨28, eSc s.r⟩]
  dec vs bs := match vs, bs with
    | [_, _, _, b, n], [⟨_, t⟩, ⟨_, s⟩, ⟨_, r⟩] => match cB.dec b, cI.dec n, T.cTn.dec t, cSp.dec s, cSc.dec r with
      | some b, some n, some t, some s, some r => some ⟨t, s, r, b, n⟩
      | _, _, _, _, _ => none
    | _, _ => none
theorem goalRs (s : RsS) (h : s.inv) : LoopGoal Tryz.prog (loopAt Tryz.prog 10 pRs) lpRs RsS.T s 3 76 0 := by
  refine lp_rule (cx := ⟨Tryz.prog, tabOf se3, inlF Tryz.prog (tabOf se3) noHooks 2⟩) rse3 (inlF_ok rse3 2) (Λ := fun _ => none) (p := []) lpRs RsS.inv RsS.mu RsS.step RsS.T 3 76 0 (fun _ => ⟨rfl, rfl⟩) ?_ ?_ s h
  · intro s r h hi
    exact ⟨.tt, by kernel_rfl, trivial⟩
  · exact RsS.good
noncomputable def hRs : FuncId → Hook := fun f p => if f == 10 && p == pRs then some (lpRs.hk RsS.T) else none
theorem kk10 : ConOk Tryz.prog 10 (con2 T.cTn cSp fun t s => pair (eSc (setRD t s)) (eB (setOkD t s))) :=
  con2_ok rse3 (Λ := hRs) 5 (fun _ _ => rfl) (fun t s => Ev.fl (g := !setBad t s) (L := [LoopGoal Tryz.prog (loopAt Tryz.prog 10 pRs) lpRs RsS.T ⟨t, s, nilC, false, 0#64⟩ 3 76 0]) (by kernel_rfl)
    (fun _ p hp => by simp only [List.mem_singleton] at hp; subst hp; exact goalRs _ (by show (0#64 : W).toNat ≤ 300; decide)))
theorem k10 : ConOk Tryz.prog 10 (con2 T.cTn cSp fun a b => pair (eSc (setR a b)) (eB (setOk a b))) :=
  (show (con2 T.cTn cSp fun a b => pair (eSc (setRD a b)) (eB (setOkD a b))) = (con2 T.cTn cSp fun a b => pair (eSc (setR a b)) (eB (setOk a b))) from congrArg _ (by funext a b; rw [(settle_same a b).1, (settle_same a b).2])) ▸ kk10
noncomputable def se4 : List (FuncId × Con) :=
  (10, con2 T.cTn cSp fun a b => pair (eSc (setR a b)) (eB (setOk a b))) :: se3
theorem rse4 : TabOk Tryz.prog (tabOf se4) := (tabOf_cons rse3 k10)

end Go.Rf
