/- Scalars: the contracts of tnums and spans. -/
import Derived.Test.YtigiedlngfkfbaaGreatPP
import Derived.Test.YtigiedlngfkfbaaGreatTT
import Derived.Test.YtigiedlngfkfbaaGreatProg
set_option linter.unusedVariables false
set_option linter.unusedSimpArgs false
set_option maxRecDepth 100000
namespace Go.Rf
open Go.Proofs

noncomputable def sa0 : List (FuncId × Con) := []
theorem rsa0 : TabOk Tryz.prog (tabOf sa0) := tabOf_nil _

theorem k34 : ConOk Tryz.prog 34 (con1 T.cTn fun t => eB (T.may t)) :=
  con1_ok rsa0 (Λ := noHooks) 3 (fun _ => rfl) (fun x => Ev.of (by kernel_rfl))
theorem k106 : ConOk Tryz.prog 106 (con2 cW cW fun v any => T.eTn (T.fit v any)) :=
  con2_ok rsa0 (Λ := noHooks) 3 (fun _ _ => rfl) (fun x y => Ev.of (by kernel_rfl))
theorem k48 : ConOk Tryz.prog 48 (con1 cW fun v => T.eTn ⟨v, 0⟩) :=
  con1_ok rsa0 (Λ := noHooks) 3 (fun _ => rfl) (fun x => Ev.of (by kernel_rfl))
theorem k50 : ConOk Tryz.prog 50 (con0 (T.eTn ⟨0, 18446744073709551615#64⟩)) :=
  con0_ok rsa0 (Λ := noHooks) 3 rfl (Ev.of (by kernel_rfl))
theorem k35 : ConOk Tryz.prog 35 (con1 cSp fun s => eB (mayS s)) :=
  con1_ok rsa0 (Λ := noHooks) 3 (fun _ => rfl) (fun x => Ev.of (by kernel_rfl))
theorem k54 : ConOk Tryz.prog 54 (con2 cSp cW fun s n => eB (hasS s n)) :=
  con2_ok rsa0 (Λ := noHooks) 3 (fun _ _ => rfl) (fun x y => Ev.of (by kernel_rfl))
theorem k51 : ConOk Tryz.prog 51 (con0 (eSp allS)) :=
  con0_ok rsa0 (Λ := noHooks) 3 rfl (Ev.of (by kernel_rfl))
theorem k49 : ConOk Tryz.prog 49 (con1 cW fun n => eSp (ofS n)) :=
  con1_ok rsa0 (Λ := noHooks) 3 (fun _ => rfl) (fun x => Ev.of (by kernel_rfl))
theorem k115 : ConOk Tryz.prog 115 (con2 cW cW fun x m => eW (upW x m)) :=
  con2_ok rsa0 (Λ := noHooks) 3 (fun _ _ => rfl) (fun x y => Ev.of (by kernel_rfl))
theorem k117 : ConOk Tryz.prog 117 (con2 cW cW fun x m => eW (wiW x m)) :=
  con2_ok rsa0 (Λ := noHooks) 3 (fun _ _ => rfl) (fun x y => Ev.of (by kernel_rfl))
theorem k105 : ConOk Tryz.prog 105 (con1 cW fun x => eI (T.lenW x)) :=
  con1_ok rsa0 (Λ := noHooks) 5 (fun _ => rfl) (fun x => Ev.fl (g := true) (L := [T.tabOb (T.shrW (T.shrW (T.shrW x 32) 16) 8), T.tabOb (T.shrW (T.shrW x 32) 16), T.tabOb (T.shrW (T.shrW x 32) 8), T.tabOb (T.shrW x 32), T.tabOb (T.shrW (T.shrW x 16) 8), T.tabOb (T.shrW x 16), T.tabOb (T.shrW x 8), T.tabOb x]) (by kernel_rfl)
    (fun _ p hp => by
      simp only [List.mem_cons, List.not_mem_nil, or_false] at hp
      rcases hp with rfl | rfl | rfl | rfl | rfl | rfl | rfl | rfl <;> exact T.tabOb_holds _))
noncomputable def sa1 : List (FuncId × Con) :=
  (34, con1 T.cTn fun t => eB (T.may t)) ::
  (106, con2 cW cW fun v any => T.eTn (T.fit v any)) ::
  (48, con1 cW fun v => T.eTn ⟨v, 0⟩) ::
  (50, con0 (T.eTn ⟨0, 18446744073709551615#64⟩)) ::
  (35, con1 cSp fun s => eB (mayS s)) ::
  (54, con2 cSp cW fun s n => eB (hasS s n)) ::
  (51, con0 (eSp allS)) ::
  (49, con1 cW fun n => eSp (ofS n)) ::
  (115, con2 cW cW fun x m => eW (upW x m)) ::
  (117, con2 cW cW fun x m => eW (wiW x m)) ::
  (105, con1 cW fun x => eI (T.lenW x)) :: sa0
theorem rsa1 : TabOk Tryz.prog (tabOf sa1) := (tabOf_cons (tabOf_cons (tabOf_cons (tabOf_cons (tabOf_cons (tabOf_cons (tabOf_cons (tabOf_cons (tabOf_cons (tabOf_cons (tabOf_cons rsa0 k105) k117) k115) k49) k51) k54) k35) k50) k48) k106) k34)

theorem k53 : ConOk Tryz.prog 53 (con2 T.cTn cW fun t n => eB (T.has t n)) :=
  con2_ok rsa1 (Λ := noHooks) 3 (fun _ _ => rfl) (fun x y => Ev.of (by kernel_rfl))
theorem k38 : ConOk Tryz.prog 38 (con2 T.cTn T.cTn fun a b => T.resTB (T.noMeet a b) (T.tMeet a b)) :=
  con2_ok rsa1 (Λ := noHooks) 4 (fun _ _ => rfl) (fun x y => Ev.of (by kernel_rfl))
theorem k44 : ConOk Tryz.prog 44 (con2 T.cTn T.cTn fun a b => T.resTE (T.bad2 a b) (T.tJoin a b)) :=
  con2_ok rsa1 (Λ := noHooks) 4 (fun _ _ => rfl) (fun x y => Ev.of (by kernel_rfl))
theorem k77 : ConOk Tryz.prog 77 (con2 T.cTn T.cTn fun a b => T.resTE (T.bad2 a b) (T.tAnd a b)) :=
  con2_ok rsa1 (Λ := noHooks) 4 (fun _ _ => rfl) (fun x y => Ev.of (by kernel_rfl))
theorem k37 : ConOk Tryz.prog 37 (con2 cW cW fun lo hi => T.resTE (T.badRg lo hi) (T.rgT lo hi)) :=
  con2_ok rsa1 (Λ := noHooks) 5 (fun _ _ => rfl) (fun x y => Ev.of (by kernel_rfl))
theorem k36 : ConOk Tryz.prog 36 (con2 cSp cSp fun a b => resSB (noMeetS a b) (meetS a b)) :=
  con2_ok rsa1 (Λ := noHooks) 3 (fun _ _ => rfl) (fun x y => Ev.of (by kernel_rfl))
theorem k57 : ConOk Tryz.prog 57 (con2 cSp cSp fun a b => eB (inS a b)) :=
  con2_ok rsa1 (Λ := noHooks) 3 (fun _ _ => rfl) (fun x y => Ev.of (by kernel_rfl))
theorem k45 : ConOk Tryz.prog 45 (con2 cSp cSp fun a b => eSp (joinS a b)) :=
  con2_ok rsa1 (Λ := noHooks) 3 (fun _ _ => rfl) (fun x y => Ev.of (by kernel_rfl))
theorem k60 : ConOk Tryz.prog 60 (con2 cSp cI fun s n => eSp (cutS s n)) :=
  con2_ok rsa1 (Λ := noHooks) 6 (fun _ _ => rfl) (fun s n => Ev.fl (g := !(!mayS s || cutN n == 64#64)) (L := [0 ≤ toZ .i64 (cutN n), 0 ≤ toZ .i64 (cutN n), 0 ≤ toZ .i64 (cutN n)]) (by kernel_rfl)
    (fun _ p hp => by simp only [List.mem_cons, List.not_mem_nil, or_false, or_self] at hp; subst hp; exact cutN_pos n))
noncomputable def sa2 : List (FuncId × Con) :=
  (53, con2 T.cTn cW fun t n => eB (T.has t n)) ::
  (38, con2 T.cTn T.cTn fun a b => T.resTB (T.noMeet a b) (T.tMeet a b)) ::
  (44, con2 T.cTn T.cTn fun a b => T.resTE (T.bad2 a b) (T.tJoin a b)) ::
  (77, con2 T.cTn T.cTn fun a b => T.resTE (T.bad2 a b) (T.tAnd a b)) ::
  (37, con2 cW cW fun lo hi => T.resTE (T.badRg lo hi) (T.rgT lo hi)) ::
  (36, con2 cSp cSp fun a b => resSB (noMeetS a b) (meetS a b)) ::
  (57, con2 cSp cSp fun a b => eB (inS a b)) ::
  (45, con2 cSp cSp fun a b => eSp (joinS a b)) ::
  (60, con2 cSp cI fun s n => eSp (cutS s n)) :: sa1
theorem rsa2 : TabOk Tryz.prog (tabOf sa2) := (tabOf_cons (tabOf_cons (tabOf_cons (tabOf_cons (tabOf_cons (tabOf_cons (tabOf_cons (tabOf_cons (tabOf_cons rsa1 k60) k45) k57) k36) k37) k77) k44) k38) k53)

theorem k56 : ConOk Tryz.prog 56 (con2 T.cTn T.cTn fun a b => eB (T.isIn a b)) :=
  con2_ok rsa2 (Λ := noHooks) 4 (fun _ _ => rfl) (fun x y => Ev.of (by kernel_rfl))

noncomputable def lpDn (f : FuncId) : Lp DoS where
  keys := [0, 2]
  names := [0, 1, 2, 3]
  scr := wrAt Tryz.prog 113 pDn
  vals s := [.fn f (.cons (.ptr 2 []) (.cons (.ptr 3 []) (.cons (.ptr 0 []) (.cons (.ptr 1 []) .nil)))), eW s.m]
  blks s := [⟨26, eSp s.a⟩, ⟨26, eSp s.b⟩, ⟨22, eW s.x⟩, ⟨22, eW s.y⟩]
  dec vs bs := match vs, bs with
    | [_, m], [⟨_, a⟩, ⟨_, b⟩, ⟨_, x⟩, ⟨_, y⟩] => match cW.dec m, cSp.dec a, cSp.dec b, cW.dec x, cW.dec y with
      | some m, some a, some b, some x, some y => some ⟨a, b, x, y, m⟩
      | _, _, _, _, _ => none
    | _, _ => none

theorem goalLO (s : DoS) : LoopGoal Tryz.prog (loopAt Tryz.prog 113 pDn) (lpDn 114) fLO.T s 4 10 4 := by
  refine lp_rule (cx := ⟨Tryz.prog, tabOf sa2, inlF Tryz.prog (tabOf sa2) noHooks 2⟩) rsa2 (inlF_ok rsa2 2) (Λ := fun _ => none) (p := []) (lpDn 114) DoS.inv DoS.mu fLO.step fLO.T 4 10 4 (fun _ => ⟨rfl, rfl⟩) ?_ ?_ s trivial
  · intro s r h hi
    exact ⟨.tt, by kernel_rfl, trivial⟩
  · exact fLO.good
noncomputable def hLO : FuncId → Hook := fun f p => if f == 113 && p == pDn then some ((lpDn 114).hk fLO.T) else none
theorem k65 : ConOk Tryz.prog 65 (con2 cSp cSp fun a b => eW (leastOr a b)) :=
  con2_ok rsa2 (Λ := hLO) 5 (fun _ _ => rfl) (fun a b => Ev.fl (g := true) (L := [LoopGoal Tryz.prog (loopAt Tryz.prog 113 pDn) (lpDn 114) fLO.T (sLo a b) 4 10 4]) (by kernel_rfl)
    (fun _ p hp => by simp only [List.mem_singleton] at hp; subst hp; exact goalLO _))
theorem goalMO (s : DoS) : LoopGoal Tryz.prog (loopAt Tryz.prog 113 pDn) (lpDn 116) fMO.T s 4 10 4 := by
  refine lp_rule (cx := ⟨Tryz.prog, tabOf sa2, inlF Tryz.prog (tabOf sa2) noHooks 2⟩) rsa2 (inlF_ok rsa2 2) (Λ := fun _ => none) (p := []) (lpDn 116) DoS.inv DoS.mu fMO.step fMO.T 4 10 4 (fun _ => ⟨rfl, rfl⟩) ?_ ?_ s trivial
  · intro s r h hi
    exact ⟨.tt, by kernel_rfl, trivial⟩
  · exact fMO.good
noncomputable def hMO : FuncId → Hook := fun f p => if f == 113 && p == pDn then some ((lpDn 116).hk fMO.T) else none
theorem k66 : ConOk Tryz.prog 66 (con2 cSp cSp fun a b => eW (mostOr a b)) :=
  con2_ok rsa2 (Λ := hMO) 5 (fun _ _ => rfl) (fun a b => Ev.fl (g := true) (L := [LoopGoal Tryz.prog (loopAt Tryz.prog 113 pDn) (lpDn 116) fMO.T (sHi a b) 4 10 4]) (by kernel_rfl)
    (fun _ p hp => by simp only [List.mem_singleton] at hp; subst hp; exact goalMO _))
theorem goalLA (s : DoS) : LoopGoal Tryz.prog (loopAt Tryz.prog 113 pDn) (lpDn 118) fLA.T s 4 10 4 := by
  refine lp_rule (cx := ⟨Tryz.prog, tabOf sa2, inlF Tryz.prog (tabOf sa2) noHooks 2⟩) rsa2 (inlF_ok rsa2 2) (Λ := fun _ => none) (p := []) (lpDn 118) DoS.inv DoS.mu fLA.step fLA.T 4 10 4 (fun _ => ⟨rfl, rfl⟩) ?_ ?_ s trivial
  · intro s r h hi
    exact ⟨.tt, by kernel_rfl, trivial⟩
  · exact fLA.good
noncomputable def hLA : FuncId → Hook := fun f p => if f == 113 && p == pDn then some ((lpDn 118).hk fLA.T) else none
theorem k67 : ConOk Tryz.prog 67 (con2 cSp cSp fun a b => eW (leastAnd a b)) :=
  con2_ok rsa2 (Λ := hLA) 5 (fun _ _ => rfl) (fun a b => Ev.fl (g := true) (L := [LoopGoal Tryz.prog (loopAt Tryz.prog 113 pDn) (lpDn 118) fLA.T (sLo a b) 4 10 4]) (by kernel_rfl)
    (fun _ p hp => by simp only [List.mem_singleton] at hp; subst hp; exact goalLA _))
theorem goalMA (s : DoS) : LoopGoal Tryz.prog (loopAt Tryz.prog 113 pDn) (lpDn 119) fMA.T s 4 10 4 := by
  refine lp_rule (cx := ⟨Tryz.prog, tabOf sa2, inlF Tryz.prog (tabOf sa2) noHooks 2⟩) rsa2 (inlF_ok rsa2 2) (Λ := fun _ => none) (p := []) (lpDn 119) DoS.inv DoS.mu fMA.step fMA.T 4 10 4 (fun _ => ⟨rfl, rfl⟩) ?_ ?_ s trivial
  · intro s r h hi
    exact ⟨.tt, by kernel_rfl, trivial⟩
  · exact fMA.good
noncomputable def hMA : FuncId → Hook := fun f p => if f == 113 && p == pDn then some ((lpDn 119).hk fMA.T) else none
theorem k68 : ConOk Tryz.prog 68 (con2 cSp cSp fun a b => eW (mostAnd a b)) :=
  con2_ok rsa2 (Λ := hMA) 5 (fun _ _ => rfl) (fun a b => Ev.fl (g := true) (L := [LoopGoal Tryz.prog (loopAt Tryz.prog 113 pDn) (lpDn 119) fMA.T (sHi a b) 4 10 4]) (by kernel_rfl)
    (fun _ p hp => by simp only [List.mem_singleton] at hp; subst hp; exact goalMA _))
theorem goalLX (s : DoS) : LoopGoal Tryz.prog (loopAt Tryz.prog 113 pDn) (lpDn 120) fLX.T0 s 4 10 4 := by
  refine lp_rule (cx := ⟨Tryz.prog, tabOf sa2, inlF Tryz.prog (tabOf sa2) noHooks 2⟩) rsa2 (inlF_ok rsa2 2) (Λ := fun _ => none) (p := []) (lpDn 120) DoS.inv DoS.mu fLX.step0 fLX.T0 4 10 4 (fun _ => ⟨rfl, rfl⟩) ?_ ?_ s trivial
  · intro s r h hi
    exact ⟨.tt, by kernel_rfl, trivial⟩
  · exact (fLX.good0 (fun _ => rfl))
noncomputable def hLX : FuncId → Hook := fun f p => if f == 113 && p == pDn then some ((lpDn 120).hk fLX.T0) else none
theorem k70 : ConOk Tryz.prog 70 (con2 cSp cSp fun a b => eW (leastXor a b)) :=
  con2_ok rsa2 (Λ := hLX) 5 (fun _ _ => rfl) (fun a b => Ev.fl (g := true) (L := [LoopGoal Tryz.prog (loopAt Tryz.prog 113 pDn) (lpDn 120) fLX.T0 (sLo a b) 4 10 4]) (by kernel_rfl)
    (fun _ p hp => by simp only [List.mem_singleton] at hp; subst hp; exact goalLX _))
theorem goalMX (s : DoS) : LoopGoal Tryz.prog (loopAt Tryz.prog 113 pDn) (lpDn 121) fMX.T0 s 4 10 4 := by
  refine lp_rule (cx := ⟨Tryz.prog, tabOf sa2, inlF Tryz.prog (tabOf sa2) noHooks 2⟩) rsa2 (inlF_ok rsa2 2) (Λ := fun _ => none) (p := []) (lpDn 121) DoS.inv DoS.mu fMX.step0 fMX.T0 4 10 4 (fun _ => ⟨rfl, rfl⟩) ?_ ?_ s trivial
  · intro s r h hi
    exact ⟨.tt, by kernel_rfl, trivial⟩
  · exact (fMX.good0 (fun _ => rfl))
noncomputable def hMX : FuncId → Hook := fun f p => if f == 113 && p == pDn then some ((lpDn 121).hk fMX.T0) else none
theorem k71 : ConOk Tryz.prog 71 (con2 cSp cSp fun a b => eW (mostXor a b)) :=
  con2_ok rsa2 (Λ := hMX) 5 (fun _ _ => rfl) (fun a b => Ev.fl (g := true) (L := [LoopGoal Tryz.prog (loopAt Tryz.prog 113 pDn) (lpDn 121) fMX.T0 (sHi a b) 4 10 4]) (by kernel_rfl)
    (fun _ p hp => by simp only [List.mem_singleton] at hp; subst hp; exact goalMX _))
noncomputable def sa3 : List (FuncId × Con) :=
  (56, con2 T.cTn T.cTn fun a b => eB (T.isIn a b)) ::
  (65, con2 cSp cSp fun a b => eW (leastOr a b)) ::
  (66, con2 cSp cSp fun a b => eW (mostOr a b)) ::
  (67, con2 cSp cSp fun a b => eW (leastAnd a b)) ::
  (68, con2 cSp cSp fun a b => eW (mostAnd a b)) ::
  (70, con2 cSp cSp fun a b => eW (leastXor a b)) ::
  (71, con2 cSp cSp fun a b => eW (mostXor a b)) :: sa2
theorem rsa3 : TabOk Tryz.prog (tabOf sa3) := (tabOf_cons (tabOf_cons (tabOf_cons (tabOf_cons (tabOf_cons (tabOf_cons (tabOf_cons rsa2 k71) k70) k68) k67) k66) k65) k56)

end Go.Rf
