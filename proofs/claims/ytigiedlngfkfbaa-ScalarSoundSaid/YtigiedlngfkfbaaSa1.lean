/- Scalars: the contracts of tnums and spans. -/
import Derived.Test.YtigiedlngfkfbaaPP
import Derived.Test.YtigiedlngfkfbaaTT
import Derived.Test.YtigiedlngfkfbaaProg
set_option linter.unusedVariables false
set_option linter.unusedSimpArgs false
set_option maxRecDepth 100000
namespace Go.Rf
open Go.Proofs

noncomputable def sa0 : List (FuncId × Con) := []
theorem rsa0 : TabOk Try.prog (tabOf sa0) := tabOf_nil _

theorem k44 : ConOk Try.prog 44 (con1 T.cTn fun t => eB (T.may t)) :=
  con1_ok rsa0 (Λ := noHooks) 3 (fun _ => rfl) (fun x => Ev.of (by kernel_rfl))
theorem k75 : ConOk Try.prog 75 (con2 cW cW fun v any => T.eTn (T.fit v any)) :=
  con2_ok rsa0 (Λ := noHooks) 3 (fun _ _ => rfl) (fun x y => Ev.of (by kernel_rfl))
theorem k58 : ConOk Try.prog 58 (con1 cW fun v => T.eTn ⟨v, 0⟩) :=
  con1_ok rsa0 (Λ := noHooks) 3 (fun _ => rfl) (fun x => Ev.of (by kernel_rfl))
theorem k56 : ConOk Try.prog 56 (con0 (T.eTn ⟨0, 18446744073709551615#64⟩)) :=
  con0_ok rsa0 (Λ := noHooks) 3 rfl (Ev.of (by kernel_rfl))
theorem k45 : ConOk Try.prog 45 (con1 cSp fun s => eB (mayS s)) :=
  con1_ok rsa0 (Λ := noHooks) 3 (fun _ => rfl) (fun x => Ev.of (by kernel_rfl))
theorem k50 : ConOk Try.prog 50 (con2 cSp cW fun s n => eB (hasS s n)) :=
  con2_ok rsa0 (Λ := noHooks) 3 (fun _ _ => rfl) (fun x y => Ev.of (by kernel_rfl))
theorem k57 : ConOk Try.prog 57 (con0 (eSp allS)) :=
  con0_ok rsa0 (Λ := noHooks) 3 rfl (Ev.of (by kernel_rfl))
theorem k59 : ConOk Try.prog 59 (con1 cW fun n => eSp (ofS n)) :=
  con1_ok rsa0 (Λ := noHooks) 3 (fun _ => rfl) (fun x => Ev.of (by kernel_rfl))
theorem k112 : ConOk Try.prog 112 (con2 cW cW fun x m => eW (upW x m)) :=
  con2_ok rsa0 (Λ := noHooks) 3 (fun _ _ => rfl) (fun x y => Ev.of (by kernel_rfl))
theorem k114 : ConOk Try.prog 114 (con2 cW cW fun x m => eW (wiW x m)) :=
  con2_ok rsa0 (Λ := noHooks) 3 (fun _ _ => rfl) (fun x y => Ev.of (by kernel_rfl))
theorem k74 : ConOk Try.prog 74 (con1 cW fun x => eI (T.lenW x)) :=
  con1_ok rsa0 (Λ := noHooks) 5 (fun _ => rfl) (fun x => Ev.fl (g := true) (L := [T.tabOb (T.shrW (T.shrW (T.shrW x 32) 16) 8), T.tabOb (T.shrW (T.shrW x 32) 16), T.tabOb (T.shrW (T.shrW x 32) 8), T.tabOb (T.shrW x 32), T.tabOb (T.shrW (T.shrW x 16) 8), T.tabOb (T.shrW x 16), T.tabOb (T.shrW x 8), T.tabOb x]) (by kernel_rfl)
    (fun _ p hp => by
      simp only [List.mem_cons, List.not_mem_nil, or_false] at hp
      rcases hp with rfl | rfl | rfl | rfl | rfl | rfl | rfl | rfl <;> exact T.tabOb_holds _))
noncomputable def sa1 : List (FuncId × Con) :=
  (44, con1 T.cTn fun t => eB (T.may t)) ::
  (75, con2 cW cW fun v any => T.eTn (T.fit v any)) ::
  (58, con1 cW fun v => T.eTn ⟨v, 0⟩) ::
  (56, con0 (T.eTn ⟨0, 18446744073709551615#64⟩)) ::
  (45, con1 cSp fun s => eB (mayS s)) ::
  (50, con2 cSp cW fun s n => eB (hasS s n)) ::
  (57, con0 (eSp allS)) ::
  (59, con1 cW fun n => eSp (ofS n)) ::
  (112, con2 cW cW fun x m => eW (upW x m)) ::
  (114, con2 cW cW fun x m => eW (wiW x m)) ::
  (74, con1 cW fun x => eI (T.lenW x)) :: sa0
theorem rsa1 : TabOk Try.prog (tabOf sa1) := (tabOf_cons (tabOf_cons (tabOf_cons (tabOf_cons (tabOf_cons (tabOf_cons (tabOf_cons (tabOf_cons (tabOf_cons (tabOf_cons (tabOf_cons rsa0 k74) k114) k112) k59) k57) k50) k45) k56) k58) k75) k44)

theorem k49 : ConOk Try.prog 49 (con2 T.cTn cW fun t n => eB (T.has t n)) :=
  con2_ok rsa1 (Λ := noHooks) 3 (fun _ _ => rfl) (fun x y => Ev.of (by kernel_rfl))
theorem k48 : ConOk Try.prog 48 (con2 T.cTn T.cTn fun a b => T.resTB (T.noMeet a b) (T.tMeet a b)) :=
  con2_ok rsa1 (Λ := noHooks) 4 (fun _ _ => rfl) (fun x y => Ev.of (by kernel_rfl))
theorem k63 : ConOk Try.prog 63 (con2 T.cTn T.cTn fun a b => T.resTE (T.bad2 a b) (T.tJoin a b)) :=
  con2_ok rsa1 (Λ := noHooks) 4 (fun _ _ => rfl) (fun x y => Ev.of (by kernel_rfl))
theorem k97 : ConOk Try.prog 97 (con2 T.cTn T.cTn fun a b => T.resTE (T.bad2 a b) (T.tAnd a b)) :=
  con2_ok rsa1 (Λ := noHooks) 4 (fun _ _ => rfl) (fun x y => Ev.of (by kernel_rfl))
theorem k47 : ConOk Try.prog 47 (con2 cW cW fun lo hi => T.resTE (T.badRg lo hi) (T.rgT lo hi)) :=
  con2_ok rsa1 (Λ := noHooks) 5 (fun _ _ => rfl) (fun x y => Ev.of (by kernel_rfl))
theorem k46 : ConOk Try.prog 46 (con2 cSp cSp fun a b => resSB (noMeetS a b) (meetS a b)) :=
  con2_ok rsa1 (Λ := noHooks) 3 (fun _ _ => rfl) (fun x y => Ev.of (by kernel_rfl))
theorem k62 : ConOk Try.prog 62 (con2 cSp cSp fun a b => eB (inS a b)) :=
  con2_ok rsa1 (Λ := noHooks) 3 (fun _ _ => rfl) (fun x y => Ev.of (by kernel_rfl))
theorem k64 : ConOk Try.prog 64 (con2 cSp cSp fun a b => eSp (joinS a b)) :=
  con2_ok rsa1 (Λ := noHooks) 3 (fun _ _ => rfl) (fun x y => Ev.of (by kernel_rfl))
theorem k80 : ConOk Try.prog 80 (con2 cSp cI fun s n => eSp (cutS s n)) :=
  con2_ok rsa1 (Λ := noHooks) 6 (fun _ _ => rfl) (fun s n => Ev.fl (g := !(!mayS s || cutN n == 64#64)) (L := [0 ≤ toZ .i64 (cutN n), 0 ≤ toZ .i64 (cutN n), 0 ≤ toZ .i64 (cutN n)]) (by kernel_rfl)
    (fun _ p hp => by simp only [List.mem_cons, List.not_mem_nil, or_false, or_self] at hp; subst hp; exact cutN_pos n))
noncomputable def sa2 : List (FuncId × Con) :=
  (49, con2 T.cTn cW fun t n => eB (T.has t n)) ::
  (48, con2 T.cTn T.cTn fun a b => T.resTB (T.noMeet a b) (T.tMeet a b)) ::
  (63, con2 T.cTn T.cTn fun a b => T.resTE (T.bad2 a b) (T.tJoin a b)) ::
  (97, con2 T.cTn T.cTn fun a b => T.resTE (T.bad2 a b) (T.tAnd a b)) ::
  (47, con2 cW cW fun lo hi => T.resTE (T.badRg lo hi) (T.rgT lo hi)) ::
  (46, con2 cSp cSp fun a b => resSB (noMeetS a b) (meetS a b)) ::
  (62, con2 cSp cSp fun a b => eB (inS a b)) ::
  (64, con2 cSp cSp fun a b => eSp (joinS a b)) ::
  (80, con2 cSp cI fun s n => eSp (cutS s n)) :: sa1
theorem rsa2 : TabOk Try.prog (tabOf sa2) := (tabOf_cons (tabOf_cons (tabOf_cons (tabOf_cons (tabOf_cons (tabOf_cons (tabOf_cons (tabOf_cons (tabOf_cons rsa1 k80) k64) k62) k46) k47) k97) k63) k48) k49)

theorem k61 : ConOk Try.prog 61 (con2 T.cTn T.cTn fun a b => eB (T.isIn a b)) :=
  con2_ok rsa2 (Λ := noHooks) 4 (fun _ _ => rfl) (fun x y => Ev.of (by kernel_rfl))

noncomputable def lpDn (f : FuncId) : Lp DoS where
  keys := [0, 2]
  names := [0, 1, 2, 3]
  scr := wrAt Try.prog 110 pDn
  vals s := [.fn f (.cons (.ptr 2 []) (.cons (.ptr 3 []) (.cons (.ptr 0 []) (.cons (.ptr 1 []) .nil)))), eW s.m]
  blks s := [⟨26, eSp s.a⟩, ⟨26, eSp s.b⟩, ⟨22, eW s.x⟩, ⟨22, eW s.y⟩]
  dec vs bs := match vs, bs with
    | [_, m], [⟨_, a⟩, ⟨_, b⟩, ⟨_, x⟩, ⟨_, y⟩] => match cW.dec m, cSp.dec a, cSp.dec b, cW.dec x, cW.dec y with
      | some m, some a, some b, some x, some y => some ⟨a, b, x, y, m⟩
      | _, _, _, _, _ => none
    | _, _ => none

theorem goalLO (s : DoS) : LoopGoal Try.prog (loopAt Try.prog 110 pDn) (lpDn 111) fLO.T s 4 10 4 := by
  refine lp_rule (cx := ⟨Try.prog, tabOf sa2, inlF Try.prog (tabOf sa2) noHooks 2⟩) rsa2 (inlF_ok rsa2 2) (Λ := fun _ => none) (p := []) (lpDn 111) DoS.inv DoS.mu fLO.step fLO.T 4 10 4 (fun _ => ⟨rfl, rfl⟩) ?_ ?_ s trivial
  · intro s r h hi
    exact ⟨.tt, by kernel_rfl, trivial⟩
  · exact fLO.good
noncomputable def hLO : FuncId → Hook := fun f p => if f == 110 && p == pDn then some ((lpDn 111).hk fLO.T) else none
theorem k85 : ConOk Try.prog 85 (con2 cSp cSp fun a b => eW (leastOr a b)) :=
  con2_ok rsa2 (Λ := hLO) 5 (fun _ _ => rfl) (fun a b => Ev.fl (g := true) (L := [LoopGoal Try.prog (loopAt Try.prog 110 pDn) (lpDn 111) fLO.T (sLo a b) 4 10 4]) (by kernel_rfl)
    (fun _ p hp => by simp only [List.mem_singleton] at hp; subst hp; exact goalLO _))
theorem goalMO (s : DoS) : LoopGoal Try.prog (loopAt Try.prog 110 pDn) (lpDn 113) fMO.T s 4 10 4 := by
  refine lp_rule (cx := ⟨Try.prog, tabOf sa2, inlF Try.prog (tabOf sa2) noHooks 2⟩) rsa2 (inlF_ok rsa2 2) (Λ := fun _ => none) (p := []) (lpDn 113) DoS.inv DoS.mu fMO.step fMO.T 4 10 4 (fun _ => ⟨rfl, rfl⟩) ?_ ?_ s trivial
  · intro s r h hi
    exact ⟨.tt, by kernel_rfl, trivial⟩
  · exact fMO.good
noncomputable def hMO : FuncId → Hook := fun f p => if f == 110 && p == pDn then some ((lpDn 113).hk fMO.T) else none
theorem k86 : ConOk Try.prog 86 (con2 cSp cSp fun a b => eW (mostOr a b)) :=
  con2_ok rsa2 (Λ := hMO) 5 (fun _ _ => rfl) (fun a b => Ev.fl (g := true) (L := [LoopGoal Try.prog (loopAt Try.prog 110 pDn) (lpDn 113) fMO.T (sHi a b) 4 10 4]) (by kernel_rfl)
    (fun _ p hp => by simp only [List.mem_singleton] at hp; subst hp; exact goalMO _))
theorem goalLA (s : DoS) : LoopGoal Try.prog (loopAt Try.prog 110 pDn) (lpDn 115) fLA.T s 4 10 4 := by
  refine lp_rule (cx := ⟨Try.prog, tabOf sa2, inlF Try.prog (tabOf sa2) noHooks 2⟩) rsa2 (inlF_ok rsa2 2) (Λ := fun _ => none) (p := []) (lpDn 115) DoS.inv DoS.mu fLA.step fLA.T 4 10 4 (fun _ => ⟨rfl, rfl⟩) ?_ ?_ s trivial
  · intro s r h hi
    exact ⟨.tt, by kernel_rfl, trivial⟩
  · exact fLA.good
noncomputable def hLA : FuncId → Hook := fun f p => if f == 110 && p == pDn then some ((lpDn 115).hk fLA.T) else none
theorem k87 : ConOk Try.prog 87 (con2 cSp cSp fun a b => eW (leastAnd a b)) :=
  con2_ok rsa2 (Λ := hLA) 5 (fun _ _ => rfl) (fun a b => Ev.fl (g := true) (L := [LoopGoal Try.prog (loopAt Try.prog 110 pDn) (lpDn 115) fLA.T (sLo a b) 4 10 4]) (by kernel_rfl)
    (fun _ p hp => by simp only [List.mem_singleton] at hp; subst hp; exact goalLA _))
theorem goalMA (s : DoS) : LoopGoal Try.prog (loopAt Try.prog 110 pDn) (lpDn 116) fMA.T s 4 10 4 := by
  refine lp_rule (cx := ⟨Try.prog, tabOf sa2, inlF Try.prog (tabOf sa2) noHooks 2⟩) rsa2 (inlF_ok rsa2 2) (Λ := fun _ => none) (p := []) (lpDn 116) DoS.inv DoS.mu fMA.step fMA.T 4 10 4 (fun _ => ⟨rfl, rfl⟩) ?_ ?_ s trivial
  · intro s r h hi
    exact ⟨.tt, by kernel_rfl, trivial⟩
  · exact fMA.good
noncomputable def hMA : FuncId → Hook := fun f p => if f == 110 && p == pDn then some ((lpDn 116).hk fMA.T) else none
theorem k88 : ConOk Try.prog 88 (con2 cSp cSp fun a b => eW (mostAnd a b)) :=
  con2_ok rsa2 (Λ := hMA) 5 (fun _ _ => rfl) (fun a b => Ev.fl (g := true) (L := [LoopGoal Try.prog (loopAt Try.prog 110 pDn) (lpDn 116) fMA.T (sHi a b) 4 10 4]) (by kernel_rfl)
    (fun _ p hp => by simp only [List.mem_singleton] at hp; subst hp; exact goalMA _))
theorem goalLX (s : DoS) : LoopGoal Try.prog (loopAt Try.prog 110 pDn) (lpDn 117) fLX.T0 s 4 10 4 := by
  refine lp_rule (cx := ⟨Try.prog, tabOf sa2, inlF Try.prog (tabOf sa2) noHooks 2⟩) rsa2 (inlF_ok rsa2 2) (Λ := fun _ => none) (p := []) (lpDn 117) DoS.inv DoS.mu fLX.step0 fLX.T0 4 10 4 (fun _ => ⟨rfl, rfl⟩) ?_ ?_ s trivial
  · intro s r h hi
    exact ⟨.tt, by kernel_rfl, trivial⟩
  · exact (fLX.good0 (fun _ => rfl))
noncomputable def hLX : FuncId → Hook := fun f p => if f == 110 && p == pDn then some ((lpDn 117).hk fLX.T0) else none
theorem k90 : ConOk Try.prog 90 (con2 cSp cSp fun a b => eW (leastXor a b)) :=
  con2_ok rsa2 (Λ := hLX) 5 (fun _ _ => rfl) (fun a b => Ev.fl (g := true) (L := [LoopGoal Try.prog (loopAt Try.prog 110 pDn) (lpDn 117) fLX.T0 (sLo a b) 4 10 4]) (by kernel_rfl)
    (fun _ p hp => by simp only [List.mem_singleton] at hp; subst hp; exact goalLX _))
theorem goalMX (s : DoS) : LoopGoal Try.prog (loopAt Try.prog 110 pDn) (lpDn 118) fMX.T0 s 4 10 4 := by
  refine lp_rule (cx := ⟨Try.prog, tabOf sa2, inlF Try.prog (tabOf sa2) noHooks 2⟩) rsa2 (inlF_ok rsa2 2) (Λ := fun _ => none) (p := []) (lpDn 118) DoS.inv DoS.mu fMX.step0 fMX.T0 4 10 4 (fun _ => ⟨rfl, rfl⟩) ?_ ?_ s trivial
  · intro s r h hi
    exact ⟨.tt, by kernel_rfl, trivial⟩
  · exact (fMX.good0 (fun _ => rfl))
noncomputable def hMX : FuncId → Hook := fun f p => if f == 110 && p == pDn then some ((lpDn 118).hk fMX.T0) else none
theorem k91 : ConOk Try.prog 91 (con2 cSp cSp fun a b => eW (mostXor a b)) :=
  con2_ok rsa2 (Λ := hMX) 5 (fun _ _ => rfl) (fun a b => Ev.fl (g := true) (L := [LoopGoal Try.prog (loopAt Try.prog 110 pDn) (lpDn 118) fMX.T0 (sHi a b) 4 10 4]) (by kernel_rfl)
    (fun _ p hp => by simp only [List.mem_singleton] at hp; subst hp; exact goalMX _))
noncomputable def sa3 : List (FuncId × Con) :=
  (61, con2 T.cTn T.cTn fun a b => eB (T.isIn a b)) ::
  (85, con2 cSp cSp fun a b => eW (leastOr a b)) ::
  (86, con2 cSp cSp fun a b => eW (mostOr a b)) ::
  (87, con2 cSp cSp fun a b => eW (leastAnd a b)) ::
  (88, con2 cSp cSp fun a b => eW (mostAnd a b)) ::
  (90, con2 cSp cSp fun a b => eW (leastXor a b)) ::
  (91, con2 cSp cSp fun a b => eW (mostXor a b)) :: sa2
theorem rsa3 : TabOk Try.prog (tabOf sa3) := (tabOf_cons (tabOf_cons (tabOf_cons (tabOf_cons (tabOf_cons (tabOf_cons (tabOf_cons rsa2 k91) k90) k88) k87) k86) k85) k61)

end Go.Rf
