/- Scalars: the contracts of tnums and spans. -/
import Derived.Test.YtflnkcibjebdeaaPP
import Derived.Test.YtflnkcibjebdeaaTT
import Derived.Test.YtflnkcibjebdeaaProg
set_option linter.unusedVariables false
set_option linter.unusedSimpArgs false
set_option maxRecDepth 100000
namespace Go.Rf
open Go.Proofs

noncomputable def fa0 : List (FuncId × Con) := []
theorem rfa0 : TabOk Try.prog (tabOf fa0) := tabOf_nil _

theorem k86 : ConOk Try.prog 86 (con1 T.cTn fun t => eB (T.may t)) :=
  con1_ok rfa0 (Λ := noHooks) 3 (fun _ => rfl) (fun x => Ev.of (by kernel_rfl))
theorem k100 : ConOk Try.prog 100 (con2 cW cW fun v any => T.eTn (T.fit v any)) :=
  con2_ok rfa0 (Λ := noHooks) 3 (fun _ _ => rfl) (fun x y => Ev.of (by kernel_rfl))
theorem k76 : ConOk Try.prog 76 (con0 (T.eTn ⟨0, 18446744073709551615#64⟩)) :=
  con0_ok rfa0 (Λ := noHooks) 3 rfl (Ev.of (by kernel_rfl))
theorem k87 : ConOk Try.prog 87 (con1 cSp fun s => eB (mayS s)) :=
  con1_ok rfa0 (Λ := noHooks) 3 (fun _ => rfl) (fun x => Ev.of (by kernel_rfl))
theorem k71 : ConOk Try.prog 71 (con2 cSp cW fun s n => eB (hasS s n)) :=
  con2_ok rfa0 (Λ := noHooks) 3 (fun _ _ => rfl) (fun x y => Ev.of (by kernel_rfl))
theorem k77 : ConOk Try.prog 77 (con0 (eSp allS)) :=
  con0_ok rfa0 (Λ := noHooks) 3 rfl (Ev.of (by kernel_rfl))
theorem k102 : ConOk Try.prog 102 (con1 cW fun x => eI (T.lenW x)) :=
  con1_ok rfa0 (Λ := noHooks) 5 (fun _ => rfl) (fun x => Ev.fl (g := true) (L := [T.tabOb (T.shrW (T.shrW (T.shrW x 32) 16) 8), T.tabOb (T.shrW (T.shrW x 32) 16), T.tabOb (T.shrW (T.shrW x 32) 8), T.tabOb (T.shrW x 32), T.tabOb (T.shrW (T.shrW x 16) 8), T.tabOb (T.shrW x 16), T.tabOb (T.shrW x 8), T.tabOb x]) (by kernel_rfl)
    (fun _ p hp => by
      simp only [List.mem_cons, List.not_mem_nil, or_false] at hp
      rcases hp with rfl | rfl | rfl | rfl | rfl | rfl | rfl | rfl <;> exact T.tabOb_holds _))
noncomputable def fa1 : List (FuncId × Con) :=
  (86, con1 T.cTn fun t => eB (T.may t)) ::
  (100, con2 cW cW fun v any => T.eTn (T.fit v any)) ::
  (76, con0 (T.eTn ⟨0, 18446744073709551615#64⟩)) ::
  (87, con1 cSp fun s => eB (mayS s)) ::
  (71, con2 cSp cW fun s n => eB (hasS s n)) ::
  (77, con0 (eSp allS)) ::
  (102, con1 cW fun x => eI (T.lenW x)) :: fa0
theorem rfa1 : TabOk Try.prog (tabOf fa1) := (tabOf_cons (tabOf_cons (tabOf_cons (tabOf_cons (tabOf_cons (tabOf_cons (tabOf_cons rfa0 k102) k77) k71) k87) k76) k100) k86)

theorem k70 : ConOk Try.prog 70 (con2 T.cTn cW fun t n => eB (T.has t n)) :=
  con2_ok rfa1 (Λ := noHooks) 3 (fun _ _ => rfl) (fun x y => Ev.of (by kernel_rfl))
theorem k90 : ConOk Try.prog 90 (con2 T.cTn T.cTn fun a b => T.resTB (T.noMeet a b) (T.tMeet a b)) :=
  con2_ok rfa1 (Λ := noHooks) 4 (fun _ _ => rfl) (fun x y => Ev.of (by kernel_rfl))
theorem k82 : ConOk Try.prog 82 (con2 T.cTn T.cTn fun a b => T.resTE (T.bad2 a b) (T.tJoin a b)) :=
  con2_ok rfa1 (Λ := noHooks) 4 (fun _ _ => rfl) (fun x y => Ev.of (by kernel_rfl))
theorem k89 : ConOk Try.prog 89 (con2 cW cW fun lo hi => T.resTE (T.badRg lo hi) (T.rgT lo hi)) :=
  con2_ok rfa1 (Λ := noHooks) 5 (fun _ _ => rfl) (fun x y => Ev.of (by kernel_rfl))
theorem k88 : ConOk Try.prog 88 (con2 cSp cSp fun a b => resSB (noMeetS a b) (meetS a b)) :=
  con2_ok rfa1 (Λ := noHooks) 3 (fun _ _ => rfl) (fun x y => Ev.of (by kernel_rfl))
theorem k75 : ConOk Try.prog 75 (con2 cSp cSp fun a b => eB (inS a b)) :=
  con2_ok rfa1 (Λ := noHooks) 3 (fun _ _ => rfl) (fun x y => Ev.of (by kernel_rfl))
theorem k83 : ConOk Try.prog 83 (con2 cSp cSp fun a b => eSp (joinS a b)) :=
  con2_ok rfa1 (Λ := noHooks) 3 (fun _ _ => rfl) (fun x y => Ev.of (by kernel_rfl))
noncomputable def fa2 : List (FuncId × Con) :=
  (70, con2 T.cTn cW fun t n => eB (T.has t n)) ::
  (90, con2 T.cTn T.cTn fun a b => T.resTB (T.noMeet a b) (T.tMeet a b)) ::
  (82, con2 T.cTn T.cTn fun a b => T.resTE (T.bad2 a b) (T.tJoin a b)) ::
  (89, con2 cW cW fun lo hi => T.resTE (T.badRg lo hi) (T.rgT lo hi)) ::
  (88, con2 cSp cSp fun a b => resSB (noMeetS a b) (meetS a b)) ::
  (75, con2 cSp cSp fun a b => eB (inS a b)) ::
  (83, con2 cSp cSp fun a b => eSp (joinS a b)) :: fa1
theorem rfa2 : TabOk Try.prog (tabOf fa2) := (tabOf_cons (tabOf_cons (tabOf_cons (tabOf_cons (tabOf_cons (tabOf_cons (tabOf_cons rfa1 k83) k75) k88) k89) k82) k90) k70)

theorem k74 : ConOk Try.prog 74 (con2 T.cTn T.cTn fun a b => eB (T.isIn a b)) :=
  con2_ok rfa2 (Λ := noHooks) 4 (fun _ _ => rfl) (fun x y => Ev.of (by kernel_rfl))
noncomputable def fa3 : List (FuncId × Con) :=
  (74, con2 T.cTn T.cTn fun a b => eB (T.isIn a b)) :: fa2
theorem rfa3 : TabOk Try.prog (tabOf fa3) := (tabOf_cons rfa2 k74)

end Go.Rf
