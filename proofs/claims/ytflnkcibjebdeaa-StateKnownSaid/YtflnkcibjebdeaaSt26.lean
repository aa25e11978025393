/- States: the statements, evaluated. -/
import Derived.Test.YtflnkcibjebdeaaStr
import Derived.Test.YtflnkcibjebdeaaSt25
set_option linter.unusedVariables false
set_option linter.unusedSimpArgs false
set_option maxRecDepth 100000
namespace Go.Rf
open Go.Proofs
def eqSlt (a b : Slt) : Bool := a.h == b.h && eqReg a.r b.r
def eqSta (a b : Sta) : Bool := (List.range 11).all (fun i => eqReg (a.regs i) (b.regs i)) && ((List.range 64).all (fun i => eqSlt (a.stk i) (b.stk i)) && a.pk == b.pk)
theorem eqSta_self (a : Sta) : eqSta a a = true := by
  unfold eqSta
  simp only [Bool.and_eq_true, List.all_eq_true, beq_self_eq_true, and_true]
  exact ⟨fun i _ => eqReg_self _, fun i _ => by unfold eqSlt; rw [eqReg_self]; simp⟩
noncomputable def lawMay (s : Sta) : Bool := (maySta s == maySta s && eqSta beginS beginS) && true
theorem ev3 (s : Sta) : Ev Try.prog (tabOf sv12) noHooks 8 3 [eSta s] (eB true) := by
  have h : Ev Try.prog (tabOf sv12) noHooks 8 3 [eSta s] (eB (lawMay s)) := Ev.of (by kernel_rfl)
  have e : lawMay s = true := by unfold lawMay; rw [eqSta_self]; simp
  rwa [e] at h
noncomputable def lawHolds (s : Sta) (v : Vw) : Bool := holdsSt s v == holdsSt s v && true
theorem ev4 (s : Sta) (v : Vw) : Ev Try.prog (tabOf sv12) noHooks 8 4 [eSta s, eVw v] (eB true) := by
  have h : Ev Try.prog (tabOf sv12) noHooks 8 4 [eSta s, eVw v] (eB (lawHolds s v)) := Ev.of (by kernel_rfl)
  have e : lawHolds s v = true := by unfold lawHolds; simp
  rwa [e] at h
noncomputable def lawIn (s v : Sta) : Bool := inSt s v == inSt s v && true
theorem ev5 (s v : Sta) : Ev Try.prog (tabOf sv12) noHooks 8 5 [eSta s, eSta v] (eB true) := by
  have h : Ev Try.prog (tabOf sv12) noHooks 8 5 [eSta s, eSta v] (eB (lawIn s v)) := Ev.of (by kernel_rfl)
  have e : lawIn s v = true := by unfold lawIn; simp
  rwa [e] at h
noncomputable def lawJoin (s v : Sta) : Bool := eqSta (joinSt s v) (joinSt s v) && true
theorem ev6 (s v : Sta) : Ev Try.prog (tabOf sv12) noHooks 8 6 [eSta s, eSta v] (eB true) := by
  have h : Ev Try.prog (tabOf sv12) noHooks 8 6 [eSta s, eSta v] (eB (lawJoin s v)) := Ev.of (by kernel_rfl)
  have e : lawJoin s v = true := by unfold lawJoin; rw [eqSta_self]; rfl
  rwa [e] at h
noncomputable def lawSound (a b : Sta) (v : Vw) : Bool :=
  bif holdsSt a v && !maySta a then false else bif holdsSt a v && inSt a b && !holdsSt b v then false else
  bif holdsSt a v && maySta b && (!holdsSt (joinSt a b) v || !holdsSt (joinSt b a) v) then false else true
theorem lawSound_true (a b : Sta) (v : Vw) : lawSound a b v = true := by
  unfold lawSound
  cases h : holdsSt a v with
  | false => rfl
  | true =>
    have ha := (holds_iff.1 h).1
    have e1 : (inSt a b && !holdsSt b v) = false := by
      cases h2 : inSt a b with
      | false => rfl
      | true => rw [st_holds h h2]; rfl
    have e2 : (maySta b && (!holdsSt (joinSt a b) v || !holdsSt (joinSt b a) v)) = false := by
      cases h2 : maySta b with
      | false => rfl
      | true => rw [st_holds h (st_join ha h2).2.1, st_holds h (st_join h2 ha).2.2]; rfl
    rw [ha]
    simp only [Bool.true_and, Bool.not_true, Bool.and_assoc, e1, e2]; rfl
theorem ev7 (a b : Sta) (v : Vw) : Ev Try.prog (tabOf sv12) noHooks 8 7 [eSta a, eSta b, eVw v] (eB true) := by
  have h : Ev Try.prog (tabOf sv12) noHooks 8 7 [eSta a, eSta b, eVw v] (eB (lawSound a b v)) := Ev.of (by kernel_rfl)
  rwa [lawSound_true] at h
noncomputable def lawOrder (a b c : Sta) : Bool :=
  bif inSt a a != maySta a then false else bif inSt a b && inSt b c && !inSt a c then false else
  bif !maySta a || !maySta b then eqSta (joinSt a b) nilSta && !inSt a b && true else
  bif !maySta (joinSt a b) || !inSt a (joinSt a b) || !inSt b (joinSt a b) then false else
  bif inSt a c && inSt b c && !inSt (joinSt a b) c then false else
  bif inSt a b && !inSt (joinSt a b) b then false else true
theorem ev8 (a b c : Sta) : Ev Try.prog (tabOf sv12) noHooks 8 8 [eSta a, eSta b, eSta c] (eB true) := by
  have h : Ev Try.prog (tabOf sv12) noHooks 8 8 [eSta a, eSta b, eSta c] (eB (lawOrder a b c)) := Ev.of (by kernel_rfl)
  have e : lawOrder a b c = true := by
    unfold lawOrder
    rw [st_self]
    have e1 : (inSt a b && inSt b c && !inSt a c) = false := by
      cases h1 : inSt a b with
      | false => rfl
      | true => cases h2 : inSt b c with
        | false => rfl
        | true => rw [st_trans h1 h2]; rfl
    rw [e1]
    cases ha : maySta a with
    | false =>
      have ej : joinSt a b = nilSta := by unfold joinSt badJ; rw [ha]; rfl
      have ei : inSt a b = false := by unfold inSt; rw [ha]; rfl
      rw [ej, ei, eqSta_self]; rfl
    | true => cases hb : maySta b with
      | false =>
        have ej : joinSt a b = nilSta := by unfold joinSt badJ; rw [ha, hb]; rfl
        have ei : inSt a b = false := by unfold inSt; rw [ha, hb]; rfl
        rw [ej, ei, eqSta_self]; rfl
      | true =>
        obtain ⟨j0, j1, j2⟩ := st_join ha hb
        have e2 : (inSt a c && inSt b c && !inSt (joinSt a b) c) = false := by
          cases h1 : inSt a c with
          | false => rfl
          | true => cases h2 : inSt b c with
            | false => rfl
            | true => rw [st_least h1 h2]; rfl
        have e3 : (inSt a b && !inSt (joinSt a b) b) = false := by
          cases h1 : inSt a b with
          | false => rfl
          | true => rw [st_least h1 (by rw [st_self]; exact hb)]; rfl
        rw [j0, j1, j2, e2, e3]; rfl
  rwa [e] at h

noncomputable def lawBegin (v : Vw) : Bool := (holdsSt beginS v == ((eqVal (v.regs 1) vl1 && eqVal (v.regs 10) (vl10 512#64)) && holdsSt nilSta v)) && true
def obs9 : List Prop := [1 < 11, 10 < 11]
theorem ev9a (v : Vw) : (fl (evalN Try.prog (tabOf sv12) noHooks 8 9 [eVw v])).map (fun y => y.1) = some (eB (lawBegin v)) := by kernel_rfl
theorem ev9b (v : Vw) : (fl (evalN Try.prog (tabOf sv12) noHooks 8 9 [eVw v])).map (fun y => y.2.2) = some obs9 := by kernel_rfl
theorem beg_may : maySta beginS = true := by
  rw [may_iff]
  refine ⟨fun i hi => mayR_ok.2 ?_, fun i hi => known_of .none (.inl rfl), le00, by decide⟩
  show RegOk (if i = 10 then rg10 512#64 512#64 else if i = 1 then rg1 else nilR)
  split
  · exact .frame _ _ (by decide)
  · split
    · exact .ctx
    · exact .none
theorem nil_may : maySta nilSta = true := by
  rw [may_iff]
  exact ⟨fun i hi => mayR_ok.2 .none, fun i hi => known_of .none (.inl rfl), le00, by decide⟩
theorem begin_holds (v : Vw) : holdsSt beginS v = true ↔ (v.regs 1 = vl1 ∧ v.regs 10 = vl10 512#64) ∧ holdsSt nilSta v = true := by
  rw [holds_iff, holds_iff]
  constructor
  · rintro ⟨_, f, p0, p1, r, b⟩
    have r1 := r 1 (by decide)
    have r10 := r 10 (by decide)
    refine ⟨⟨?_, ?_⟩, nil_may, f, p0, p1, fun i hi => ⟨(r i hi).1, rfl⟩, fun i hi => rfl⟩
    · have h : holdsR rg1 (v.regs 1) v.pk = true := r1.2
      have ho := mayV_ok.1 r1.1
      generalize v.regs 1 = x at h ho
      cases ho <;> simp [holdsR, rg1, bne, eq0_le] at h
      subst h; rfl
    · have h : holdsR (rg10 512#64 512#64) (v.regs 10) v.pk = true := r10.2
      have ho := mayV_ok.1 r10.1
      generalize v.regs 10 = x at h ho
      cases ho <;> simp [holdsR, rg10, bne] at h
      rename_i o
      have : o = 512#64 := by
        rw [leI, leI, decide_eq_true_eq, decide_eq_true_eq] at h
        exact BitVec.eq_of_toInt_eq (by omega)
      subst this; rfl
  · rintro ⟨⟨e1, e10⟩, _, f, p0, p1, r, b⟩
    refine ⟨beg_may, f, p0, p1, fun i hi => ⟨(r i hi).1, ?_⟩, fun i hi => rfl⟩
    show holdsR (if i = 10 then rg10 512#64 512#64 else if i = 1 then rg1 else nilR) (v.regs i) v.pk = true
    by_cases h10 : i = 10
    · subst h10; rw [e10]; rfl
    · by_cases h1 : i = 1
      · subst h1; rw [e1]; rfl
      · rw [if_neg h10, if_neg h1]; rfl
theorem lawBegin_true (v : Vw) : lawBegin v = true := by
  unfold lawBegin
  rw [Bool.and_true, beq_iff_eq, Bool.eq_iff_iff, begin_holds, Bool.and_eq_true, Bool.and_eq_true, eqVal_iff, eqVal_iff]
theorem ev9 (v : Vw) : Ev Try.prog (tabOf sv12) noHooks 8 9 [eVw v] (eB true) := by
  have h1 := ev9a v
  have h2 := ev9b v
  cases e : fl (evalN Try.prog (tabOf sv12) noHooks 8 9 [eVw v]) with
  | none => rw [e] at h1; cases h1
  | some x =>
    obtain ⟨r, g, L⟩ := x
    rw [e] at h1 h2
    simp only [Option.map_some, Option.some.injEq] at h1 h2
    subst h1 h2
    rw [lawBegin_true] at e
    refine Ev.fl e (fun _ p hp => ?_)
    simp only [obs9, List.mem_cons, List.not_mem_nil, or_false] at hp
    rcases hp with rfl | rfl <;> decide
end Go.Rf
