/- States: the contracts of In and Holds. -/
import Derived.Test.YtflnkcibjebdeaaSt15
set_option linter.unusedVariables false
set_option linter.unusedSimpArgs false
set_option maxRecDepth 100000
namespace Go.Rf
open Go.Proofs
noncomputable def inSP (x y : Slt) : Bool :=
  bif y.r.k == 0#8 then (bif AL.hit 8 fIs ⟨(x, y), 0#64⟩ then false else true) else
  bif x.r.k == 0#8 then x.h == 255#8 && y.r.k == 1#8 && !y.r.ln && eqC y.r.s allC else inRD x.r y.r
noncomputable def inSt (a b : Sta) : Bool := maySta a && maySta b && leB .i64 b.pk a.pk && allN (fun i => inR (a.regs i) (b.regs i)) 11 && allN (fun i => coversS (a.stk i) (b.stk i)) 64
noncomputable def holdsSt (a : Sta) (v : Vw) : Bool :=
  maySta a && rightF v.fr && leB .i64 a.pk v.pk && leB .i64 v.pk 65535#64 && allN (fun i => mayV (v.regs i) && holdsR (a.regs i) (v.regs i) v.pk) 11 && allN (fun i => bytesS (a.stk i) (v.fr i) v.pk) 64
noncomputable def inStP (a b : Sta) : Bool :=
  bif !maySta a || !maySta b || ltB .i64 a.pk b.pk then false else bif AL.hit 11 fIa ⟨(a, b), 0#64⟩ then false else bif AL.hit 64 fIb ⟨(a, b), 0#64⟩ then false else true
noncomputable def holdsStP (a : Sta) (v : Vw) : Bool :=
  bif !maySta a || !rightF v.fr || ltB .i64 v.pk a.pk || ltB .i64 65535#64 v.pk then false else bif AL.hit 11 fOa ⟨(a, v), 0#64⟩ then false else bif AL.hit 64 fOb ⟨(a, v), 0#64⟩ then false else true
theorem inStP_eq (a b : Sta) : inStP a b = inSt a b := by
  unfold inStP inSt
  have e1 : allN (fun i => !fIa (a, b) (BitVec.ofNat 64 i)) 11 = allN (fun i => inR (a.regs i) (b.regs i)) 11 := allN_congr fun i hi => by simp only [fIa, ixN_ofNat (show i < 2 ^ 63 by omega), Bool.not_not]
  have e2 : allN (fun i => !fIb (a, b) (BitVec.ofNat 64 i)) 64 = allN (fun i => coversS (a.stk i) (b.stk i)) 64 := allN_congr fun i hi => by simp only [fIb, ixN_ofNat (show i < 2 ^ 63 by omega), Bool.not_not]
  rw [AL.all 11 fIa (by decide), AL.all 64 fIb (by decide), e1, e2, leI_lt]
  cases maySta a <;> cases maySta b <;> cases ltB .i64 a.pk b.pk <;> cases allN (fun i => inR (a.regs i) (b.regs i)) 11 <;> cases allN (fun i => coversS (a.stk i) (b.stk i)) 64 <;> rfl
theorem holdsStP_eq (a : Sta) (v : Vw) : holdsStP a v = holdsSt a v := by
  unfold holdsStP holdsSt
  have e1 : allN (fun i => !fOa (a, v) (BitVec.ofNat 64 i)) 11 = allN (fun i => mayV (v.regs i) && holdsR (a.regs i) (v.regs i) v.pk) 11 := allN_congr fun i hi => by
    simp only [fOa, ixN_ofNat (show i < 2 ^ 63 by omega)]
    cases mayV (v.regs i) <;> cases holdsR (a.regs i) (v.regs i) v.pk <;> rfl
  have e2 : allN (fun i => !fOb (a, v) (BitVec.ofNat 64 i)) 64 = allN (fun i => bytesS (a.stk i) (v.fr i) v.pk) 64 := allN_congr fun i hi => by simp only [fOb, ixN_ofNat (show i < 2 ^ 63 by omega), Bool.not_not]
  rw [AL.all 11 fOa (by decide), AL.all 64 fOb (by decide), e1, e2, leI_lt, leI_lt]
  cases maySta a <;> cases rightF v.fr <;> cases ltB .i64 v.pk a.pk <;> cases ltB .i64 65535#64 v.pk <;> cases allN (fun i => mayV (v.regs i) && holdsR (a.regs i) (v.regs i) v.pk) 11 <;> cases allN (fun i => bytesS (a.stk i) (v.fr i) v.pk) 64 <;> rfl
theorem kk40 : ConOk Try.prog 40 (con2 cSlt cSlt fun x y => eB (inSP x y)) :=
  con2_ok rsv7 (Λ := hIs) 6 (fun _ _ => rfl) (fun x y => Ev.fg (L := [([y.r.k == 0#8], LoopGoal Try.prog (loopAt Try.prog 40 pIs) lpIs (AL.T 8 fIs 0) ⟨(x, y), 0#64⟩ 2 57 0)]) (by kernel_rfl) (by
      intro e he _
      simp only [List.mem_singleton] at he
      subst he
      exact goalIs _ (AL.init 8 (by decide) _)))
def badIn (a b : Bool) (c : Bool) : Bool := !a || !b || c
theorem a19 (x y : Sta) : (fg (evalN Try.prog (tabOf sv7) hIP 6 19 [cSta.enc x, cSta.enc y])).map (·.1) = some (eB (inStP x y)) := by kernel_rfl
theorem b19 (x y : Sta) : (fg (evalN Try.prog (tabOf sv7) hIP 6 19 [cSta.enc x, cSta.enc y])).map (·.2) = some [([!(!maySta x || !maySta y || ltB .i64 x.pk y.pk)], LoopGoal Try.prog (loopAt Try.prog 19 pIa) lpIa (AL.T 11 fIa 0) ⟨(x, y), 0#64⟩ 2 50 0),
    ([!AL.hit 11 fIa ⟨(x, y), 0#64⟩, !(!maySta x || !maySta y || ltB .i64 x.pk y.pk)], LoopGoal Try.prog (loopAt Try.prog 19 pIb) lpIb (AL.T 64 fIb 2) ⟨(x, y), 0#64⟩ 2 50 0)] := by kernel_rfl
theorem kk19 : ConOk Try.prog 19 (con2 cSta cSta fun x y => eB (inStP x y)) :=
  con2_ok rsv7 (Λ := hIP) 6 (fun _ _ => rfl) (fun x y => Ev.fg2 (a19 x y) (b19 x y) (by
      intro e he _
      simp only [List.mem_cons, List.not_mem_nil, or_false] at he
      rcases he with rfl | rfl
      · exact goalIa _ (AL.init 11 (by decide) _)
      · exact goalIb _ (AL.init 64 (by decide) _)))
theorem k19 : ConOk Try.prog 19 (con2 cSta cSta fun x y => eB (inSt x y)) :=
  (show (con2 cSta cSta fun x y => eB (inStP x y)) = (con2 cSta cSta fun x y => eB (inSt x y)) from congrArg _ (by funext x y; rw [inStP_eq])) ▸ kk19
theorem a16 (x : Sta) (y : Vw) : (fg (evalN Try.prog (tabOf sv7) hOP 6 16 [cSta.enc x, cVw.enc y])).map (·.1) = some (eB (holdsStP x y)) := by kernel_rfl
theorem b16 (x : Sta) (y : Vw) : (fg (evalN Try.prog (tabOf sv7) hOP 6 16 [cSta.enc x, cVw.enc y])).map (·.2) = some [([!(!maySta x || !rightF y.fr || ltB .i64 y.pk x.pk || ltB .i64 65535#64 y.pk)], LoopGoal Try.prog (loopAt Try.prog 16 pOa) lpOa (AL.T 11 fOa 0) ⟨(x, y), 0#64⟩ 2 68 0),
    ([!AL.hit 11 fOa ⟨(x, y), 0#64⟩, !(!maySta x || !rightF y.fr || ltB .i64 y.pk x.pk || ltB .i64 65535#64 y.pk)], LoopGoal Try.prog (loopAt Try.prog 16 pOb) lpOb (AL.T 64 fOb 2) ⟨(x, y), 0#64⟩ 2 68 0)] := by kernel_rfl
theorem kk16 : ConOk Try.prog 16 (con2 cSta cVw fun x y => eB (holdsStP x y)) :=
  con2_ok rsv7 (Λ := hOP) 6 (fun _ _ => rfl) (fun x y => Ev.fg2 (a16 x y) (b16 x y) (by
      intro e he _
      simp only [List.mem_cons, List.not_mem_nil, or_false] at he
      rcases he with rfl | rfl
      · exact goalOa _ (AL.init 11 (by decide) _)
      · exact goalOb _ (AL.init 64 (by decide) _)))
theorem k16 : ConOk Try.prog 16 (con2 cSta cVw fun x y => eB (holdsSt x y)) :=
  (show (con2 cSta cVw fun x y => eB (holdsStP x y)) = (con2 cSta cVw fun x y => eB (holdsSt x y)) from congrArg _ (by funext x y; rw [holdsStP_eq])) ▸ kk16
/-! The document's slots. -/
noncomputable def inSD (x y : Slt) : Bool :=
  bif y.r.k == 0#8 then and8 (sureS x) y.h == y.h else bif x.r.k == 0#8 then x.h == 255#8 && y.r.k == 1#8 && !y.r.ln && eqC y.r.s allC else inRD x.r y.r
theorem sure_bit (x : Slt) (i : Nat) (hi : i < 8) : sureD x (BitVec.ofNat 64 i) = (sureS x).getLsbD i := by
  have e : ∀ h : B8, (shr8 h (jI (BitVec.ofNat 64 i)) &&& 1#8 == 1#8) = h.getLsbD i := fun h => bit_jI i hi h
  have f : ∀ j, j < 8 → (255#8 : B8).getLsbD j = true := lt8 (by decide)
  unfold sureD sureS
  rw [e]
  cases h0 : (x.r.k == 0#8) with
  | true =>
    rw [beq_iff_eq] at h0
    rw [h0]; rfl
  | false =>
    cases h1 : (x.r.k == 1#8) with
    | true => show (true || _) = (255#8 : B8).getLsbD i; rw [f i hi]; rfl
    | false =>
      show (false || (false && _)) = (0#8 : B8).getLsbD i
      simp
theorem inSP_eq (x y : Slt) : inSP x y = inSD x y := by
  unfold inSP inSD
  have e : allN (fun i => !fIs (x, y) (BitVec.ofNat 64 i)) 8 = (and8 (sureS x) y.h == y.h) := by
    rw [and8_all]
    exact allN_congr fun i hi => by simp only [fIs, bit_jI i hi, sure_bit x i hi]
  rw [AL.all 8 fIs (by decide), e]
  cases (and8 (sureS x) y.h == y.h) <;> rfl
theorem k40 : ConOk Try.prog 40 (con2 cSlt cSlt fun x y => eB (inSD x y)) :=
  (show (con2 cSlt cSlt fun x y => eB (inSP x y)) = (con2 cSlt cSlt fun x y => eB (inSD x y)) from congrArg _ (by funext x y; rw [inSP_eq])) ▸ kk40
noncomputable def sv8 : List (FuncId × Con) := (19, con2 cSta cSta fun x y => eB (inSt x y)) :: (16, con2 cSta cVw fun x y => eB (holdsSt x y)) :: (40, con2 cSlt cSlt fun x y => eB (inSD x y)) :: sv7
theorem rsv8 : TabOk Try.prog (tabOf sv8) := tabOf_cons (tabOf_cons (tabOf_cons rsv7 k40) k16) k19
end Go.Rf
