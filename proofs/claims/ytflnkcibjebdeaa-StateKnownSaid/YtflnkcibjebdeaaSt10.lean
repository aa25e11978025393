/- States: the contracts of May. -/
import Derived.Test.YtflnkcibjebdeaaSt9
set_option linter.unusedVariables false
set_option linter.unusedSimpArgs false
set_option maxRecDepth 100000
namespace Go.Rf
open Go.Proofs
noncomputable def maySta (s : Sta) : Bool := allN (fun i => mayR (s.regs i)) 11 && allN (fun i => knownS (s.stk i)) 64 && (leB .i64 0#64 s.pk && leB .i64 s.pk 65535#64)
noncomputable def maySP (s : Sta) : Bool := bif AL.hit 11 fMa ⟨s.regs, 0#64⟩ then false else bif AL.hit 64 fMb ⟨s.stk, 0#64⟩ then false else leB .i64 0#64 s.pk && leB .i64 s.pk 65535#64
noncomputable def maySQ (s : Sta) : Bool := AC.res 64 fMd ⟨s, 0#64, AC.res 11 fMc ⟨s, 0#64, leB .i64 0#64 s.pk && leB .i64 s.pk 65535#64⟩⟩
theorem maySP_eq (s : Sta) : maySP s = maySta s := by
  unfold maySP maySta
  rw [AL.all 11 fMa (by decide), AL.all 64 fMb (by decide)]
  have e1 : allN (fun i => !fMa s.regs (BitVec.ofNat 64 i)) 11 = allN (fun i => mayR (s.regs i)) 11 := allN_congr fun i hi => by simp [fMa, ixN_ofNat (show i < 2 ^ 63 by omega)]
  have e2 : allN (fun i => !fMb s.stk (BitVec.ofNat 64 i)) 64 = allN (fun i => knownS (s.stk i)) 64 := allN_congr fun i hi => by simp [fMb, ixN_ofNat (show i < 2 ^ 63 by omega)]
  rw [e1, e2]
  cases allN (fun i => mayR (s.regs i)) 11 <;> cases allN (fun i => knownS (s.stk i)) 64 <;> rfl
theorem maySQ_eq (s : Sta) : maySQ s = maySta s := by
  unfold maySQ maySta
  generalize (leB .i64 0#64 s.pk && leB .i64 s.pk 65535#64) = q
  have e1 : allN (fun i => fMc s (BitVec.ofNat 64 i)) 11 = allN (fun i => mayR (s.regs i)) 11 := allN_congr fun i hi => by simp [fMc, ixN_ofNat (show i < 2 ^ 63 by omega)]
  have e2 : allN (fun i => fMd s (BitVec.ofNat 64 i)) 64 = allN (fun i => knownS (s.stk i)) 64 := allN_congr fun i hi => by simp [fMd, ixN_ofNat (show i < 2 ^ 63 by omega)]
  rw [AC.all 11 fMc (by decide), e1, AC.all 64 fMd (by decide), e2]
  rw [Bool.and_assoc, Bool.and_comm]
theorem kk11 : ConOk Try.prog 11 (con1 cSta fun s => eB (maySP s)) :=
  con1_ok rsv3 (Λ := hMP) 5 (fun _ => rfl) (fun s => Ev.fg (L := [([], LoopGoal Try.prog (loopAt Try.prog 11 pMa) lpMa (AL.T 11 fMa 0) ⟨s.regs, 0#64⟩ 1 33 0),
    ([!AL.hit 11 fMa ⟨s.regs, 0#64⟩], LoopGoal Try.prog (loopAt Try.prog 11 pMb) lpMb (AL.T 64 fMb 2) ⟨s.stk, 0#64⟩ 1 33 0)]) (by kernel_rfl) (by
      intro e he _
      simp only [List.mem_cons, List.not_mem_nil, or_false] at he
      rcases he with rfl | rfl
      · exact goalMa _ (AL.init 11 (by decide) _)
      · exact goalMb _ (AL.init 64 (by decide) _)))
theorem kk12 : ConOk Try.prog 12 (con1 cSta fun s => eB (maySQ s)) :=
  con1_ok rsv3 (Λ := hMD) 5 (fun _ => rfl) (fun s => Ev.fg (L := [([], LoopGoal Try.prog (loopAt Try.prog 12 pMc) lpMc (AC.T 11 fMc 0) ⟨s, 0#64, leB .i64 0#64 s.pk && leB .i64 s.pk 65535#64⟩ 1 39 0),
    ([], LoopGoal Try.prog (loopAt Try.prog 12 pMd) lpMd (AC.T 64 fMd 2) ⟨s, 0#64, AC.res 11 fMc ⟨s, 0#64, leB .i64 0#64 s.pk && leB .i64 s.pk 65535#64⟩⟩ 1 39 0)]) (by kernel_rfl) (by
      intro e he _
      simp only [List.mem_cons, List.not_mem_nil, or_false] at he
      rcases he with rfl | rfl
      · exact goalMc _ (AC.init 11 (by decide) _ _)
      · exact goalMd _ (AC.init 64 (by decide) _ _)))
theorem k11 : ConOk Try.prog 11 (con1 cSta fun s => eB (maySta s)) := (show (con1 cSta fun s => eB (maySP s)) = (con1 cSta fun s => eB (maySta s)) from congrArg _ (by funext s; rw [maySP_eq])) ▸ kk11
theorem k12 : ConOk Try.prog 12 (con1 cSta fun s => eB (maySta s)) := (show (con1 cSta fun s => eB (maySQ s)) = (con1 cSta fun s => eB (maySta s)) from congrArg _ (by funext s; rw [maySQ_eq])) ▸ kk12
noncomputable def sv4 : List (FuncId × Con) := (11, con1 cSta fun s => eB (maySta s)) :: (12, con1 cSta fun s => eB (maySta s)) :: sv3
theorem rsv4 : TabOk Try.prog (tabOf sv4) := tabOf_cons (tabOf_cons rsv3 k12) k11
end Go.Rf
