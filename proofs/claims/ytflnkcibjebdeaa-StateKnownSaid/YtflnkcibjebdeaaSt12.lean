/- States: the document's frames that may be. -/
import Derived.Test.YtflnkcibjebdeaaSt11
set_option linter.unusedVariables false
set_option linter.unusedSimpArgs false
set_option maxRecDepth 100000
namespace Go.Rf
open Go.Proofs
def emptyD (v : Val) : Bool := v.k == 0#8 && v.m == 0#64 && v.n == 0#64 && v.o == 0#64
def badV (x : MSl) : Bool := !emptyD x.v && (!mayV x.v || !addrD x.v || x.h != 255#8)
noncomputable def badI (x : MSl) : Bool := AL.hit 8 fRc ⟨(x, emptyD x.v), 0#64⟩
noncomputable def fRd : (Nat → MSl) → W → Bool := fun d j => badV (d (ixN j)) || badI (d (ixN j))
def pRd : List Nat := [1, 0, 1, 4]
noncomputable def lpRd : Lp (AL (Nat → MSl)) where
  keys := [3, 1, 2]
  names := [0]
  scr := wrAt Try.prog 33 pRd
  vals s := [eI s.i, .ptr 0 [], eB false]
  blks s := [⟨47, eFra s.d⟩]
  dec vs bs := match vs, bs with
    | [i, _, _], [⟨_, d⟩] => match cI.dec i, cFra.dec d with
      | some i, some d => some ⟨d, i⟩
      | _, _ => none
    | _, _ => none
noncomputable def stepRd (s : AL (Nat → MSl)) : Rd (AL (Nat → MSl)) := .br (s.lt 64) (.br (badV (s.d (ixN s.i))) (.ret s) (.br (badI (s.d (ixN s.i))) (.ret s) (.norm s.nxt))) (.exit 0 s)
theorem stepRd_sel (s : AL (Nat → MSl)) : (stepRd s).sel = (s.step 64 fRd 0).sel := by
  simp only [stepRd, AL.step, Rd.sel, AL.bd, fRd]
  cases badV (s.d (ixN s.i)) <;> cases badI (s.d (ixN s.i)) <;> simp
noncomputable def hRc : Hook := fun p => if p == pRc then some (lpRc.hk (AL.T 8 fRc 2)) else none
theorem goalRd (s : AL (Nat → MSl)) (h : s.inv 64) : LoopGoal Try.prog (loopAt Try.prog 33 pRd) lpRd (AL.T 64 fRd 0) s 1 74 0 := by
  refine lp_rule (cx := ⟨Try.prog, tabOf sv5, inlF Try.prog (tabOf sv5) noHooks 2⟩) rsv5 (inlF_ok rsv5 2) (Λ := hRc) (p := pRd ++ [5]) lpRd (AL.inv 64) (AL.mu 64) stepRd (AL.T 64 fRd 0) 1 74 0 (fun _ => ⟨rfl, rfl⟩) ?_ ?_ s h
  · intro s r h hi
    refine fl_ok (g := s.lt 64) (L := ixs s.i 64 1 ++ [LoopGoal Try.prog (loopAt Try.prog 33 pRc) lpRc (AL.T 8 fRc 2) ⟨(s.d (ixN s.i), emptyD (s.d (ixN s.i)).v), 0#64⟩ 2 74 0]) (by kernel_rfl) ?_
    intro hg p hp
    rw [List.mem_append, List.mem_singleton] at hp
    rcases hp with hp | rfl
    · exact AL.ixs 64 hi hg _ p hp
    · exact goalRc _ (AL.init 8 (by decide) _)
  · intro s hi
    rw [stepRd_sel]
    exact AL.good 64 fRd 0 s hi
noncomputable def hRd : FuncId → Hook := fun f p => if f == 33 && p == pRd then some (lpRd.hk (AL.T 64 fRd 0)) else none

theorem emptyD_eq (v : Val) : emptyD v = eqVal v nilV := by
  unfold emptyD eqVal nilV
  simp only [Bool.and_assoc]
theorem addr_same {v : Val} (h : mayV v = true) : addrD v = addrV v := by
  have := mayV_ok.1 h
  cases this <;> rfl
theorem lt0_8 (b : B8) : ltB .u8 0#8 b = !(b == 0#8) := by
  show decide ((0#8 : B8).toNat < b.toNat) = _
  rw [Bool.eq_iff_iff, decide_eq_true_eq, Bool.not_eq_true', beq_eq_false_iff_ne, Ne, ← BitVec.toNat_inj]
  have z : (0#8 : B8).toNat = 0 := rfl
  omega
theorem badS_eq (x : MSl) : (badV x || badI x) = !rightS x := by
  have hin : badI x = !allN (fun j => x.b j == 0#8 || (emptyD x.v && x.h.getLsbD j)) 8 := by
    unfold badI
    rw [AL.all 8 fRc (by decide)]
    congr 1
    refine allN_congr fun i hi => ?_
    simp only [fRc, ixN_ofNat (show i < 2 ^ 63 by omega), lt0_8, hasM, bit_hasM i hi]
    cases x.b i == 0#8 <;> cases emptyD x.v <;> cases x.h.getLsbD i <;> rfl
  rw [hin]
  unfold badV rightS
  rw [emptyD_eq]
  cases he : eqVal x.v nilV with
  | true => simp
  | false =>
    simp only [Bool.false_and, Bool.or_false, Bool.not_false, Bool.true_and, cond_false]
    cases hm : mayV x.v with
    | false => simp
    | true =>
      rw [addr_same hm]
      cases addrV x.v <;> cases hx : (x.h == 255#8) <;> simp [bne, hx]
theorem kk33 : ConOk Try.prog 33 (con1 cFra fun f => eB (bif AL.hit 64 fRd ⟨f, 0#64⟩ then false else true)) :=
  con1_ok rsv5 (Λ := hRd) 5 (fun _ => rfl) (fun f => Ev.fl (g := true) (L := [LoopGoal Try.prog (loopAt Try.prog 33 pRd) lpRd (AL.T 64 fRd 0) ⟨f, 0#64⟩ 1 74 0]) (by kernel_rfl)
    (fun _ p hp => by simp only [List.mem_singleton] at hp; subst hp; exact goalRd _ (AL.init 64 (by decide) _)))
theorem rd_eq (f : Nat → MSl) : (bif AL.hit 64 fRd ⟨f, 0#64⟩ then false else true) = rightF f := by
  rw [AL.all 64 fRd (by decide)]
  have e : allN (fun i => !fRd f (BitVec.ofNat 64 i)) 64 = rightF f := allN_congr fun i hi => by simp only [fRd, ixN_ofNat (show i < 2 ^ 63 by omega), badS_eq, Bool.not_not]
  rw [e]
  cases rightF f <;> rfl
theorem k33 : ConOk Try.prog 33 (con1 cFra fun f => eB (rightF f)) := (show (con1 cFra fun f => eB (bif AL.hit 64 fRd ⟨f, 0#64⟩ then false else true)) = (con1 cFra fun f => eB (rightF f)) from congrArg _ (by funext f; rw [rd_eq])) ▸ kk33
noncomputable def sv6 : List (FuncId × Con) := (29, con1 cFra fun f => eB (rightF f)) :: (33, con1 cFra fun f => eB (rightF f)) :: sv5
theorem rsv6 : TabOk Try.prog (tabOf sv6) := tabOf_cons (tabOf_cons rsv5 k33) k29
end Go.Rf
