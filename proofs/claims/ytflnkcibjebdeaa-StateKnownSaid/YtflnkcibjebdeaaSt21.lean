/- States: the document's In, Holds, Join. -/
import Derived.Test.YtflnkcibjebdeaaSt20
set_option linter.unusedVariables false
set_option linter.unusedSimpArgs false
set_option maxRecDepth 100000
namespace Go.Rf
open Go.Proofs
noncomputable def fQa : (Sta × Sta) → W → Bool := fun d j => inRD (d.1.regs (ixN j)) (d.2.regs (ixN j))
def pQa : List Nat := [1, 1, 0, 1, 4]
noncomputable def lpQa : Lp (AC (Sta × Sta)) where
  keys := [6, 5, 2, 3]
  names := [0, 1]
  scr := wrAt Try.prog 20 pQa
  vals s := [eI s.i, eB s.ok, .ptr 0 [], .ptr 1 []]
  blks s := [⟨36, eSta s.d.1⟩, ⟨36, eSta s.d.2⟩]
  dec vs bs := match vs, bs with
    | [i, ok, _, _], [⟨_, x⟩, ⟨_, y⟩] => match cI.dec i, cB.dec ok, cSta.dec x, cSta.dec y with
      | some i, some ok, some x, some y => some ⟨(x, y), i, ok⟩
      | _, _, _, _ => none
    | _, _ => none
theorem goalQa (s : AC (Sta × Sta)) (h : s.inv 11) : LoopGoal Try.prog (loopAt Try.prog 20 pQa) lpQa (AC.T 11 fQa 0) s 2 54 0 := by
  refine lp_rule (cx := ⟨Try.prog, tabOf sv9, inlF Try.prog (tabOf sv9) noHooks 2⟩) rsv9 (inlF_ok rsv9 2) (Λ := fun _ => none) (p := []) lpQa (AC.inv 11) (AC.mu 11) (AC.step 11 fQa 0) (AC.T 11 fQa 0) 2 54 0 (fun _ => ⟨rfl, rfl⟩) ?_ ?_ s h
  · intro s r h hi
    exact fl_ok (g := s.lt 11) (L := ixs s.i 11 2) (by kernel_rfl) (fun hg => AC.ixs 11 hi hg _)
  · exact AC.good 11 fQa 0
noncomputable def fQb : (Sta × Sta) → W → Bool := fun d j => inSD (d.1.stk (ixN j)) (d.2.stk (ixN j))
def pQb : List Nat := [1, 1, 1, 0, 1, 4]
noncomputable def lpQb : Lp (AC (Sta × Sta)) where
  keys := [7, 5, 2, 3]
  names := [0, 1]
  scr := wrAt Try.prog 20 pQb
  vals s := [eI s.i, eB s.ok, .ptr 0 [], .ptr 1 []]
  blks s := [⟨36, eSta s.d.1⟩, ⟨36, eSta s.d.2⟩]
  dec vs bs := match vs, bs with
    | [i, ok, _, _], [⟨_, x⟩, ⟨_, y⟩] => match cI.dec i, cB.dec ok, cSta.dec x, cSta.dec y with
      | some i, some ok, some x, some y => some ⟨(x, y), i, ok⟩
      | _, _, _, _ => none
    | _, _ => none
theorem goalQb (s : AC (Sta × Sta)) (h : s.inv 64) : LoopGoal Try.prog (loopAt Try.prog 20 pQb) lpQb (AC.T 64 fQb 2) s 2 54 0 := by
  refine lp_rule (cx := ⟨Try.prog, tabOf sv9, inlF Try.prog (tabOf sv9) noHooks 2⟩) rsv9 (inlF_ok rsv9 2) (Λ := fun _ => none) (p := []) lpQb (AC.inv 64) (AC.mu 64) (AC.step 64 fQb 2) (AC.T 64 fQb 2) 2 54 0 (fun _ => ⟨rfl, rfl⟩) ?_ ?_ s h
  · intro s r h hi
    exact fl_ok (g := s.lt 64) (L := ixs s.i 64 2) (by kernel_rfl) (fun hg => AC.ixs 64 hi hg _)
  · exact AC.good 64 fQb 2
noncomputable def hQD : FuncId → Hook := fun f p => if f == 20 && p == pQa then some (lpQa.hk (AC.T 11 fQa 0)) else if f == 20 && p == pQb then some (lpQb.hk (AC.T 64 fQb 2)) else none
noncomputable def fWa : (Sta × Vw) → W → Bool := fun d j => mayV (d.2.regs (ixN j)) && holdsRD (d.1.regs (ixN j)) (d.2.regs (ixN j)) d.2.pk
def pWa : List Nat := [1, 1, 0, 1, 4]
noncomputable def lpWa : Lp (AC (Sta × Vw)) where
  keys := [6, 5, 3, 2]
  names := [0, 1]
  scr := wrAt Try.prog 18 pWa
  vals s := [eI s.i, eB s.ok, .ptr 1 [], .ptr 0 []]
  blks s := [⟨36, eSta s.d.1⟩, ⟨49, eVw s.d.2⟩]
  dec vs bs := match vs, bs with
    | [i, ok, _, _], [⟨_, x⟩, ⟨_, y⟩] => match cI.dec i, cB.dec ok, cSta.dec x, cVw.dec y with
      | some i, some ok, some x, some y => some ⟨(x, y), i, ok⟩
      | _, _, _, _ => none
    | _, _ => none
noncomputable def stepWa (s : AC (Sta × Vw)) : Rd (AC (Sta × Vw)) := .br (s.lt 11) (.norm ⟨s.d, s.i + 1#64, s.ok && mayV (s.d.2.regs (ixN s.i)) && holdsRD (s.d.1.regs (ixN s.i)) (s.d.2.regs (ixN s.i)) s.d.2.pk⟩) (.exit 0 s)
theorem stepWa_eq (s : AC (Sta × Vw)) : stepWa s = s.step 11 fWa 0 := by
  unfold stepWa AC.step AC.nxt fWa
  rw [Bool.and_assoc]
theorem goalWa (s : AC (Sta × Vw)) (h : s.inv 11) : LoopGoal Try.prog (loopAt Try.prog 18 pWa) lpWa (AC.T 11 fWa 0) s 2 71 0 := by
  refine lp_rule (cx := ⟨Try.prog, tabOf sv9, inlF Try.prog (tabOf sv9) noHooks 2⟩) rsv9 (inlF_ok rsv9 2) (Λ := fun _ => none) (p := []) lpWa (AC.inv 11) (AC.mu 11) stepWa (AC.T 11 fWa 0) 2 71 0 (fun _ => ⟨rfl, rfl⟩) ?_ ?_ s h
  · intro s r h hi
    exact fl_ok (g := s.lt 11) (L := ixs s.i 11 3) (by kernel_rfl) (fun hg => AC.ixs 11 hi hg _)
  · intro s hi
    rw [stepWa_eq]
    exact AC.good 11 fWa 0 s hi
noncomputable def fWb : (Sta × Vw) → W → Bool := fun d j => holdsSD (d.1.stk (ixN j)) (d.2.fr (ixN j)) d.2.pk
def pWb : List Nat := [1, 1, 1, 0, 1, 4]
noncomputable def lpWb : Lp (AC (Sta × Vw)) where
  keys := [7, 5, 2, 3]
  names := [0, 1]
  scr := wrAt Try.prog 18 pWb
  vals s := [eI s.i, eB s.ok, .ptr 0 [], .ptr 1 []]
  blks s := [⟨36, eSta s.d.1⟩, ⟨49, eVw s.d.2⟩]
  dec vs bs := match vs, bs with
    | [i, ok, _, _], [⟨_, x⟩, ⟨_, y⟩] => match cI.dec i, cB.dec ok, cSta.dec x, cVw.dec y with
      | some i, some ok, some x, some y => some ⟨(x, y), i, ok⟩
      | _, _, _, _ => none
    | _, _ => none
theorem goalWb (s : AC (Sta × Vw)) (h : s.inv 64) : LoopGoal Try.prog (loopAt Try.prog 18 pWb) lpWb (AC.T 64 fWb 2) s 2 71 0 := by
  refine lp_rule (cx := ⟨Try.prog, tabOf sv9, inlF Try.prog (tabOf sv9) noHooks 2⟩) rsv9 (inlF_ok rsv9 2) (Λ := fun _ => none) (p := []) lpWb (AC.inv 64) (AC.mu 64) (AC.step 64 fWb 2) (AC.T 64 fWb 2) 2 71 0 (fun _ => ⟨rfl, rfl⟩) ?_ ?_ s h
  · intro s r h hi
    exact fl_ok (g := s.lt 64) (L := ixs s.i 64 2) (by kernel_rfl) (fun hg => AC.ixs 64 hi hg _)
  · exact AC.good 64 fWb 2
noncomputable def hWD : FuncId → Hook := fun f p => if f == 18 && p == pWa then some (lpWa.hk (AC.T 11 fWa 0)) else if f == 18 && p == pWb then some (lpWb.hk (AC.T 64 fWb 2)) else none

noncomputable def inStD (a b : Sta) : Bool := AC.res 64 fQb ⟨(a, b), 0#64, AC.res 11 fQa ⟨(a, b), 0#64, maySta a && maySta b && leB .i64 b.pk a.pk⟩⟩
noncomputable def holdsStD (a : Sta) (v : Vw) : Bool := AC.res 64 fWb ⟨(a, v), 0#64, AC.res 11 fWa ⟨(a, v), 0#64, maySta a && rightF v.fr && leB .i64 a.pk v.pk && leB .i64 v.pk 65535#64⟩⟩
theorem may_parts {a : Sta} (h : maySta a = true) : (∀ i, i < 11 → mayR (a.regs i) = true) ∧ (∀ i, i < 64 → knownS (a.stk i) = true) := by
  unfold maySta at h
  rw [Bool.and_eq_true, Bool.and_eq_true, allN_iff, allN_iff] at h
  exact h.1
theorem covers_same {x y : Slt} (hx : knownS x = true) (hy : knownS y = true) : inSD x y = coversS x y := by
  have rx : RegOk x.r := mayR_ok.1 (by unfold knownS at hx; rw [Bool.and_eq_true] at hx; exact hx.1)
  have ry : RegOk y.r := mayR_ok.1 (by unfold knownS at hy; rw [Bool.and_eq_true] at hy; exact hy.1)
  unfold inSD coversS
  rw [inR_same rx ry]
  obtain ⟨yh, yr⟩ := y
  simp only at ry ⊢
  cases ry <;> simp [eqReg, Bool.and_assoc, Bool.and_comm, Bool.and_left_comm]
theorem inStD_eq (a b : Sta) : inStD a b = inSt a b := by
  unfold inStD inSt
  rw [AC.all 11 fQa (by decide), AC.all 64 fQb (by decide)]
  cases ha : maySta a with
  | false => rfl
  | true =>
    cases hb : maySta b with
    | false => rfl
    | true =>
      have pa := may_parts ha
      have pb := may_parts hb
      have e1 : allN (fun i => fQa (a, b) (BitVec.ofNat 64 i)) 11 = allN (fun i => inR (a.regs i) (b.regs i)) 11 := allN_congr fun i hi => by
        simp only [fQa, ixN_ofNat (show i < 2 ^ 63 by omega)]
        exact inR_same (mayR_ok.1 (pa.1 i hi)) (mayR_ok.1 (pb.1 i hi))
      have e2 : allN (fun i => fQb (a, b) (BitVec.ofNat 64 i)) 64 = allN (fun i => coversS (a.stk i) (b.stk i)) 64 := allN_congr fun i hi => by
        simp only [fQb, ixN_ofNat (show i < 2 ^ 63 by omega)]
        exact covers_same (pa.2 i hi) (pb.2 i hi)
      rw [e1, e2]
theorem holdsStD_eq (a : Sta) (v : Vw) : holdsStD a v = holdsSt a v := by
  unfold holdsStD holdsSt
  rw [AC.all 11 fWa (by decide), AC.all 64 fWb (by decide)]
  cases ha : maySta a with
  | false => rfl
  | true =>
    cases hv : rightF v.fr with
    | false => rfl
    | true =>
      have pa := may_parts ha
      have pv : ∀ i, i < 64 → rightS (v.fr i) = true := allN_iff.1 hv
      have e1 : allN (fun i => fWa (a, v) (BitVec.ofNat 64 i)) 11 = allN (fun i => mayV (v.regs i) && holdsR (a.regs i) (v.regs i) v.pk) 11 := allN_congr fun i hi => by
        simp only [fWa, ixN_ofNat (show i < 2 ^ 63 by omega)]
        cases hm : mayV (v.regs i) with
        | false => rfl
        | true => rw [holdsR_same (mayR_ok.1 (pa.1 i hi)) (mayV_ok.1 hm)]
      have e2 : allN (fun i => fWb (a, v) (BitVec.ofNat 64 i)) 64 = allN (fun i => bytesS (a.stk i) (v.fr i) v.pk) 64 := allN_congr fun i hi => by
        simp only [fWb, ixN_ofNat (show i < 2 ^ 63 by omega)]
        exact slot_same (pa.2 i hi) (pv i hi) _
      rw [e1, e2]
theorem a20 (x y : Sta) : (fg (evalN Try.prog (tabOf sv9) hQD 6 20 [cSta.enc x, cSta.enc y])).map (·.1) = some (eB (inStD x y)) := by kernel_rfl
theorem b20 (x y : Sta) : (fg (evalN Try.prog (tabOf sv9) hQD 6 20 [cSta.enc x, cSta.enc y])).map (·.2) = some [([], LoopGoal Try.prog (loopAt Try.prog 20 pQa) lpQa (AC.T 11 fQa 0) ⟨(x, y), 0#64, maySta x && maySta y && leB .i64 y.pk x.pk⟩ 2 54 0),
    ([], LoopGoal Try.prog (loopAt Try.prog 20 pQb) lpQb (AC.T 64 fQb 2) ⟨(x, y), 0#64, AC.res 11 fQa ⟨(x, y), 0#64, maySta x && maySta y && leB .i64 y.pk x.pk⟩⟩ 2 54 0)] := by kernel_rfl
theorem kk20 : ConOk Try.prog 20 (con2 cSta cSta fun x y => eB (inStD x y)) :=
  con2_ok rsv9 (Λ := hQD) 6 (fun _ _ => rfl) (fun x y => Ev.fg2 (a20 x y) (b20 x y) (by
      intro e he _
      simp only [List.mem_cons, List.not_mem_nil, or_false] at he
      rcases he with rfl | rfl
      · exact goalQa _ (AC.init 11 (by decide) _ _)
      · exact goalQb _ (AC.init 64 (by decide) _ _)))
theorem k20 : ConOk Try.prog 20 (con2 cSta cSta fun x y => eB (inSt x y)) :=
  (show (con2 cSta cSta fun x y => eB (inStD x y)) = (con2 cSta cSta fun x y => eB (inSt x y)) from congrArg _ (by funext x y; rw [inStD_eq])) ▸ kk20
theorem a18 (x : Sta) (y : Vw) : (fg (evalN Try.prog (tabOf sv9) hWD 6 18 [cSta.enc x, cVw.enc y])).map (·.1) = some (eB (holdsStD x y)) := by kernel_rfl
theorem b18 (x : Sta) (y : Vw) : (fg (evalN Try.prog (tabOf sv9) hWD 6 18 [cSta.enc x, cVw.enc y])).map (·.2) = some [([], LoopGoal Try.prog (loopAt Try.prog 18 pWa) lpWa (AC.T 11 fWa 0) ⟨(x, y), 0#64, maySta x && rightF y.fr && leB .i64 x.pk y.pk && leB .i64 y.pk 65535#64⟩ 2 71 0),
    ([], LoopGoal Try.prog (loopAt Try.prog 18 pWb) lpWb (AC.T 64 fWb 2) ⟨(x, y), 0#64, AC.res 11 fWa ⟨(x, y), 0#64, maySta x && rightF y.fr && leB .i64 x.pk y.pk && leB .i64 y.pk 65535#64⟩⟩ 2 71 0)] := by kernel_rfl
theorem kk18 : ConOk Try.prog 18 (con2 cSta cVw fun x y => eB (holdsStD x y)) :=
  con2_ok rsv9 (Λ := hWD) 6 (fun _ _ => rfl) (fun x y => Ev.fg2 (a18 x y) (b18 x y) (by
      intro e he _
      simp only [List.mem_cons, List.not_mem_nil, or_false] at he
      rcases he with rfl | rfl
      · exact goalWa _ (AC.init 11 (by decide) _ _)
      · exact goalWb _ (AC.init 64 (by decide) _ _)))
theorem k18 : ConOk Try.prog 18 (con2 cSta cVw fun x y => eB (holdsSt x y)) :=
  (show (con2 cSta cVw fun x y => eB (holdsStD x y)) = (con2 cSta cVw fun x y => eB (holdsSt x y)) from congrArg _ (by funext x y; rw [holdsStD_eq])) ▸ kk18

/-! The document's Join. -/
noncomputable def JnS.nd (s : JnS) : JnS := ⟨s.a, s.b, ⟨s.s.regs, updS s.s.stk (ixN s.i) (joinSlD (s.a.stk (ixN s.i)) (s.b.stk (ixN s.i))), s.s.pk⟩, s.i + 1#64⟩
noncomputable def JnS.sd (s : JnS) : Rd JnS := .br (s.go 64) (.norm s.nd) (.exit 2 s)
theorem goalDa (s : JnS) (h : s.inv 11) : LoopGoal Try.prog (loopAt Try.prog 22 pJa) (lpJn 22 pJa 6) (JnS.T 11 (JnS.nr joinRD) 0) s 4 56 0 := by
  refine lp_rule (cx := ⟨Try.prog, tabOf sv9, inlF Try.prog (tabOf sv9) noHooks 2⟩) rsv9 (inlF_ok rsv9 2) (Λ := fun _ => none) (p := []) (lpJn 22 pJa 6) (JnS.inv 11) (JnS.mu 11) (JnS.sr joinRD 0) (JnS.T 11 (JnS.nr joinRD) 0) 4 56 0 (fun _ => ⟨rfl, rfl⟩) ?_ ?_ s h
  · intro s r h hi
    exact fl_ok (g := s.go 11) (L := ixs s.i 11 3) (by kernel_rfl) (fun hg => ixs_hold (by decide) (JnS.lt hi hg) _)
  · refine JnS.good 11 _ (fun _ => rfl) 0 _ ?_ ?_
    · intro s hg
      simp only [JnS.sr, Rd.sel, hg, if_true]
    · intro s hg
      simp only [JnS.sr, Rd.sel, hg, Bool.false_eq_true, if_false]
theorem goalDb (s : JnS) (h : s.inv 64) : LoopGoal Try.prog (loopAt Try.prog 22 pJb) (lpJn 22 pJb 7) (JnS.T 64 JnS.nd 2) s 4 56 0 := by
  refine lp_rule (cx := ⟨Try.prog, tabOf sv9, inlF Try.prog (tabOf sv9) noHooks 2⟩) rsv9 (inlF_ok rsv9 2) (Λ := fun _ => none) (p := []) (lpJn 22 pJb 7) (JnS.inv 64) (JnS.mu 64) JnS.sd (JnS.T 64 JnS.nd 2) 4 56 0 (fun _ => ⟨rfl, rfl⟩) ?_ ?_ s h
  · intro s r h hi
    exact fl_ok (g := s.go 64) (L := ixs s.i 64 3) (by kernel_rfl) (fun hg => ixs_hold (by decide) (JnS.lt hi hg) _)
  · refine JnS.good 64 _ (fun _ => rfl) 2 _ ?_ ?_
    · intro s hg
      simp only [JnS.sd, Rd.sel, hg, if_true]
    · intro s hg
      simp only [JnS.sd, Rd.sel, hg, Bool.false_eq_true, if_false]
theorem JnS.runD (a b s : Sta) : runN (JnS.go 64) JnS.nd 64 ⟨a, b, s, 0#64⟩ = ⟨a, b, ⟨s.regs, fun j => if j < 64 then joinSlD (a.stk j) (b.stk j) else s.stk j, s.pk⟩, 64#64⟩ := by
  have := runN_count (go := JnS.go 64) (next := JnS.nd) (fun i => (⟨a, b, ⟨s.regs, fun j => if j < i then joinSlD (a.stk j) (b.stk j) else s.stk j, s.pk⟩, BitVec.ofNat 64 i⟩ : JnS)) 64
    (fun i hi => by
      show ltB .i64 (BitVec.ofNat 64 i) (BitVec.ofNat 64 64) = _
      rw [ltB_ofNat (by omega) (by omega)])
    (fun i hi => by
      simp only [JnS.nd, ofNat_succ, ixN_ofNat (show i < 2 ^ 63 by omega), updS_eq]
      rw [fill_step (fun j => joinSlD (a.stk j) (b.stk j)) (fun j => s.stk j) i])
  exact this
noncomputable def s2D (a b : Sta) : JnS := runN (JnS.go 64) JnS.nd 64 ⟨(s1J joinRD a b).a, (s1J joinRD a b).b, (s1J joinRD a b).s, 0#64⟩
theorem s2D_eq (a b : Sta) : s2D a b = ⟨a, b, ⟨fun j => if j < 11 then joinRD (a.regs j) (b.regs j) else nilR, fun j => if j < 64 then joinSlD (a.stk j) (b.stk j) else nilS', minI a.pk b.pk⟩, 64#64⟩ := by
  unfold s2D
  rw [s1J_eq]
  exact JnS.runD a b _
noncomputable def hJD : FuncId → Hook := fun f p => if f == 22 && p == pJa then some ((lpJn 22 pJa 6).hk (JnS.T 11 (JnS.nr joinRD) 0)) else if f == 22 && p == pJb then some ((lpJn 22 pJb 7).hk (JnS.T 64 JnS.nd 2)) else none
theorem a22 (x y : Sta) : (fg (evalN Try.prog (tabOf sv9) hJD 6 22 [cSta.enc x, cSta.enc y])).map (·.1) = some (eSta (Sta.mux (badJ x y) nilSta (s2D x y).s)) := by kernel_rfl
theorem b22 (x y : Sta) : (fg (evalN Try.prog (tabOf sv9) hJD 6 22 [cSta.enc x, cSta.enc y])).map (·.2) = some [([!badJ x y], LoopGoal Try.prog (loopAt Try.prog 22 pJa) (lpJn 22 pJa 6) (JnS.T 11 (JnS.nr joinRD) 0) ⟨x, y, ⟨fun _ => nilR, fun _ => nilS', minI x.pk y.pk⟩, 0#64⟩ 4 56 0),
    ([!badJ x y], LoopGoal Try.prog (loopAt Try.prog 22 pJb) (lpJn 22 pJb 7) (JnS.T 64 JnS.nd 2) ⟨(s1J joinRD x y).a, (s1J joinRD x y).b, (s1J joinRD x y).s, 0#64⟩ 4 56 0)] := by kernel_rfl
theorem kk22 : ConOk Try.prog 22 (con2 cSta cSta fun x y => eSta (Sta.mux (badJ x y) nilSta (s2D x y).s)) :=
  con2_ok rsv9 (Λ := hJD) 6 (fun _ _ => rfl) (fun x y => Ev.fg2 (a22 x y) (b22 x y) (by
      intro e he _
      simp only [List.mem_cons, List.not_mem_nil, or_false] at he
      rcases he with rfl | rfl
      · exact goalDa _ ⟨by decide, by show (0#64 : W).toNat ≤ 11; decide⟩
      · exact goalDb _ ⟨by decide, by show (0#64 : W).toNat ≤ 64; decide⟩))
theorem k22 : ConOk Try.prog 22 (con2 cSta cSta fun x y => eSta (joinSt x y)) := as_con2 kk22 (fun _ _ => rfl) (fun x y => by
  rw [s2D_eq, Sta.mux_eq]
  unfold joinSt
  cases h : badJ x y with
  | true => rfl
  | false =>
    unfold badJ at h
    simp only [Bool.or_eq_false_iff, Bool.not_eq_false'] at h
    have pa := may_parts h.1
    have pb := may_parts h.2
    refine sta_val (fun i hi => ?_) (fun i hi => ?_) rfl
    · show (if i < 11 then joinRD (x.regs i) (y.regs i) else nilR) = _
      rw [if_pos hi]
      exact joinRD_same (mayR_ok.1 (pa.1 i hi)) (mayR_ok.1 (pb.1 i hi))
    · show (if i < 64 then joinSlD (x.stk i) (y.stk i) else nilS') = _
      rw [if_pos hi]
      exact sl_same (pa.2 i hi) (pb.2 i hi))
noncomputable def sv10 : List (FuncId × Con) := (21, con2 cSta cSta fun x y => eSta (joinSt x y)) :: (22, con2 cSta cSta fun x y => eSta (joinSt x y)) :: (20, con2 cSta cSta fun x y => eB (inSt x y)) :: (18, con2 cSta cVw fun x y => eB (holdsSt x y)) :: sv9
theorem rsv10 : TabOk Try.prog (tabOf sv10) := tabOf_cons (tabOf_cons (tabOf_cons (tabOf_cons rsv9 k18) k20) k22) k21
end Go.Rf
