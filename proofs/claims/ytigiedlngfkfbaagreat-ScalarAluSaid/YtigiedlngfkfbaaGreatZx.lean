/- Scalars: the document's Alu by its contract. -/
import Derived.Test.YtigiedlngfkfbaaGreatZw
set_option linter.unusedVariables false
set_option linter.unusedSimpArgs false
set_option maxRecDepth 100000
namespace Go.Rf
open Go.Proofs

noncomputable def fQ : Func := (Tryz.prog.funcs[7]?).getD default
noncomputable def Q0 : Code := codeIn (bodyOf 7) [0]
noncomputable def Q1 : List Oper := opsIn 7 [1, 0, 0]
noncomputable def Q2 : List Oper := opsIn 7 [1, 0, 1, 2, 0]
noncomputable def Q3 : List Oper := opsIn 7 [1, 1, 0, 0]
noncomputable def Q4 : List Oper := opsIn 7 [1, 1, 0, 1, 2, 0]
noncomputable def QX : Code := codeIn (bodyOf 7) [1, 1, 1]
theorem bodyQ : fQ.body = some (.seq Q0 (.seq (.seq (.region 1 Q1.toArray false) (.cond (.tmp 22) (.seq (.region 2 Q2.toArray false) .ret) .skip)) (.seq (.seq (.region 3 Q3.toArray false) (.cond (.tmp 29) (.seq (.region 4 Q4.toArray false) .ret) .skip)) QX))) := by kernel_rfl
def argQ (op : W) (w : Bool) (a b : Sc) : List AV := [eI op, eB w, eSc a, eSc b]
section
variable (op : W) (w : Bool) (a b : Sc)
noncomputable def qi0 : St := St.enter (argQ op w a b) (fun _ => none) 0 fQ.ntmps
noncomputable def qi1 : St := outN1 (evalCode cxZ (fun _ => none) Q0 [] (qi0 op w a b))
noncomputable def qi2 : St := stOf1 (evalList cxZ Q1 (qi1 op w a b))
noncomputable def qi3 : St := stOf1 (evalList cxZ Q2 (qi2 op w a b))
noncomputable def qi4 : St := stOf1 (evalList cxZ Q3 (qi2 op w a b))
noncomputable def qi5 : St := stOf1 (evalList cxZ Q4 (qi4 op w a b))
theorem eq1 : ∃ ob, evalCode cxZ (fun _ => none) Q0 [] (qi0 op w a b) = some (.norm (qi1 op w a b), ob) ∧ ob.holds := fl_two (L := []) (by kernel_rfl) (by kernel_rfl) (by simp)
theorem eq2 : ∃ ob, evalList cxZ Q1 (qi1 op w a b) = some (qi2 op w a b, ob) ∧ ob.holds := fl_two (L := []) (by kernel_rfl) (by kernel_rfl) (by simp)
theorem eq3 : ∃ ob, evalList cxZ Q2 (qi2 op w a b) = some (qi3 op w a b, ob) ∧ ob.holds := fl_two (L := []) (by kernel_rfl) (by kernel_rfl) (by simp)
theorem qi2g : (qi2 op w a b).look 22 = .bool fun _ => !mayC a || !mayC b := by kernel_rfl
theorem eq3r : ∃ ob, evalK cxZ (fun _ => none) fQ .ret [] (qi3 op w a b) = some (pair (eSc nilC) (eI 1#64), ob) ∧ ob.holds := fl_two (L := []) (by kernel_rfl) (by kernel_rfl) (by simp)
theorem qi3r : (qi3 op w a b).hrest = fun _ => none := by kernel_rfl
theorem eq4 : ∃ ob, evalList cxZ Q3 (qi2 op w a b) = some (qi4 op w a b, ob) ∧ ob.holds := fl_two (L := []) (by kernel_rfl) (by kernel_rfl) (by simp)
theorem qi4g : (qi4 op w a b).look 29 = .bool fun _ => badOp op := by kernel_rfl
theorem eq5 : ∃ ob, evalList cxZ Q4 (qi4 op w a b) = some (qi5 op w a b, ob) ∧ ob.holds := fl_two (L := []) (by kernel_rfl) (by kernel_rfl) (by simp)
theorem eq5r : ∃ ob, evalK cxZ (fun _ => none) fQ .ret [] (qi5 op w a b) = some (pair (eSc nilC) (eI 20#64), ob) ∧ ob.holds := fl_two (L := []) (by kernel_rfl) (by kernel_rfl) (by simp)
theorem qi5r : (qi5 op w a b).hrest = fun _ => none := by kernel_rfl
end
theorem calls7b (op : W) (w : Bool) (a b : Sc) (hb : badOp op = true) (W0 : World) : Calls Tryz.prog 7 ((argQ op w a b).map (val E0)).toArray W0 fun e w' => e = .returned (valT E0 (pair (eSc (aluSc op w a b)) (eI (aluScE op a b)))) ∧ RowKit.Below W0.heap.size W0 w' := by
  have hfn : Tryz.prog.funcs[7]? = some fQ := by kernel_rfl
  refine calls_of_wp hfn bodyQ ?_
  have hnt : 4 ≤ fQ.ntmps := by
    have h : Nat.ble 4 fQ.ntmps = true := by kernel_rfl
    exact Nat.le_of_ble_eq_true h
  have hs0 := enter_rel (P := Tryz.prog) (fn := fQ) (args := argQ op w a b) hnt (fun v hv => by
    simp only [argQ, List.mem_cons, List.not_mem_nil, or_false] at hv
    rcases hv with rfl | rfl | rfl | rfl
    · rfl
    · rfl
    · exact cSc.pf a
    · exact cSc.pf b) W0
  refine wp_seq (codZ (eq1 op w a b) hs0 fun a1 w1 hs1 => ?_)
  show (Code.seq (.seq (.region 1 Q1.toArray false) (.cond (.tmp 22) (.seq (.region 2 Q2.toArray false) .ret) .skip)) _).wp Tryz.prog _ a1 w1
  refine wp_seq (wp_seq (regZ (eq2 op w a b) hs1 fun a2 w2 hs2 => ?_))
  have hc := look_bool (qi2g op w a b) hs2
  cases hm : (!mayC a || !mayC b) with
  | true =>
    rw [hm] at hc
    refine wp_cond_true hc ?_
    refine wp_seq (regZ (eq3 op w a b) hs2 fun a3 w3 hs3 => ?_)
    refine wp_ret ?_
    obtain ⟨ob, k1, k2⟩ := eq3r op w a b
    have e1 : aluSc op w a b = nilC := by unfold aluSc; rw [hm]; rfl
    have e2 : aluScE op a b = 1#64 := by unfold aluScE; rw [hm]; rfl
    rw [e1, e2]
    exact retE (cx := cxZ) rtz1 hIZ k1 k2 (qi3r op w a b) hs3
  | false =>
    rw [hm] at hc
    refine wp_cond_false hc (wp_skip ?_)
    show (Code.seq (.seq (.region 3 Q3.toArray false) (.cond (.tmp 29) (.seq (.region 4 Q4.toArray false) .ret) .skip)) QX).wp Tryz.prog _ a2 w2
    refine wp_seq (wp_seq (regZ (eq4 op w a b) hs2 fun a3 w3 hs3 => ?_))
    have hc2 := look_bool (qi4g op w a b) hs3
    rw [hb] at hc2
    refine wp_cond_true hc2 ?_
    refine wp_seq (regZ (eq5 op w a b) hs3 fun a4 w4 hs4 => ?_)
    refine wp_ret ?_
    obtain ⟨ob, k1, k2⟩ := eq5r op w a b
    have e1 : aluSc op w a b = nilC := by unfold aluSc; rw [hm, hb]; rfl
    have e2 : aluScE op a b = 20#64 := by unfold aluScE; rw [hm, hb]; rfl
    rw [e1, e2]
    exact retE (cx := cxZ) rtz1 hIZ k1 k2 (qi5r op w a b) hs4
theorem zisOp {op : W} (h : badOp op = false) : isOp op := by
  unfold badOp at h
  simp only [Bool.or_eq_false_iff] at h
  obtain ⟨h1, h2⟩ := h
  have a1 : ¬ op.toInt < (0#64 : W).toInt := by
    intro hh
    have : ltB .i64 op 0#64 = true := by show op.slt 0#64 = true; rw [BitVec.slt]; exact decide_eq_true hh
    rw [h1] at this; cases this
  have a2 : ¬ (12#64 : W).toInt < op.toInt := by
    intro hh
    have : ltB .i64 12#64 op = true := by show (12#64 : W).slt op = true; rw [BitVec.slt]; exact decide_eq_true hh
    rw [h2] at this; cases this
  have e0 : (0#64 : W).toInt = 0 := by decide
  have e12 : (12#64 : W).toInt = 12 := by decide
  exact isOp_of (by omega) (by omega)
theorem e7a_0 (w : Bool) (a b : Sc) : EvAt Tryz.prog 7 [val E0 (cI.enc 0#64), val E0 (cBl.enc w), val E0 (cSc.enc a), val E0 (cSc.enc b)] (pair (eSc (aluSc 0#64 w a b)) (eI (aluScE 0#64 a b))) := e7_ok (op := 0#64) (by decide) (k := .lit .i64 0) (by kernel_rfl) (by kernel_rfl) a b (e7_0_1 a b) (e7_0_0 a b) w
theorem e7a_1 (w : Bool) (a b : Sc) : EvAt Tryz.prog 7 [val E0 (cI.enc 1#64), val E0 (cBl.enc w), val E0 (cSc.enc a), val E0 (cSc.enc b)] (pair (eSc (aluSc 1#64 w a b)) (eI (aluScE 1#64 a b))) := e7_ok (op := 1#64) (by decide) (k := .lit .i64 1) (by kernel_rfl) (by kernel_rfl) a b (e7_1_1 a b) (e7_1_0 a b) w
theorem e7a_2 (w : Bool) (a b : Sc) : EvAt Tryz.prog 7 [val E0 (cI.enc 2#64), val E0 (cBl.enc w), val E0 (cSc.enc a), val E0 (cSc.enc b)] (pair (eSc (aluSc 2#64 w a b)) (eI (aluScE 2#64 a b))) := e7_ok (op := 2#64) (by decide) (k := .lit .i64 2) (by kernel_rfl) (by kernel_rfl) a b (e7_2_1 a b) (e7_2_0 a b) w
theorem e7a_3 (w : Bool) (a b : Sc) : EvAt Tryz.prog 7 [val E0 (cI.enc 3#64), val E0 (cBl.enc w), val E0 (cSc.enc a), val E0 (cSc.enc b)] (pair (eSc (aluSc 3#64 w a b)) (eI (aluScE 3#64 a b))) := e7_ok (op := 3#64) (by decide) (k := .lit .i64 3) (by kernel_rfl) (by kernel_rfl) a b (e7_3_1 a b) (e7_3_0 a b) w
theorem e7a_4 (w : Bool) (a b : Sc) : EvAt Tryz.prog 7 [val E0 (cI.enc 4#64), val E0 (cBl.enc w), val E0 (cSc.enc a), val E0 (cSc.enc b)] (pair (eSc (aluSc 4#64 w a b)) (eI (aluScE 4#64 a b))) := e7_ok (op := 4#64) (by decide) (k := .lit .i64 4) (by kernel_rfl) (by kernel_rfl) a b (e7_4_1 a b) (e7_4_0 a b) w
theorem e7a_5 (w : Bool) (a b : Sc) : EvAt Tryz.prog 7 [val E0 (cI.enc 5#64), val E0 (cBl.enc w), val E0 (cSc.enc a), val E0 (cSc.enc b)] (pair (eSc (aluSc 5#64 w a b)) (eI (aluScE 5#64 a b))) := e7_ok (op := 5#64) (by decide) (k := .lit .i64 5) (by kernel_rfl) (by kernel_rfl) a b (e7_5_1 a b) (e7_5_0 a b) w
theorem e7a_6 (w : Bool) (a b : Sc) : EvAt Tryz.prog 7 [val E0 (cI.enc 6#64), val E0 (cBl.enc w), val E0 (cSc.enc a), val E0 (cSc.enc b)] (pair (eSc (aluSc 6#64 w a b)) (eI (aluScE 6#64 a b))) := e7_ok (op := 6#64) (by decide) (k := .lit .i64 6) (by kernel_rfl) (by kernel_rfl) a b (e7_6_1 a b) (e7_6_0 a b) w
theorem e7a_7 (w : Bool) (a b : Sc) : EvAt Tryz.prog 7 [val E0 (cI.enc 7#64), val E0 (cBl.enc w), val E0 (cSc.enc a), val E0 (cSc.enc b)] (pair (eSc (aluSc 7#64 w a b)) (eI (aluScE 7#64 a b))) := e7_ok (op := 7#64) (by decide) (k := .lit .i64 7) (by kernel_rfl) (by kernel_rfl) a b (e7_7_1 a b) (e7_7_0 a b) w
theorem e7a_8 (w : Bool) (a b : Sc) : EvAt Tryz.prog 7 [val E0 (cI.enc 8#64), val E0 (cBl.enc w), val E0 (cSc.enc a), val E0 (cSc.enc b)] (pair (eSc (aluSc 8#64 w a b)) (eI (aluScE 8#64 a b))) := e7_ok (op := 8#64) (by decide) (k := .lit .i64 8) (by kernel_rfl) (by kernel_rfl) a b (e7_8_1 a b) (e7_8_0 a b) w
theorem e7a_9 (w : Bool) (a b : Sc) : EvAt Tryz.prog 7 [val E0 (cI.enc 9#64), val E0 (cBl.enc w), val E0 (cSc.enc a), val E0 (cSc.enc b)] (pair (eSc (aluSc 9#64 w a b)) (eI (aluScE 9#64 a b))) := e7_ok (op := 9#64) (by decide) (k := .lit .i64 9) (by kernel_rfl) (by kernel_rfl) a b (e7_9_1 a b) (e7_9_0 a b) w
theorem e7a_10 (w : Bool) (a b : Sc) : EvAt Tryz.prog 7 [val E0 (cI.enc 10#64), val E0 (cBl.enc w), val E0 (cSc.enc a), val E0 (cSc.enc b)] (pair (eSc (aluSc 10#64 w a b)) (eI (aluScE 10#64 a b))) := e7_ok (op := 10#64) (by decide) (k := .lit .i64 10) (by kernel_rfl) (by kernel_rfl) a b (e7_10_1 a b) (e7_10_0 a b) w
theorem e7a_11 (w : Bool) (a b : Sc) : EvAt Tryz.prog 7 [val E0 (cI.enc 11#64), val E0 (cBl.enc w), val E0 (cSc.enc a), val E0 (cSc.enc b)] (pair (eSc (aluSc 11#64 w a b)) (eI (aluScE 11#64 a b))) := e7_ok (op := 11#64) (by decide) (k := .lit .i64 11) (by kernel_rfl) (by kernel_rfl) a b (e7_11_1 a b) (e7_11_0 a b) w
theorem e7a_12 (w : Bool) (a b : Sc) : EvAt Tryz.prog 7 [val E0 (cI.enc 12#64), val E0 (cBl.enc w), val E0 (cSc.enc a), val E0 (cSc.enc b)] (pair (eSc (aluSc 12#64 w a b)) (eI (aluScE 12#64 a b))) := e7_ok (op := 12#64) (by decide) (k := .lit .i64 12) (by kernel_rfl) (by kernel_rfl) a b (e7_12_1 a b) (e7_12_0 a b) w
theorem evAt_calls {P : Program} {f : FuncId} {vs : List Value} {r : AV} (h : EvAt P f vs r) (w : World) : Calls P f vs.toArray w fun e w' => e = .returned (valT E0 r) ∧ RowKit.Below w.heap.size w w' := by
  obtain ⟨Γ, Λ, n, l, hΓ, hl, hm, hev⟩ := h
  have := hev.calls hΓ hl w
  rw [hm] at this
  exact this
theorem calls7 (op : W) (w : Bool) (a b : Sc) (W0 : World) : Calls Tryz.prog 7 ([val E0 (cI.enc op), val E0 (cBl.enc w), val E0 (cSc.enc a), val E0 (cSc.enc b)]).toArray W0 fun e w' => e = .returned (valT E0 (pair (eSc (aluSc op w a b)) (eI (aluScE op a b)))) ∧ RowKit.Below W0.heap.size W0 w' := by
  cases h : badOp op with
  | true => exact calls7b op w a b h W0
  | false =>
    rcases zisOp h with rfl | rfl | rfl | rfl | rfl | rfl | rfl | rfl | rfl | rfl | rfl | rfl | rfl
    · exact evAt_calls (e7a_0 w a b) W0
    · exact evAt_calls (e7a_1 w a b) W0
    · exact evAt_calls (e7a_2 w a b) W0
    · exact evAt_calls (e7a_3 w a b) W0
    · exact evAt_calls (e7a_4 w a b) W0
    · exact evAt_calls (e7a_5 w a b) W0
    · exact evAt_calls (e7a_6 w a b) W0
    · exact evAt_calls (e7a_7 w a b) W0
    · exact evAt_calls (e7a_8 w a b) W0
    · exact evAt_calls (e7a_9 w a b) W0
    · exact evAt_calls (e7a_10 w a b) W0
    · exact evAt_calls (e7a_11 w a b) W0
    · exact evAt_calls (e7a_12 w a b) W0
theorem k7 : ConOk Tryz.prog 7 (con4 cI cBl cSc cSc fun op w a b => pair (eSc (aluSc op w a b)) (eI (aluScE op a b))) := by
  intro args r ob hK hob ha
  unfold con4 at hK
  split at hK <;> try (simp at hK; done)
  split at hK <;> simp at hK
  rename_i a b c d x y z t e1 e2 e3 e4
  obtain ⟨rfl, rfl⟩ := hK
  refine ⟨rfl, fun w => ?_⟩
  have := calls7 x y z t w
  simp only [List.map_cons, List.map_nil, cI.val e1, cBl.val e2, cSc.val e3, cSc.val e4]
  exact this
noncomputable def zt3 : List (FuncId × Con) := (7, con4 cI cBl cSc cSc fun op w a b => pair (eSc (aluSc op w a b)) (eI (aluScE op a b))) :: th5
theorem rzt3 : TabOk Tryz.prog (tabOf zt3) := tabOf_cons rth5 k7
end Go.Rf
