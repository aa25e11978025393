/- Scalars: the law ScalarKeeps walked. -/
import Derived.Test.YtigiedlngfkfbaaSf5
set_option linter.unusedVariables false
set_option linter.unusedSimpArgs false
set_option maxRecDepth 100000
namespace Go.Rf
open Go.Proofs

noncomputable def lp5 (D : SlD sSm') (p : W × W) : Lp CtE where
  keys := [12, 11, 10, 1, 2]
  names := []
  scr := wrAt Try.prog 5 pE
  vals s := [eI s.i, eI (BitVec.ofNat 64 D.len), D.at 1, eW p.1, eW p.2]
  blks s := []
  dec vs bs := match vs with
    | [i, _, _, _, _] => match cI.dec i with
      | some i => some ⟨i⟩
      | none => none
    | _ => none
  fx := [(1, some D.blk)]
noncomputable def cx5 : Cx := ⟨Try.prog, tabOf tk1, inlF Try.prog (tabOf tk1) noHooks 3⟩
theorem hI5 : InlOk cx5.P cx5.inl := inlF_ok rtk1 3
def bad5 : Bool := !true || !true
noncomputable def step5 (D : SlD sSm') (p : W × W) (s : CtE) : Rd CtE := .br (s.lt D.len) (.br (bad5) (.ret s) (.norm s.nxt)) (.exit 0 s)
theorem goal5 (D : SlD sSm') (p : W × W) (s : CtE) (hs : s.inv D.len) : LoopGoal Try.prog (loopAt Try.prog 5 pE) (lp5 D p) (CtE.T D.len) s 2 30 0 := by
  refine lp_rule (cx := cx5) rtk1 hI5 (Λ := fun _ => none) (p := []) (lp5 D p) (CtE.inv D.len) (CtE.mu D.len) (step5 D p) (CtE.T D.len) 2 30 0 (fun _ => ⟨rfl, rfl⟩) ?_ ?_ s hs
  · intro s r hh hi
    refine fl_ok (g := s.lt D.len) (L := [0 ≤ toZ .i64 s.i ∧ toZ .i64 s.i < toZ .i64 (BitVec.ofNat 64 D.len), D.pre.length = D.pre.length, (toZ .i64 s.i).toNat < D.len]) (by kernel_rfl) (fun hg p hp => ?_)
    rw [CtE.lt_iff D.len hi] at hg
    have h1 := hi.big
    simp only [List.mem_cons, List.not_mem_nil, or_false] at hp
    rcases hp with rfl | rfl | rfl
    · rw [toZ_nat (by omega), toZ_nat (by rw [ofNat_toNat (by omega)]; exact h1), ofNat_toNat (by omega)]
      omega
    · trivial
    · rw [toZ_nat (by omega)]; omega
  · refine CtE.good D.len ?_ ?_
    · intro s hi hg
      simp only [step5, Rd.sel, hg, show bad5 = false from rfl, if_true, Bool.false_eq_true, if_false]
    · intro s hi hg
      simp only [step5, Rd.sel, hg, Bool.false_eq_true, if_false]

/-! ### The law's walk -/
noncomputable def B0 : List Oper := opsOf 5 [0]
noncomputable def B1 : List Oper := opsOf 5 [1, 0, 0]
noncomputable def B1a : List Oper := B1.take 1
noncomputable def opD : Oper := (B1.drop 1).headD default
noncomputable def B1b : List Oper := B1.drop 2
noncomputable def B9 : List Oper := opsOf 5 [1, 1, 0]
theorem B1_eq : B1 = B1a ++ (opD :: B1b) := by kernel_rfl
noncomputable def X5 : Code := .block 0 (.loop (loopAt Try.prog 5 pE))
noncomputable def Y5 : Code := .seq (.region 7 B9.toArray false) .ret
theorem body5 : Try.f5.body = some (.seq (.region 0 B0.toArray false) (.seq (.seq (.region 1 B1.toArray false) X5) Y5)) := by kernel_rfl
noncomputable def y0 (s : SmV) (p : W × W) : St := St.enter [eSm s, eW p.1, eW p.2] (fun _ => none) 0 30
noncomputable def y1 (s : SmV) (p : W × W) : St := stEv (evalList cx5 B0 (y0 s p))
noncomputable def y2 (s : SmV) (p : W × W) : St := stEv (evalList cx5 B1a (y1 s p))
noncomputable def z2 (p : W × W) (D : SlD sSm') : St := slSt D 1 10 [(1, eW p.1), (2, eW p.2)] [] 30 0
noncomputable def y3 (p : W × W) (D : SlD sSm') : St := stEv (evalList cx5 B1b (z2 p D))
theorem x1 (s : SmV) (p : W × W) : ∃ ob, evalList cx5 B0 (y0 s p) = some (y1 s p, ob) ∧ ob.holds := fl_two (L := []) (by kernel_rfl) (by kernel_rfl) (by simp)
theorem x2 (s : SmV) (p : W × W) : ∃ ob, evalList cx5 B1a (y1 s p) = some (y2 s p, ob) ∧ ob.holds := fl_two (L := []) (by kernel_rfl) (by kernel_rfl) (by simp)
theorem x3 (p : W × W) (D : SlD sSm') (hl : D.len < 2 ^ 63) : ∃ ob, evalList cx5 B1b (z2 p D) = some (y3 p D, ob) ∧ ob.holds := fl_two (L := [0 ≤ toZ .i64 (BitVec.ofNat 64 D.len)]) (by kernel_rfl) (by kernel_rfl) (fun p hp => by
  simp only [List.mem_singleton] at hp
  subst hp
  rw [toZ_nat (by rw [ofNat_toNat (by omega)]; exact hl)]; omega)
noncomputable def hk5 (D : SlD sSm') (p : W × W) : Hook := fun q => if q == [4] then some ((lp5 D p).hk (CtE.T D.len)) else none
noncomputable def outN5 (x : Option (Outc × Ob)) : St := match x with
  | some (.norm st, _) => st
  | _ => ⟨[], fun _ => .un, [], fun _ => none, 0, 0, 0⟩
noncomputable def y4 (p : W × W) (D : SlD sSm') : St := outN5 (evalCode cx5 (hk5 D p) X5 [] (y3 p D))
theorem x4 (p : W × W) (D : SlD sSm') (hl : D.len < 2 ^ 63) : ∃ ob, evalCode cx5 (hk5 D p) X5 [] (y3 p D) = some (.norm (y4 p D), ob) ∧ ob.holds :=
  fl_two (L := [LoopGoal Try.prog (loopAt Try.prog 5 pE) (lp5 D p) (CtE.T D.len) ⟨0#64⟩ 2 30 0]) (by kernel_rfl) (by kernel_rfl) (fun p hp => by
    simp only [List.mem_singleton] at hp
    subst hp
    exact goal5 D p ⟨0#64⟩ ⟨hl, Nat.zero_le _⟩)
theorem x5 (p : W × W) (D : SlD sSm') : ∃ ob, evalK cx5 (fun _ => none) Try.f5 Y5 [] (y4 p D) = some (eB true, ob) ∧ ob.holds := fl_two (L := []) (by kernel_rfl) (by kernel_rfl) (by simp)
theorem reg5 {l : List Oper} {st st' : St} (he : ∃ ob, evalList cx5 l st = some (st', ob) ∧ ob.holds) {id : Nat} {Es : Env} {ws : World} {a : Act} {w : World} (hs : SRel Es ws st a w) {Q : Exit → Act → World → Prop} (hQ : ∀ a' w', SRel Es ws st' a' w' → Q .normal a' w') :
    (Code.region id l.toArray false).wp Try.prog Q a w := by
  obtain ⟨ob, h1, h2⟩ := he
  exact region_wp (cx := cx5) rtk1 hI5 h1 h2 hs hQ
theorem list5 {l : List Oper} {st st' : St} (hg : noGd l = true) (he : ∃ ob, evalList cx5 l st = some (st', ob) ∧ ob.holds) {Es : Env} {ws : World} {a : Act} {w : World} (hs : SRel Es ws st a w) {Q : Exit → Act → World → Prop} (hQ : ∀ a' w', SRel Es ws st' a' w' → Q .normal a' w') :
    wpList Try.prog #[] Q l a w := by
  obtain ⟨ob, h1, h2⟩ := he
  exact evalList_wp (cx := cx5) rtk1 hI5 hg h1 h2 hs hQ
theorem code5 {c : Code} {Λ : Hook} {p : List Nat} {st st' : St} (he : ∃ ob, evalCode cx5 Λ c p st = some (.norm st', ob) ∧ ob.holds) {Es : Env} {ws : World} {a : Act} {w : World} (hs : SRel Es ws st a w) {Q : Exit → Act → World → Prop} (hQ : ∀ a' w', SRel Es ws st' a' w' → Q .normal a' w') :
    c.wp Try.prog Q a w := by
  obtain ⟨ob, h1, h2⟩ := he
  refine wp_mono (evalCode_wp (cx := cx5) rtk1 hI5 c p st _ ob h1 h2 a w hs) fun e a' w' hm => ?_
  cases e <;> simp only [MatchO] at hm
  exact hQ a' w' hm
theorem rest5 {fn : Func} {c : Code} {Λ : Hook} {p : List Nat} {st : St} {r : AV} (he : ∃ ob, evalK cx5 Λ fn c p st = some (r, ob) ∧ ob.holds) (hr : st.hrest = fun _ => none) {ws : World} {a : Act} {w : World} (hs : SRel E0 ws st a w) :
    c.wp Try.prog (bodyPost Try.prog fn fun e w' => e = .returned (valT E0 r) ∧ RowKit.Below ws.heap.size ws w') a w := by
  obtain ⟨ob, h1, h2⟩ := he
  exact evalK_run (cx := cx5) rtk1 hI5 h1 h2 hr hs
theorem y2a (s : SmV) (p : W × W) : (y2 s p).nt = 30 := by kernel_rfl
theorem y2b (s : SmV) (p : W × W) : (y2 s p).lo = 0 := by kernel_rfl
theorem y2c (s : SmV) (p : W × W) : (y2 s p).next = 1 := by kernel_rfl
theorem y2d (s : SmV) (p : W × W) : (y2 s p).look 1 = eW p.1 := by kernel_rfl
theorem y2e (s : SmV) (p : W × W) : (y2 s p).look 2 = eW p.2 := by kernel_rfl
theorem oDa : opD.guard = none := by kernel_rfl
theorem oDb (s : SmV) (p : W × W) : eff Try.prog (opd (y2 s p).look) opD.op = some (.call 10 [(y2 s p).look 9]) := by kernel_rfl
theorem oDc (s : SmV) (p : W × W) : nrmL [(y2 s p).look 9] = some [eSm s] := by kernel_rfl
theorem oDd : opD.dst = some 10 := by kernel_rfl
theorem gB1 : noGd B1 = true := by kernel_rfl
theorem gB1a : noGd B1a = true := by kernel_rfl
theorem gB1b : noGd B1b = true := by kernel_rfl
theorem y4a (p : W × W) (D : SlD sSm') : (y4 p D).hrest = fun _ => none := by kernel_rfl

theorem calls5 (s : SmV) (p : W × W) (w : World) : Calls Try.prog 5 ([eSm s, eW p.1, eW p.2].map (val E0)).toArray w fun e w' => e = .returned (.bool true) ∧ RowKit.Below w.heap.size w w' := by
  refine calls_of_wp Try.func5 body5 ?_
  have hnt : Try.f5.ntmps = 30 := by kernel_rfl
  have hs0 := enter_rel (P := Try.prog) (fn := Try.f5) (args := [eSm s, eW p.1, eW p.2]) (by rw [hnt]; show 3 ≤ 30; omega) (fun v hv => by
    simp only [List.mem_cons, List.not_mem_nil, or_false] at hv
    rcases hv with rfl | rfl | rfl
    · exact pf_Sm s
    · rfl
    · rfl) w
  rw [hnt] at hs0
  refine wp_seq (reg5 (x1 s p) hs0 fun a1 w1' hs1 => ?_)
  show (Code.seq (.seq (.region 1 B1.toArray false) X5) Y5).wp Try.prog _ a1 w1'
  refine wp_seq (wp_seq (list_region (by simpa using gB1) ?_))
  rw [List.toList_toArray, B1_eq]
  refine wpList_app _ (noGd_spec gB1a) _ _ ?_
  refine list5 gB1a (x2 s p) hs1 fun a2 w2' hs2 => ⟨rfl, ?_⟩
  refine call_each s (tmp := 9) (y2a s p) (y2b s p) (y2c s p) (ents := [(1, eW p.1), (2, eW p.2)]) (fun x hx => by
    simp only [List.mem_cons, List.not_mem_nil, or_false] at hx
    rcases hx with rfl | rfl
    · exact ⟨y2d s p, trivial⟩
    · exact ⟨y2e s p, trivial⟩) oDa (oDb s p) (oDc s p) oDd (by omega) hs2 ?_
  intro D a3 w3' d1 d2 d3 hs3
  have hl : D.len < 2 ^ 63 := by omega
  refine list5 gB1b (x3 p D hl) hs3 fun a4 w4' hs4 => ?_
  show X5.wp Try.prog _ a4 w4'
  refine code5 (x4 p D hl) hs4 fun a5 w5' hs5 => ?_
  show Y5.wp Try.prog _ a5 w5'
  exact rest5 (x5 p D) (y4a p D) hs5
end Go.Rf
