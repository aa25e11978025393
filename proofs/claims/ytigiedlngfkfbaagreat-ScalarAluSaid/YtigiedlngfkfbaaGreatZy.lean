/- Scalars: the law ScalarAlu walked. -/
import Derived.Test.YtigiedlngfkfbaaGreatZx
import Derived.Test.YtigiedlngfkfbaaGreatZBA
set_option linter.unusedVariables false
set_option linter.unusedSimpArgs false
set_option maxRecDepth 100000
namespace Go.Rf.E
open Go.Proofs

/-- Counting through a slice. -/
structure CtE where
  i : W
section
variable (n : Nat)
def CtE.lt (s : CtE) : Bool := ltB .i64 s.i (BitVec.ofNat 64 n)
def CtE.nxt (s : CtE) : CtE := ⟨s.i + 1#64⟩
structure CtE.inv (s : CtE) : Prop where
  big : n < 2 ^ 63
  le : s.i.toNat ≤ n
def CtE.mu (s : CtE) : Nat := n - s.i.toNat
def CtE.run (s : CtE) : CtE := runN (CtE.lt n) CtE.nxt n s
def CtE.T (s : CtE) : Rd CtE := .exit 0 ⟨(s.run n).i⟩
theorem CtE.lt_iff {s : CtE} (h : s.inv n) : s.lt n = true ↔ s.i.toNat < n := by
  have h1 := h.big
  have h2 := h.le
  unfold CtE.lt
  rw [ltB_nat (by omega) (by rw [ofNat_toNat (by omega)]; exact h1), ofNat_toNat (by omega), decide_eq_true_eq]
theorem CtE.dec (s : CtE) (h : s.inv n) (hg : s.lt n = true) : s.nxt.inv n ∧ s.nxt.mu n < s.mu n := by
  rw [CtE.lt_iff n h] at hg
  have h1 := h.big
  have e : (s.i + 1#64).toNat = s.i.toNat + 1 := succ_nat (by omega)
  refine ⟨⟨h1, ?_⟩, ?_⟩
  · show (s.i + 1#64).toNat ≤ n; omega
  · show n - (s.i + 1#64).toNat < n - s.i.toNat; omega
/-- A round that finds nothing wrong. -/
theorem CtE.good {step : CtE → Rd CtE} (h1 : ∀ s, s.inv n → s.lt n = true → (step s).sel = .norm s.nxt) (h2 : ∀ s, s.inv n → s.lt n = false → (step s).sel = .exit 0 s) :
    ∀ s : CtE, s.inv n → Good (CtE.inv n) (CtE.mu n) (CtE.T n) s (step s).sel :=
  good_run (go := CtE.lt n) (next := CtE.nxt) (CtE.dec n) (fun s h => by unfold CtE.mu; omega) h1 h2
end
def elE (D : SlD sSm') (s : CtE) : SmV := mkSm (D.els (ixN s.i))
def pE : List Nat := [1, 0, 1, 4]
noncomputable def lp3 (D : SlD sSm') : Lp CtE where
  keys := [12, 11, 10]
  names := []
  scr := wrAt Tryz.prog 3 pE
  vals s := [eI s.i, eI (BitVec.ofNat 64 D.len), D.at 1]
  blks s := []
  dec vs bs := match vs with
    | [i, _, _] => match cI.dec i with
      | some i => some ⟨i⟩
      | none => none
    | _ => none
  fx := [(1, some D.blk)]
noncomputable def cx1 : Cx := ⟨Tryz.prog, tabOf zt3, inlF Tryz.prog (tabOf zt3) noHooks 3⟩
theorem hI1 : InlOk cx1.P cx1.inl := inlF_ok rzt3 3
noncomputable def difA (s : SmV) : Bool := !eqC (aluSc s.op s.w s.a s.b) (aluSc s.op s.w s.a s.b) || (aluScE s.op s.a s.b != aluScE s.op s.a s.b)
theorem difA_no (s : SmV) : difA s = false := by
  unfold difA
  rw [eqC_iff.2 rfl]
  simp
noncomputable def step3 (D : SlD sSm') (s : CtE) : Rd CtE := .br (s.lt D.len) (.br (difA (elE D s)) (.ret s) (.norm s.nxt)) (.exit 0 s)
theorem goal3 (D : SlD sSm') (s : CtE) (hs : s.inv D.len) : LoopGoal Tryz.prog (loopAt Tryz.prog 3 pE) (lp3 D) (CtE.T D.len) s 2 50 0 := by
  refine lp_rule (cx := cx1) rzt3 hI1 (Λ := fun _ => none) (p := []) (lp3 D) (CtE.inv D.len) (CtE.mu D.len) (step3 D) (CtE.T D.len) 2 50 0 (fun _ => ⟨rfl, rfl⟩) ?_ ?_ s hs
  · intro s r hh hi
    refine fl_ok (g := s.lt D.len) (L := [0 ≤ toZ .i64 s.i ∧ toZ .i64 s.i < toZ .i64 (BitVec.ofNat 64 D.len), D.pre.length = D.pre.length, (toZ .i64 s.i).toNat < D.len]) (by kernel_rfl) (fun hg p hp => ?_)
    rw [CtE.lt_iff D.len hi] at hg
    have h1 := hi.big
    simp only [List.mem_cons, List.not_mem_nil, or_false] at hp
    rcases hp with rfl | rfl | rfl
    · rw [toZ_nat (by omega), toZ_nat (by rw [ofNat_toNat (by omega)]; exact h1), ofNat_toNat (by omega)]
      omega
    · trivial
    · rw [toZ_nat (by omega)]; omega
  · refine CtE.good D.len ?_ ?_
    · intro s hi hg
      simp only [step3, Rd.sel, hg, difA_no, if_true, Bool.false_eq_true, if_false]
    · intro s hi hg
      simp only [step3, Rd.sel, hg, Bool.false_eq_true, if_false]

/-! ### The law's walk -/
noncomputable def A0 : List Oper := opsOf 3 [0]
noncomputable def A1 : List Oper := opsOf 3 [1, 0, 0]
noncomputable def A1a : List Oper := A1.take 1
noncomputable def opC : Oper := (A1.drop 1).headD default
noncomputable def A1b : List Oper := A1.drop 2
noncomputable def A9 : List Oper := opsOf 3 [1, 1, 0]
theorem A1_eq : A1 = A1a ++ (opC :: A1b) := by kernel_rfl
noncomputable def X3 : Code := .block 0 (.loop (loopAt Tryz.prog 3 pE))
noncomputable def Y3 : Code := .seq (.region 9 A9.toArray false) .ret
theorem body3 : Tryz.f3.body = some (.seq (.region 0 A0.toArray false) (.seq (.seq (.region 1 A1.toArray false) X3) Y3)) := by kernel_rfl
noncomputable def u0 (s : SmV) : St := St.enter [eSm s] (fun _ => none) 0 50
noncomputable def u1 (s : SmV) : St := stEv (evalList cx1 A0 (u0 s))
noncomputable def u2 (s : SmV) : St := stEv (evalList cx1 A1a (u1 s))
noncomputable def v2 (D : SlD sSm') : St := slSt D 1 10 [] [] 50 0
noncomputable def u3 (D : SlD sSm') : St := stEv (evalList cx1 A1b (v2 D))
theorem w1 (s : SmV) : ∃ ob, evalList cx1 A0 (u0 s) = some (u1 s, ob) ∧ ob.holds := fl_two (L := []) (by kernel_rfl) (by kernel_rfl) (by simp)
theorem w2 (s : SmV) : ∃ ob, evalList cx1 A1a (u1 s) = some (u2 s, ob) ∧ ob.holds := fl_two (L := []) (by kernel_rfl) (by kernel_rfl) (by simp)
theorem w3 (D : SlD sSm') (hl : D.len < 2 ^ 63) : ∃ ob, evalList cx1 A1b (v2 D) = some (u3 D, ob) ∧ ob.holds := fl_two (L := [0 ≤ toZ .i64 (BitVec.ofNat 64 D.len)]) (by kernel_rfl) (by kernel_rfl) (fun p hp => by
  simp only [List.mem_singleton] at hp
  subst hp
  rw [toZ_nat (by rw [ofNat_toNat (by omega)]; exact hl)]; omega)
noncomputable def hk3 (D : SlD sSm') : Hook := fun p => if p == [4] then some ((lp3 D).hk (CtE.T D.len)) else none
noncomputable def outN (x : Option (Outc × Ob)) : St := match x with
  | some (.norm st, _) => st
  | _ => ⟨[], fun _ => .un, [], fun _ => none, 0, 0, 0⟩
noncomputable def u4 (D : SlD sSm') : St := outN (evalCode cx1 (hk3 D) X3 [] (u3 D))
theorem w4 (D : SlD sSm') (hl : D.len < 2 ^ 63) : ∃ ob, evalCode cx1 (hk3 D) X3 [] (u3 D) = some (.norm (u4 D), ob) ∧ ob.holds :=
  fl_two (L := [LoopGoal Tryz.prog (loopAt Tryz.prog 3 pE) (lp3 D) (CtE.T D.len) ⟨0#64⟩ 2 50 0]) (by kernel_rfl) (by kernel_rfl) (fun p hp => by
    simp only [List.mem_singleton] at hp
    subst hp
    exact goal3 D ⟨0#64⟩ ⟨hl, Nat.zero_le _⟩)
theorem w5 (D : SlD sSm') : ∃ ob, evalK cx1 (fun _ => none) Tryz.f3 Y3 [] (u4 D) = some (eB true, ob) ∧ ob.holds := fl_two (L := []) (by kernel_rfl) (by kernel_rfl) (by simp)

theorem reg1 {l : List Oper} {st st' : St} (he : ∃ ob, evalList cx1 l st = some (st', ob) ∧ ob.holds) {id : Nat} {Es : Env} {ws : World} {a : Act} {w : World} (hs : SRel Es ws st a w) {Q : Exit → Act → World → Prop} (hQ : ∀ a' w', SRel Es ws st' a' w' → Q .normal a' w') :
    (Code.region id l.toArray false).wp Tryz.prog Q a w := by
  obtain ⟨ob, h1, h2⟩ := he
  exact region_wp (cx := cx1) rzt3 hI1 h1 h2 hs hQ
theorem list1 {l : List Oper} {st st' : St} (hg : noGd l = true) (he : ∃ ob, evalList cx1 l st = some (st', ob) ∧ ob.holds) {Es : Env} {ws : World} {a : Act} {w : World} (hs : SRel Es ws st a w) {Q : Exit → Act → World → Prop} (hQ : ∀ a' w', SRel Es ws st' a' w' → Q .normal a' w') :
    wpList Tryz.prog #[] Q l a w := by
  obtain ⟨ob, h1, h2⟩ := he
  exact evalList_wp (cx := cx1) rzt3 hI1 hg h1 h2 hs hQ
theorem code1 {c : Code} {Λ : Hook} {p : List Nat} {st st' : St} (he : ∃ ob, evalCode cx1 Λ c p st = some (.norm st', ob) ∧ ob.holds) {Es : Env} {ws : World} {a : Act} {w : World} (hs : SRel Es ws st a w) {Q : Exit → Act → World → Prop} (hQ : ∀ a' w', SRel Es ws st' a' w' → Q .normal a' w') :
    c.wp Tryz.prog Q a w := by
  obtain ⟨ob, h1, h2⟩ := he
  refine wp_mono (evalCode_wp (cx := cx1) rzt3 hI1 c p st _ ob h1 h2 a w hs) fun e a' w' hm => ?_
  cases e <;> simp only [MatchO] at hm
  exact hQ a' w' hm
theorem rest1 {fn : Func} {c : Code} {Λ : Hook} {p : List Nat} {st : St} {r : AV} (he : ∃ ob, evalK cx1 Λ fn c p st = some (r, ob) ∧ ob.holds) (hr : st.hrest = fun _ => none) {ws : World} {a : Act} {w : World} (hs : SRel E0 ws st a w) :
    c.wp Tryz.prog (bodyPost Tryz.prog fn fun e w' => e = .returned (valT E0 r) ∧ RowKit.Below ws.heap.size ws w') a w := by
  obtain ⟨ob, h1, h2⟩ := he
  exact evalK_run (cx := cx1) rzt3 hI1 h1 h2 hr hs
theorem u2a (s : SmV) : (u2 s).nt = 50 := by kernel_rfl
theorem u2b (s : SmV) : (u2 s).lo = 0 := by kernel_rfl
theorem u2c (s : SmV) : (u2 s).next = 1 := by kernel_rfl
theorem oCa : opC.guard = none := by kernel_rfl
theorem oCb (s : SmV) : eff Tryz.prog (opd (u2 s).look) opC.op = some (.call 5 [(u2 s).look 9]) := by kernel_rfl
theorem oCc (s : SmV) : nrmL [(u2 s).look 9] = some [eSm s] := by kernel_rfl
theorem oCd : opC.dst = some 10 := by kernel_rfl
theorem gA1 : noGd A1 = true := by kernel_rfl
theorem gA1a : noGd A1a = true := by kernel_rfl
theorem gA1b : noGd A1b = true := by kernel_rfl
theorem u4a (D : SlD sSm') : (u4 D).hrest = fun _ => none := by kernel_rfl
theorem calls3 (s : SmV) (w : World) : Calls Tryz.prog 3 ([eSm s].map (val E0)).toArray w fun e w' => e = .returned (.bool true) ∧ RowKit.Below w.heap.size w w' := by
  refine calls_of_wp Tryz.func3 body3 ?_
  have hnt : Tryz.f3.ntmps = 50 := by kernel_rfl
  have hs0 := enter_rel (P := Tryz.prog) (fn := Tryz.f3) (args := [eSm s]) (by rw [hnt]; show 1 ≤ 50; omega) (fun v hv => by
    obtain rfl := List.mem_singleton.1 hv
    exact pf_Sm s) w
  rw [hnt] at hs0
  refine wp_seq (reg1 (w1 s) hs0 fun a1 w1' hs1 => ?_)
  show (Code.seq (.seq (.region 1 A1.toArray false) X3) Y3).wp Tryz.prog _ a1 w1'
  refine wp_seq (wp_seq (list_region (by simpa using gA1) ?_))
  rw [List.toList_toArray, A1_eq]
  refine wpList_app _ (noGd_spec gA1a) _ _ ?_
  refine list1 gA1a (w2 s) hs1 fun a2 w2' hs2 => ⟨rfl, ?_⟩
  have hk : Kept (u2 s) (u2 s).next [] [] := ⟨fun x hx => by simp at hx, fun x hx => by simp at hx, by rw [u2b, u2c]; omega⟩
  refine step_makes (P := Tryz.prog) hs2 oCa (oCb s) (oCc s) (each_makes s) oCd (by rw [u2a]; omega) hk (flatSm.good _) ?_
  intro D a3 w3' d1 d2 d3 hs3
  rw [u2a, u2b, u2c] at hs3
  have hl : D.len < 2 ^ 63 := by omega
  refine list1 gA1b (w3 D hl) hs3 fun a4 w4' hs4 => ?_
  show X3.wp Tryz.prog _ a4 w4'
  refine code1 (w4 D hl) hs4 fun a5 w5' hs5 => ?_
  show Y3.wp Tryz.prog _ a5 w5'
  exact rest1 (w5 D) (u4a D) hs5
end Go.Rf.E
