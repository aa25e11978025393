/- Scalars: the law ScalarSound walked. -/
import Derived.Test.YtigiedlngfkfbaaSi1
import Derived.Test.YtigiedlngfkfbaaSe9
set_option linter.unusedVariables false
set_option linter.unusedSimpArgs false
set_option maxRecDepth 100000
namespace Go.Rf
open Go.Proofs

def pSo8 : List Nat := [1, 1, 0, 1, 4]
noncomputable def lp8 (D : SlD sSm') (p : W × W) : Lp CtE where
  keys := [20, 19, 18, 1, 2]
  names := []
  scr := wrAt Try.prog 8 pSo8
  vals s := [eI s.i, eI (BitVec.ofNat 64 D.len), D.at 1, eW p.1, eW p.2]
  blks s := []
  dec vs bs := match vs with
    | [i, _, _, _, _] => match cI.dec i with
      | some i => some ⟨i⟩
      | none => none
    | _ => none
  fx := [(1, some D.blk)]
noncomputable def cx8 : Cx := ⟨Try.prog, tabOf ti1, inlF Try.prog (tabOf ti1) noHooks 3⟩
theorem hI8 : InlOk cx8.P cx8.inl := inlF_ok rti1 3
def bad8 : Bool := !true
noncomputable def step8 (D : SlD sSm') (p : W × W) (s : CtE) : Rd CtE := .br (s.lt D.len) (.br (bad8) (.ret s) (.norm s.nxt)) (.exit 0 s)
theorem goal8 (D : SlD sSm') (p : W × W) (s : CtE) (hs : s.inv D.len) : LoopGoal Try.prog (loopAt Try.prog 8 pSo8) (lp8 D p) (CtE.T D.len) s 2 61 0 := by
  refine lp_rule (cx := cx8) rti1 hI8 (Λ := fun _ => none) (p := []) (lp8 D p) (CtE.inv D.len) (CtE.mu D.len) (step8 D p) (CtE.T D.len) 2 61 0 (fun _ => ⟨rfl, rfl⟩) ?_ ?_ s hs
  · intro s r hh hi
    refine fl_ok (g := s.lt D.len) (L := [0 ≤ toZ .i64 s.i ∧ toZ .i64 s.i < toZ .i64 (BitVec.ofNat 64 D.len), D.pre.length = D.pre.length, (toZ .i64 s.i).toNat < D.len]) (by kernel_rfl) (fun hg p hp => ?_)
    rw [CtE.lt_iff D.len hi] at hg
    have h1 := hi.big
    simp only [List.mem_cons, List.not_mem_nil, or_false] at hp
    rcases hp with rfl | rfl | rfl
    · rw [toZ_nat (by omega), toZ_nat (by rw [ofNat_toNat (by omega)]; exact h1), ofNat_toNat (by omega)]
      omega
    · trivial
    · rw [toZ_nat (by omega)]; omega
  · refine CtE.good D.len ?_ ?_
    · intro s hi hg
      simp only [step8, Rd.sel, hg, show bad8 = false from rfl, if_true, Bool.false_eq_true, if_false]
    · intro s hi hg
      simp only [step8, Rd.sel, hg, Bool.false_eq_true, if_false]

/-! The second loop. -/
structure SwL where
  s : SmV
  x : W
  i : W
def zF (j : Nat) : W := if j = 2 then 64#64 else if j = 1 then 32#64 else if j = 0 then 16#64 else 0#64
def c3z : Cod (Nat → W) := fI.arr 3
def pSw8 : List Nat := [1, 1, 1, 1, 0, 1, 4]
noncomputable def lpS8 : Lp SwL where
  keys := [36, 35, 3, 1]
  names := [0]
  scr := wrAt Try.prog 8 pSw8
  vals s := [eI s.i, c3z.enc zF, .ptr 0 [], eW s.x]
  blks s := [⟨30, eSm s.s⟩]
  dec vs bs := match vs, bs with
    | [i, _, _, x], [⟨_, b⟩] => match cI.dec i, cW.dec x, cSm.dec b with
      | some i, some x, some s => some ⟨s, x, i⟩
      | _, _, _ => none
    | _, _ => none
def SwL.go (s : SwL) : Bool := ltB .i64 s.i 3#64
def SwL.nxt (s : SwL) : SwL := ⟨s.s, s.x, s.i + 1#64⟩
noncomputable def SwL.bad (s : SwL) : Bool := (swErr (zF (ixN s.i)) s.s.a != 0#64) || !hasC (swRes (zF (ixN s.i)) s.s.a) (swD (zF (ixN s.i)) s.x)
noncomputable def SwL.step (s : SwL) : Rd SwL := .br s.go (.br s.bad (.ret s) (.norm s.nxt)) (.exit 2 s)
def SwL.mu (s : SwL) : Nat := 3 - s.i.toNat
structure SwL.inv (s : SwL) : Prop where
  le : s.i.toNat ≤ 3
  has : hasC s.s.a s.x = true
theorem SwL.lt {s : SwL} (h : s.inv) (hg : s.go = true) : s.i.toNat < 3 := by
  have h1 := h.le
  rw [SwL.go, ltB_nat (by omega) (by decide), decide_eq_true_eq] at hg
  exact hg
theorem SwL.dec (s : SwL) (h : s.inv) (hg : s.go = true) : s.nxt.inv ∧ s.nxt.mu < s.mu := by
  have h1 := SwL.lt h hg
  have e : (s.i + 1#64).toNat = s.i.toNat + 1 := succ_nat (by omega)
  refine ⟨⟨?_, h.has⟩, ?_⟩
  · show (s.i + 1#64).toNat ≤ 3; omega
  · show 3 - (s.i + 1#64).toNat < 3 - s.i.toNat; omega
def SwL.T (s : SwL) : Rd SwL := .exit 2 (runN SwL.go SwL.nxt 3 s)
theorem zF_one {j : Nat} (h : j < 3) : zF j = 16#64 ∨ zF j = 32#64 ∨ zF j = 64#64 := by
  have : j = 0 ∨ j = 1 ∨ j = 2 := by omega
  rcases this with rfl | rfl | rfl
  · exact .inl rfl
  · exact .inr (.inl rfl)
  · exact .inr (.inr rfl)
theorem SwL.bad_no {s : SwL} (h : s.inv) (hg : s.go = true) : s.bad = false := by
  have h1 := SwL.lt h hg
  have hj : ixN s.i < 3 := by
    unfold ixN
    rw [toZ_nat (by omega)]; omega
  obtain ⟨q1, q2⟩ := sw_good (zF_one hj) h.has
  unfold SwL.bad
  rw [q1, q2]; rfl
theorem goalS8 (s : SwL) (h : s.inv) : LoopGoal Try.prog (loopAt Try.prog 8 pSw8) lpS8 SwL.T s 2 61 0 := by
  refine lp_rule (cx := cx8) rti1 hI8 (Λ := fun _ => none) (p := []) lpS8 SwL.inv SwL.mu SwL.step SwL.T 2 61 0 (fun _ => ⟨rfl, rfl⟩) ?_ ?_ s h
  · intro s r h hi
    exact fl_ok (g := s.go) (L := [0 ≤ toZ .i64 s.i ∧ toZ .i64 s.i < ((3 : Nat) : Int)]) (by kernel_rfl) (fun hg p hp => by
      simp only [List.mem_singleton] at hp
      subst hp
      exact (ixs_hold (x := s.i) (n := 3) (by decide) (SwL.lt hi hg) 1) _ (List.mem_cons_self ..))
  · refine good_run (go := SwL.go) (next := SwL.nxt) SwL.dec (fun s h => by simp only [SwL.mu]; omega) ?_ ?_
    · intro s hi hg
      simp only [SwL.step, Rd.sel, hg, SwL.bad_no hi hg, if_true, Bool.false_eq_true, if_false]
    · intro s hi hg
      simp only [SwL.step, Rd.sel, hg, Bool.false_eq_true, if_false]

/-! ### The law's walk -/
noncomputable def C0 : Code := codeOf 8 [0]
noncomputable def C1 : Code := codeOf 8 [1, 0]
noncomputable def C3 : List Oper := opsOf 8 [1, 1, 0, 0]
noncomputable def C3a : List Oper := C3.take 1
noncomputable def opE : Oper := (C3.drop 1).headD default
noncomputable def C3b : List Oper := C3.drop 2
theorem C3_eq : C3 = C3a ++ (opE :: C3b) := by kernel_rfl
noncomputable def X8 : Code := .block 0 (.loop (loopAt Try.prog 8 pSo8))
noncomputable def Y8 : Code := codeOf 8 [1, 1, 1]
theorem body8 : Try.f8.body = some (.seq C0 (.seq C1 (.seq (.seq (.region 3 C3.toArray false) X8) Y8))) := by kernel_rfl
noncomputable def stNo : St := ⟨[], fun _ => .un, [], fun _ => none, 0, 0, 0⟩
noncomputable def outM (x : Option (Outc × Ob)) : St := match x with
  | some (.norm st, _) => st
  | some (.br _ _ (.norm st), _) => st
  | _ => stNo
noncomputable def outR (x : Option (Outc × Ob)) : Outc := match x with
  | some (.br _ x _, _) => x
  | _ => .norm stNo
noncomputable def q0 (s : SmV) (p : W × W) : St := St.enter [eSm s, eW p.1, eW p.2] (fun _ => none) 0 61
noncomputable def q1 (s : SmV) (p : W × W) : St := outM (evalCode cx8 (fun _ => none) C0 [] (q0 s p))
noncomputable def q2 (s : SmV) (p : W × W) : St := outM (evalCode cx8 (fun _ => none) C1 [] (q1 s p))
noncomputable def q2r (s : SmV) (p : W × W) : Outc := outR (evalCode cx8 (fun _ => none) C1 [] (q1 s p))
theorem r1 (s : SmV) (p : W × W) : ∃ ob, evalCode cx8 (fun _ => none) C0 [] (q0 s p) = some (.norm (q1 s p), ob) ∧ ob.holds := fl_two (L := []) (by kernel_rfl) (by kernel_rfl) (by simp)
theorem r2 (s : SmV) (p : W × W) : ∃ ob, evalCode cx8 (fun _ => none) C1 [] (q1 s p) = some (.br (!true) (q2r s p) (.norm (q2 s p)), ob) ∧ ob.holds := fl_two (L := []) (by kernel_rfl) (by kernel_rfl) (by simp)
noncomputable def q3 (s : SmV) (p : W × W) : St := stEv (evalList cx8 C3a (q2 s p))
theorem r3 (s : SmV) (p : W × W) : ∃ ob, evalList cx8 C3a (q2 s p) = some (q3 s p, ob) ∧ ob.holds := fl_two (L := []) (by kernel_rfl) (by kernel_rfl) (by simp)
def entQ (p : W × W) : List (Nat × AV) := [(1, eW p.1), (2, eW p.2), (3, .ptr 0 [])]
noncomputable def q4 (s : SmV) (p : W × W) (D : SlD sSm') : St := slSt D 1 18 (entQ p) (hbs0 s) 61 0
noncomputable def q5 (s : SmV) (p : W × W) (D : SlD sSm') : St := stEv (evalList cx8 C3b (q4 s p D))
theorem r5 (s : SmV) (p : W × W) (D : SlD sSm') (hl : D.len < 2 ^ 63) : ∃ ob, evalList cx8 C3b (q4 s p D) = some (q5 s p D, ob) ∧ ob.holds := fl_two (L := [0 ≤ toZ .i64 (BitVec.ofNat 64 D.len)]) (by kernel_rfl) (by kernel_rfl) (fun p hp => by
  simp only [List.mem_singleton] at hp
  subst hp
  rw [toZ_nat (by rw [ofNat_toNat (by omega)]; exact hl)]; omega)
noncomputable def hk8 (D : SlD sSm') (p : W × W) : Hook := fun q => if q == [4] then some ((lp8 D p).hk (CtE.T D.len)) else none
noncomputable def q6 (s : SmV) (p : W × W) (D : SlD sSm') : St := outM (evalCode cx8 (hk8 D p) X8 [] (q5 s p D))
theorem r6 (s : SmV) (p : W × W) (D : SlD sSm') (hl : D.len < 2 ^ 63) : ∃ ob, evalCode cx8 (hk8 D p) X8 [] (q5 s p D) = some (.norm (q6 s p D), ob) ∧ ob.holds :=
  fl_two (L := [LoopGoal Try.prog (loopAt Try.prog 8 pSo8) (lp8 D p) (CtE.T D.len) ⟨0#64⟩ 2 61 0]) (by kernel_rfl) (by kernel_rfl) (fun p hp => by
    simp only [List.mem_singleton] at hp
    subst hp
    exact goal8 D _ ⟨0#64⟩ ⟨hl, Nat.zero_le _⟩)
noncomputable def hkS : Hook := fun q => if q == [1, 0, 1, 4] then some (lpS8.hk SwL.T) else none
theorem r7 (s : SmV) (p : W × W) (D : SlD sSm') : ∃ ob, evalK cx8 hkS Try.f8 Y8 [] (q6 s p D) = some (eB true, ob) ∧ ob.holds :=
  fg_two (L := [([!(!hasC s.a p.1)], LoopGoal Try.prog (loopAt Try.prog 8 pSw8) lpS8 SwL.T ⟨s, p.1, 0#64⟩ 2 61 0)]) (by kernel_rfl) (by kernel_rfl) (fun e he hg => by
    simp only [List.mem_singleton] at he
    subst he
    have h := hg _ (List.mem_singleton.2 rfl)
    exact goalS8 _ ⟨by show (0#64 : W).toNat ≤ 3; decide, by simpa using h⟩)

theorem reg8 {l : List Oper} {st st' : St} (hg : noGd l = true) (he : ∃ ob, evalList cx8 l st = some (st', ob) ∧ ob.holds) {Es : Env} {ws : World} {a : Act} {w : World} (hs : SRel Es ws st a w) {Q : Exit → Act → World → Prop} (hQ : ∀ a' w', SRel Es ws st' a' w' → Q .normal a' w') :
    wpList Try.prog #[] Q l a w := by
  obtain ⟨ob, h1, h2⟩ := he
  exact evalList_wp (cx := cx8) rti1 hI8 hg h1 h2 hs hQ
theorem code8 {c : Code} {Λ : Hook} {p : List Nat} {st st' : St} (he : ∃ ob, evalCode cx8 Λ c p st = some (.norm st', ob) ∧ ob.holds) {Es : Env} {ws : World} {a : Act} {w : World} (hs : SRel Es ws st a w) {Q : Exit → Act → World → Prop} (hQ : ∀ a' w', SRel Es ws st' a' w' → Q .normal a' w') :
    c.wp Try.prog Q a w := by
  obtain ⟨ob, h1, h2⟩ := he
  refine wp_mono (evalCode_wp (cx := cx8) rti1 hI8 c p st _ ob h1 h2 a w hs) fun e a' w' hm => ?_
  cases e <;> simp only [MatchO] at hm
  exact hQ a' w' hm
/-- A test that is known. -/
theorem codeF8 {c : Code} {Λ : Hook} {p : List Nat} {st st' : St} {o : Outc} (he : ∃ ob, evalCode cx8 Λ c p st = some (.br (!true) o (.norm st'), ob) ∧ ob.holds) {Es : Env} {ws : World} {a : Act} {w : World} (hs : SRel Es ws st a w) {Q : Exit → Act → World → Prop} (hQ : ∀ a' w', SRel Es ws st' a' w' → Q .normal a' w') :
    c.wp Try.prog Q a w := by
  obtain ⟨ob, h1, h2⟩ := he
  refine wp_mono (evalCode_wp (cx := cx8) rti1 hI8 c p st _ ob h1 h2 a w hs) fun e a' w' hm => ?_
  simp only [MatchO, Bool.not_true, Bool.false_eq_true, if_false] at hm
  cases e <;> simp only [MatchO] at hm
  exact hQ a' w' hm
theorem rest8 {fn : Func} {c : Code} {Λ : Hook} {p : List Nat} {st : St} {r : AV} (he : ∃ ob, evalK cx8 Λ fn c p st = some (r, ob) ∧ ob.holds) (hr : st.hrest = fun _ => none) {ws : World} {a : Act} {w : World} (hs : SRel E0 ws st a w) :
    c.wp Try.prog (bodyPost Try.prog fn fun e w' => e = .returned (valT E0 r) ∧ RowKit.Below ws.heap.size ws w') a w := by
  obtain ⟨ob, h1, h2⟩ := he
  exact evalK_run (cx := cx8) rti1 hI8 h1 h2 hr hs
theorem q3a (s : SmV) (p : W × W) : (q3 s p).nt = 61 := by kernel_rfl
theorem q3b (s : SmV) (p : W × W) : (q3 s p).lo = 0 := by kernel_rfl
theorem q3c (s : SmV) (p : W × W) : (q3 s p).next = 1 := by kernel_rfl
theorem q3d (s : SmV) (p : W × W) : (q3 s p).look 1 = eW p.1 := by kernel_rfl
theorem q3e (s : SmV) (p : W × W) : (q3 s p).look 2 = eW p.2 := by kernel_rfl
theorem q3f (s : SmV) (p : W × W) : (q3 s p).look 3 = .ptr 0 [] := by kernel_rfl
theorem q3g (s : SmV) (p : W × W) : (q3 s p).hp 0 = some ⟨30, eSm s⟩ := by kernel_rfl
theorem oEa : opE.guard = none := by kernel_rfl
theorem oEb (s : SmV) (p : W × W) : eff Try.prog (opd (q3 s p).look) opE.op = some (.call 10 [(q3 s p).look 17]) := by kernel_rfl
theorem oEc (s : SmV) (p : W × W) : nrmL [(q3 s p).look 17] = some [eSm s] := by kernel_rfl
theorem oEd : opE.dst = some 18 := by kernel_rfl
theorem gC3 : noGd C3 = true := by kernel_rfl
theorem gC3a : noGd C3a = true := by kernel_rfl
theorem gC3b : noGd C3b = true := by kernel_rfl
theorem q6a (s : SmV) (p : W × W) (D : SlD sSm') : (q6 s p D).hrest = fun _ => none := by kernel_rfl
/-- The call of Each, some blocks kept. -/
theorem call_each' (s : SmV) {st : St} {nt dst : Nat} (hnt : st.nt = nt) (hlo : st.lo = 0) (hnx : st.next = 1) {ents : List (Nat × AV)} {hbs : List (Nat × Option Blk)} (he : ∀ x ∈ ents, st.look x.1 = x.2 ∧ nlt 1 x.2) (hb : ∀ x ∈ hbs, x.1 < 1 ∧ st.hp x.1 = x.2 ∧ ∀ B, x.2 = some B → nlt 1 B.v) {x : AV} {o : Oper} {rest : List Oper}
    (hgd : o.guard = none) (hev : eff Try.prog (opd st.look) o.op = some (.call 10 [x])) (hn : nrmL [x] = some [eSm s]) (hd : o.dst = some dst) (hdst : dst < nt)
    {ws : World} {a : Act} {w : World} (hs : SRel E0 ws st a w) {Q : Exit → Act → World → Prop}
    (hK : ∀ (D : SlD sSm') a' w', D.Fix 30 → D.len = 29 → (∀ i, i < 29 → D.els i = eachF s 14 i) → SRel E0 ws (slSt D 1 dst ents hbs nt 0) a' w' → wpList Try.prog #[] Q rest a' w') : wpList Try.prog #[] Q (o :: rest) a w := by
  have hk : Kept st st.next ents hbs := ⟨fun x hx => ⟨fun E y h => by rw [← (he x hx).1]; exact h, by rw [hnx]; exact (he x hx).2⟩, fun x hx => by rw [hnx]; exact hb x hx, by omega⟩
  refine step_makes (P := Try.prog) hs hgd hev hn (each_makes s) hd (by omega) hk (flatSm.good _) ?_
  intro D a' w' h1 h2 h3 h4
  rw [hnt, hlo, hnx] at h4
  exact hK D a' w' h1.fix h2 h3 h4
theorem nlt_Sm (s : SmV) : nlt 1 (eSm s) := nlt_of_ok (E := E0) (fun _ _ => rfl) (ok_of_pf E0 _ (pf_Sm s))

theorem calls8 (s : SmV) (p : W × W) (w : World) : Calls Try.prog 8 ([eSm s, eW p.1, eW p.2].map (val E0)).toArray w fun e w' => e = .returned (.bool true) ∧ RowKit.Below w.heap.size w w' := by
  refine calls_of_wp Try.func8 body8 ?_
  have hnt : Try.f8.ntmps = 61 := by kernel_rfl
  have hs0 := enter_rel (P := Try.prog) (fn := Try.f8) (args := [eSm s, eW p.1, eW p.2]) (by rw [hnt]; show 3 ≤ 61; omega) (fun v hv => by
    simp only [List.mem_cons, List.not_mem_nil, or_false] at hv
    rcases hv with rfl | rfl | rfl
    · exact pf_Sm s
    · rfl
    · rfl) w
  rw [hnt] at hs0
  refine wp_seq (code8 (r1 s p) hs0 fun a1 w1' hs1 => ?_)
  show (Code.seq C1 (.seq (.seq (.region 3 C3.toArray false) X8) Y8)).wp Try.prog _ a1 w1'
  refine wp_seq (codeF8 (r2 s p) hs1 fun a2 w2' hs2 => ?_)
  show (Code.seq (.seq (.region 3 C3.toArray false) X8) Y8).wp Try.prog _ a2 w2'
  refine wp_seq (wp_seq (list_region (by simpa using gC3) ?_))
  rw [List.toList_toArray, C3_eq]
  refine wpList_app _ (noGd_spec gC3a) _ _ ?_
  refine reg8 gC3a (r3 s p) hs2 fun a3 w3' hs3 => ⟨rfl, ?_⟩
  refine call_each' s (q3a s p) (q3b s p) (q3c s p) (ents := entQ p) (hbs := hbs0 s) (fun x hx => by
    simp only [entQ, List.mem_cons, List.not_mem_nil, or_false] at hx
    rcases hx with rfl | rfl | rfl
    · exact ⟨q3d s p, trivial⟩
    · exact ⟨q3e s p, trivial⟩
    · exact ⟨q3f s p, by show 0 < 1; omega⟩) (fun x hx => by
    simp only [hbs0, List.mem_singleton] at hx
    subst hx
    exact ⟨by show 0 < 1; omega, q3g s p, fun B hB => by cases hB; exact nlt_Sm s⟩) oEa (oEb s p) (oEc s p) oEd (by omega) hs3 ?_
  intro D a4 w4' d1 d2 d3 hs4
  have hl : D.len < 2 ^ 63 := by omega
  refine reg8 gC3b (r5 s p D hl) hs4 fun a5 w5' hs5 => ?_
  show X8.wp Try.prog _ a5 w5'
  refine code8 (r6 s p D hl) hs5 fun a6 w6' hs6 => ?_
  show Y8.wp Try.prog _ a6 w6'
  exact rest8 (r7 s p D) (q6a s p D) hs6
end Go.Rf
