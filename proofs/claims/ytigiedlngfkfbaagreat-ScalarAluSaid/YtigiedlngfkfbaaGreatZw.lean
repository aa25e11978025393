/- Scalars: the document's Alu is the program's. -/
import Derived.Test.YtigiedlngfkfbaaGreatZv
set_option linter.unusedVariables false
set_option linter.unusedSimpArgs false
set_option maxRecDepth 100000
namespace Go.Rf
open Go.Proofs

theorem zbyB_nat {sz : W} (hs : sz = 32#64 ∨ sz = 64#64) (b : Sc) : (byB sz b).toNat = b.s.lo.toNat % sz.toNat ∧ (byB sz b).toNat < 64 := by
  have e : byB sz b = b.s.lo % sz := by
    show ((b.s.lo.umod sz).setWidth 64 : W) = _
    rw [BitVec.umod_eq, BitVec.setWidth_eq]
  rw [e, BitVec.toNat_umod]
  refine ⟨rfl, ?_⟩
  rcases hs with rfl | rfl
  · exact Nat.lt_of_lt_of_le (Nat.mod_lt _ (by decide)) (by decide)
  · exact Nat.mod_lt _ (by decide)
theorem zbadSh_no {t : Tn} (ht : T.may t = true) {n : W} (h : n.toNat < 64) : T.badSh t n = false := by
  unfold T.badSh
  rw [ht, ltB_nat (by omega) (by decide), ltB_nat (by decide) (by omega)]
  have e1 : (63#64 : W).toNat = 63 := by decide
  have e0 : (0#64 : W).toNat = 0 := rfl
  rw [e1, e0, decide_eq_false (by omega), decide_eq_false (by omega)]
  rfl
theorem zbadArsh_no {t : Tn} (ht : T.may t = true) {n s : W} (hs : s = 32#64 ∨ s = 64#64) (h : n.toNat < s.toNat) : T.badArsh t n s = false := by
  unfold T.badArsh
  rw [ht]
  have h64 : s.toNat ≤ 64 := by rcases hs with rfl | rfl <;> decide
  have e1 : leB .i64 s n = false := by
    have : leB .i64 s n = !ltB .i64 n s := by
      show s.sle n = !n.slt s
      rw [BitVec.sle_eq_not_slt]
    rw [this, ltB_nat (by omega) (by omega), decide_eq_true h]
    rfl
  have e0 : (0#64 : W).toNat = 0 := rfl
  rw [e1, ltB_nat (by omega) (by decide), e0, decide_eq_false (by omega)]
  rcases hs with rfl | rfl <;> rfl
theorem ztn_no {c : Tn → Tn} {bad : Bool} {t : Tn} (h : bad = false) : c (tE bad t) = tnA c bad t := by subst h; rfl
theorem mux_congr {c : Bool} {x x' y y' : Tn} (h1 : x = x') (h2 : y = y') : T.Tn.mux c x y = T.Tn.mux c x' y' := by rw [h1, h2]
theorem mux_same (c : Bool) {x y x' : Tn} (h : c = true → x = x') : T.Tn.mux c x y = T.Tn.mux c (T.Tn.mux c x' y) y := by
  cases c with
  | true => rw [h rfl]; rfl
  | false => rfl
theorem bitsW_same (c : Tn → Tn) {sz : W} (hs : sz = 32#64 ∨ sz = 64#64) (op : W) {a b : Sc} (ha : T.may a.t = true) (hb : T.may b.t = true) : bitsW c sz op a b = bitsG c sz op a b := by
  have h2 : T.bad2 a.t b.t = false := T.bad2_false ha hb
  have h0 : T.bad2 ⟨0#64, 0#64⟩ a.t = false := T.bad2_false (by rfl) ha
  obtain ⟨n1, n2⟩ := zbyB_nat hs b
  have hS := zbadSh_no ha n2
  have hA : T.badArsh a.t (byB sz b) sz = false := zbadArsh_no ha hs (by
    rw [n1]
    exact Nat.mod_lt _ (by rcases hs with rfl | rfl <;> decide))
  have sw : ∀ (x y : Tn), T.Tn.mux (single b) x y = T.Tn.mux (!single b) y x := fun x y => by cases single b <;> rfl
  unfold bitsW bitsG
  refine mux_congr (ztn_no h2) (mux_congr (ztn_no h2) (mux_congr (ztn_no h2) (mux_congr (ztn_no h2) (mux_congr (ztn_no h2) (mux_congr (ztn_no h2) (mux_congr (ztn_no h0) (mux_congr rfl ?_)))))))
  by_cases h6 : op = 6#64
  · subst h6
    show T.Tn.mux (single b) (c (tE _ _)) (c allTn) = shX c sz 6#64 a b
    rw [sw, ztn_no (c := c) hS]; rfl
  · have e6 : (op == 6#64) = false := by simpa using h6
    by_cases h7 : op = 7#64
    · subst h7
      show T.Tn.mux (single b) (c (tE _ _)) (c allTn) = shX c sz 7#64 a b
      rw [sw, ztn_no (c := c) hS]; rfl
    · have e7 : (op == 7#64) = false := by simpa using h7
      rw [e6, e7]
      by_cases h12 : op = 12#64
      · subst h12
        show T.Tn.mux (single b) (c (tE _ _)) (c allTn) = shX c sz 12#64 a b
        rw [sw, ztn_no (c := c) hA]; rfl
      · have e12 : (op == 12#64) = false := by simpa using h12
        rw [e12]
        rfl
theorem half_may (a : Sc) (ha : T.may a.t = true) : T.may (halfC a).t = true := by
  unfold halfC
  cases h : ltB .u64 a.s.hi 4294967296#64 with
  | true => exact ha
  | false =>
    show T.may (setR (cutT32 a.t) (belowC 32#64).s).t = true
    cases hk : setOk (cutT32 a.t) (belowC 32#64).s with
    | true => exact (mayC_parts (settled hk).1).1
    | false => rw [(settle_no hk).1]; rfl
theorem aluT_same {z : W} (hz : z = 32#64 ∨ z = 64#64) (op : W) (w : Bool) {a b : Sc} (all : Sc) (ha : T.may a.t = true) (hb : T.may b.t = true) : aluTW z op w a b all = aluT z op w a b all := by
  have e : bitsWP op z a b = bitsP op z a b := by
    unfold bitsWP bitsP
    rcases hz with rfl | rfl
    · exact bitsW_same cutT32 (.inl rfl) op ha hb
    · exact bitsW_same (fun t => t) (.inr rfl) op ha hb
  unfold aluTW aluT
  rw [e]
  cases setOk (bitsP op z a b) (spanOf op w a b) <;> rfl
theorem sc_mux_congr {c : Bool} {x y y' : Sc} (h : c = false → y = y') : Sc.mux c x y = Sc.mux c x y' := by
  cases c with
  | true => rfl
  | false => rw [h rfl]
theorem may_two {a b : Sc} (h : (!mayC a || !mayC b) = false) : mayC a = true ∧ mayC b = true := by
  cases ha : mayC a <;> cases hb : mayC b <;> simp_all
theorem sc_t (x y : Sc) : Sc.mux true x y = x := rfl
theorem sc_f (x y : Sc) : Sc.mux false x y = y := rfl
theorem aluW1_same {op : W} (hop : badOp op = false) (a b : Sc) : aluW1 op a b = aluSc op true a b := by
  unfold aluW1 aluSc
  refine sc_mux_congr fun h => ?_
  obtain ⟨h1, h2⟩ := may_two h
  rw [hop, sc_f, Bool.not_true, sc_f]
  exact aluT_same (.inr rfl) op true allC (mayC_parts h1).1 (mayC_parts h2).1
theorem aluW0_same {op : W} (hop : badOp op = false) (a b : Sc) : aluW0 op a b = aluSc op false a b := by
  unfold aluW0 aluSc
  refine sc_mux_congr fun h => ?_
  obtain ⟨h1, h2⟩ := may_two h
  rw [hop, sc_f, Bool.not_false, sc_t]
  exact aluT_same (.inl rfl) op false (belowC 32#64) (half_may a (mayC_parts h1).1) (half_may b (mayC_parts h2).1)
theorem mayE_same {op : W} (hop : badOp op = false) (a b : Sc) : mayE a b = aluScE op a b := by
  unfold mayE aluScE
  rw [hop]; rfl
theorem e7_ok {op : W} (hop : badOp op = false) {k : AV} (hk : val E0 k = val E0 (eI op)) (pk : pf k = true) (a b : Sc)
    (h1 : Ev Tryz.prog (tabOf zt2) noHooks 6 7 [k, .blit true, eSc a, eSc b] (pair (eSc (aluW1 op a b)) (eI (mayE a b))))
    (h0 : Ev Tryz.prog (tabOf zt2) noHooks 6 7 [k, .blit false, eSc a, eSc b] (pair (eSc (aluW0 op a b)) (eI (mayE a b)))) (w : Bool) :
    EvAt Tryz.prog 7 [val E0 (cI.enc op), val E0 (cBl.enc w), val E0 (cSc.enc a), val E0 (cSc.enc b)] (pair (eSc (aluSc op w a b)) (eI (aluScE op a b))) := by
  rw [aluW1_same hop, mayE_same hop] at h1
  rw [aluW0_same hop, mayE_same hop] at h0
  have hpa : ∀ x : Sc, pf (eSc x) = true := fun x => cSc.pf x
  cases w with
  | true =>
    exact evAt (l := [k, .blit true, eSc a, eSc b]) rzt2 (by simp only [List.all_cons, List.all_nil, pk, hpa]; rfl) (by
      simp only [List.map_cons, List.map_nil, hk]; rfl) h1
  | false =>
    exact evAt (l := [k, .blit false, eSc a, eSc b]) rzt2 (by simp only [List.all_cons, List.all_nil, pk, hpa]; rfl) (by
      simp only [List.map_cons, List.map_nil, hk]; rfl) h0
end Go.Rf
