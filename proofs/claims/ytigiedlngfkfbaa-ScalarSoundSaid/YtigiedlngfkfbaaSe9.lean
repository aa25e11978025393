/- Scalars: the law ScalarRefines walked. -/
import Derived.Test.YtigiedlngfkfbaaSe8
set_option linter.unusedVariables false
set_option linter.unusedSimpArgs false
set_option maxRecDepth 100000
namespace Go.Rf
open Go.Proofs

theorem reg1 {l : List Oper} {st st' : St} (he : ∃ ob, evalList cx1 l st = some (st', ob) ∧ ob.holds) {id : Nat} {Es : Env} {ws : World} {a : Act} {w : World} (hs : SRel Es ws st a w) {Q : Exit → Act → World → Prop} (hQ : ∀ a' w', SRel Es ws st' a' w' → Q .normal a' w') :
    (Code.region id l.toArray false).wp Try.prog Q a w := by
  obtain ⟨ob, h1, h2⟩ := he
  exact region_wp (cx := cx1) rtc1 hI1 h1 h2 hs hQ
theorem list1 {l : List Oper} {st st' : St} (hg : noGd l = true) (he : ∃ ob, evalList cx1 l st = some (st', ob) ∧ ob.holds) {Es : Env} {ws : World} {a : Act} {w : World} (hs : SRel Es ws st a w) {Q : Exit → Act → World → Prop} (hQ : ∀ a' w', SRel Es ws st' a' w' → Q .normal a' w') :
    wpList Try.prog #[] Q l a w := by
  obtain ⟨ob, h1, h2⟩ := he
  exact evalList_wp (cx := cx1) rtc1 hI1 hg h1 h2 hs hQ
theorem code1 {c : Code} {Λ : Hook} {p : List Nat} {st st' : St} (he : ∃ ob, evalCode cx1 Λ c p st = some (.norm st', ob) ∧ ob.holds) {Es : Env} {ws : World} {a : Act} {w : World} (hs : SRel Es ws st a w) {Q : Exit → Act → World → Prop} (hQ : ∀ a' w', SRel Es ws st' a' w' → Q .normal a' w') :
    c.wp Try.prog Q a w := by
  obtain ⟨ob, h1, h2⟩ := he
  refine wp_mono (evalCode_wp (cx := cx1) rtc1 hI1 c p st _ ob h1 h2 a w hs) fun e a' w' hm => ?_
  cases e <;> simp only [MatchO] at hm
  exact hQ a' w' hm
theorem rest1 {fn : Func} {c : Code} {Λ : Hook} {p : List Nat} {st : St} {r : AV} (he : ∃ ob, evalK cx1 Λ fn c p st = some (r, ob) ∧ ob.holds) (hr : st.hrest = fun _ => none) {ws : World} {a : Act} {w : World} (hs : SRel E0 ws st a w) :
    c.wp Try.prog (bodyPost Try.prog fn fun e w' => e = .returned (valT E0 r) ∧ RowKit.Below ws.heap.size ws w') a w := by
  obtain ⟨ob, h1, h2⟩ := he
  exact evalK_run (cx := cx1) rtc1 hI1 h1 h2 hr hs
/-- The call of Each, from a state with these temporaries kept. -/
theorem call_each (s : SmV) {st : St} {nt dst tmp : Nat} (hnt : st.nt = nt) (hlo : st.lo = 0) (hnx : st.next = 1) {ents : List (Nat × AV)} (he : ∀ x ∈ ents, st.look x.1 = x.2 ∧ nlt 1 x.2) {x : AV} {o : Oper} {rest : List Oper}
    (hgd : o.guard = none) (hev : eff Try.prog (opd st.look) o.op = some (.call 10 [x])) (hn : nrmL [x] = some [eSm s]) (hd : o.dst = some dst) (hdst : dst < nt)
    {ws : World} {a : Act} {w : World} (hs : SRel E0 ws st a w) {Q : Exit → Act → World → Prop}
    (hK : ∀ (D : SlD sSm') a' w', D.Fix 30 → D.len = 29 → (∀ i, i < 29 → D.els i = eachF s 14 i) → SRel E0 ws (slSt D 1 dst ents [] nt 0) a' w' → wpList Try.prog #[] Q rest a' w') : wpList Try.prog #[] Q (o :: rest) a w := by
  have hk : Kept st st.next ents [] := ⟨fun x hx => ⟨fun E y h => by rw [← (he x hx).1]; exact h, by rw [hnx]; exact (he x hx).2⟩, fun x hx => by simp at hx, by omega⟩
  refine step_makes (P := Try.prog) hs hgd hev hn (each_makes s) hd (by omega) hk (flatSm.good _) ?_
  intro D a' w' h1 h2 h3 h4
  rw [hnt, hlo, hnx] at h4
  exact hK D a' w' h1.fix h2 h3 h4

theorem u2a (s : SmV) (h : Bool) : (u2 s h).nt = 63 := by kernel_rfl
theorem u2b (s : SmV) (h : Bool) : (u2 s h).lo = 0 := by kernel_rfl
theorem u2c (s : SmV) (h : Bool) : (u2 s h).next = 1 := by kernel_rfl
theorem u2d (s : SmV) (h : Bool) : (u2 s h).look 1 = eB h := by kernel_rfl
theorem oCa : opC.guard = none := by kernel_rfl
theorem oCb (s : SmV) (h : Bool) : eff Try.prog (opd (u2 s h).look) opC.op = some (.call 10 [(u2 s h).look 13]) := by kernel_rfl
theorem oCc (s : SmV) (h : Bool) : nrmL [(u2 s h).look 13] = some [eSm s] := by kernel_rfl
theorem oCd : opC.dst = some 14 := by kernel_rfl
theorem gA1 : noGd A1 = true := by kernel_rfl
theorem gA1a : noGd A1a = true := by kernel_rfl
theorem gA1b : noGd A1b = true := by kernel_rfl
theorem u4a (h : Bool) (D : SlD sSm') : (u4 h D).hrest = fun _ => none := by kernel_rfl

theorem calls3 (s : SmV) (h : Bool) (w : World) : Calls Try.prog 3 ([eSm s, eB h].map (val E0)).toArray w fun e w' => e = .returned (.bool true) ∧ RowKit.Below w.heap.size w w' := by
  refine calls_of_wp Try.func3 body3 ?_
  have hnt : Try.f3.ntmps = 63 := by kernel_rfl
  have hs0 := enter_rel (P := Try.prog) (fn := Try.f3) (args := [eSm s, eB h]) (by rw [hnt]; show 2 ≤ 63; omega) (fun v hv => by
    simp only [List.mem_cons, List.not_mem_nil, or_false] at hv
    rcases hv with rfl | rfl
    · exact pf_Sm s
    · rfl) w
  rw [hnt] at hs0
  refine wp_seq (reg1 (w1 s h) hs0 fun a1 w1' hs1 => ?_)
  show (Code.seq (.seq (.region 1 A1.toArray false) X3) Y3).wp Try.prog _ a1 w1'
  refine wp_seq (wp_seq (list_region (by simpa using gA1) ?_))
  rw [List.toList_toArray, A1_eq]
  refine wpList_app _ (noGd_spec gA1a) _ _ ?_
  refine list1 gA1a (w2 s h) hs1 fun a2 w2' hs2 => ⟨rfl, ?_⟩
  refine call_each s (tmp := 13) (u2a s h) (u2b s h) (u2c s h) (ents := [(1, eB h)]) (fun x hx => by
    simp only [List.mem_singleton] at hx
    subst hx
    exact ⟨u2d s h, trivial⟩) oCa (oCb s h) (oCc s h) oCd (by omega) hs2 ?_
  intro D a3 w3' d1 d2 d3 hs3
  have hl : D.len < 2 ^ 63 := by omega
  refine list1 gA1b (w3 h D hl) hs3 fun a4 w4' hs4 => ?_
  show X3.wp Try.prog _ a4 w4'
  refine code1 (w4 h D hl) hs4 fun a5 w5' hs5 => ?_
  show Y3.wp Try.prog _ a5 w5'
  exact rest1 (w5 h D) (u4a h D) hs5
end Go.Rf
