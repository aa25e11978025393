/- Laws with one slice, its length told. -/
import Derived.Test.YtadkiiaagdhhlaaRfH
import Derived.HandedShaped
import Derived.ChangeArms
set_option linter.unusedVariables false
set_option linter.unusedSimpArgs false
namespace Go.Rf
open Go.ChangeShapes Go.WideShapes Go.ChangeAt Go.RowKit

theorem weights_app {H : Type} {P : Program} (xs : List TypeId) : ∀ (ts : List TypeId) {ds : List (DataW H)}, ds.length = ts.length → DataW.weightsEach P (ts ++ xs) ds = DataW.weightsEach P ts ds
  | [], ds, h => by
    have : ds = [] := List.eq_nil_of_length_eq_zero h
    subst this
    cases xs <;> simp [DataW.weightsEach]
  | t :: ts, [], h => by simp at h
  | t :: ts, d :: ds, h => by
    have := weights_app (P := P) xs ts (ds := ds) (by simpa using h)
    simp only [List.cons_append, DataW.weightsEach, this]

/-- A law whose arguments are opened elsewhere. -/
theorem law_liftG2 {H : Type} {enc : TypeId × Value → H} {C : Checked} {os : Os} {f : FuncId} {fn : Func} {s : ChangeSpec} {tb : TypeId} (own : ownKnob C.prog.godebug = none) (started : os.Started) (noInit : C.prog.inits.idxOf? f = none) (hfn : C.prog.funcs[f]? = some fn)
    (witness : ∃ (w : World) (tape : Tape) (i : Input), w.os = os ∧ (w.forCall tape i).Shaped C.prog ∧ i.vars = [] ∧ Input.okWide C.prog (w.forCall tape i) .any w.heap.size f i ∧
      s.pre6 enc C.prog fn [] false (w.forCall tape i).memory i.args ∧ (({} : Assume)).holds C.prog (lone (Frame.enter C.prog f i.args .normal) [] (w.forCall tape i)))
    (hres : fn.resultTypes = #[tb]) (htb : C.prog.underlying tb = some .bool) (hvars : s.vars = [])
    (hspec : ∀ ds : List (DataW H), ds.length = fn.params.toList.length → s.fn H (ds ++ []) = { results := [.lit (.bool true)], args := ds })
    (hlaid : laidOutB C.prog = true) (hread : (fn.params.toList.all fun t => C.prog.readableRec t && decide (t < C.prog.types.size)) = true)
    (hcalls : ∀ (W : World) (base : Nat) (args : List Value) (ds : List (DataW H)) (ps : List MemPlace), (∀ (j : Nat) t v, fn.params.toList[j]? = some t → args[j]? = some v → Value.okWide C.prog W .any base t v) →
      DataW.TrodAll enc C.prog W 0 (fun _ => true) true fn.params.toList args ds ps → (DataW.weightsEach C.prog fn.params.toList ds).all (· ≤ reachBytes) = true → Calls C.prog f args.toArray W fun e w' => e = .returned (.bool true) ∧ RowKit.Below W.heap.size W w') :
    ReturnsInHanded {} C os f .any (s.pre6 enc C.prog fn [] false) (s.post enc C.prog fn false true false false) := by
  refine returnsInHanded_of_change_shaped (C := C) own started noInit hfn witness ?_
  intro W base args ds gs before hval0 hW hcnd hwt _ _
  have hval : ∀ (j : Nat) t v, fn.params.toList[j]? = some t → args.toList[j]? = some v → Value.okWide C.prog W .any base t v := fun j t v h1 h2 =>
    hval0 j t v (by simpa using h1) (by simpa using h2)
  have hlt := hW.lt
  have hW' := hW
  obtain ⟨p, q, hA, hV, rfl, hfz, hnd⟩ := hW
  rw [hvars] at hV
  obtain ⟨rfl, rfl⟩ := trodVars_none hV
  have hlen := trodAll_len hA
  rw [List.append_nil, weights_app _ _ hlen] at hwt
  have hc := hcalls W base args.toList ds p hval hA hwt
  rw [Array.toArray_toList] at hc
  refine hc.mono ?_
  rintro e W' ⟨rfl, hB⟩
  refine ⟨_, rfl, ?_⟩
  have hsp := hspec ds hlen
  have hr : ∀ (b : Nat) (sp : Nat → Bool) (hd : Bool), DataW.TrodAll enc C.prog W' b sp hd fn.resultTypes.toList ((Value.bool true).resultList fn.resultTypes.size) (s.fn H (ds ++ [])).results [] := by
    intro b sp hd
    rw [hres, hsp]
    exact trodAll_mk1 ⟨1, by simp [DataW.trod, Value.cells, htb]⟩
  have carry : ∀ (ts : List TypeId) (vs : List Value) (ds : List (DataW H)) (ps : List MemPlace), (ts.all fun t => C.prog.readableRec t && decide (t < C.prog.types.size)) = true → (∀ x ∈ ps, x.block < W.heap.size) →
      DataW.TrodAll enc C.prog W 0 (fun _ => true) true ts vs ds ps → DataW.TrodAll enc C.prog W' 0 (fun b => decide (b < W.heap.size)) true ts vs ds ps := by
    intro ts
    induction ts with
    | nil =>
      intro vs ds ps _ _ h
      obtain ⟨rfl, rfl, rfl⟩ := trodAll_nil h
      exact rfl
    | cons t ts ih =>
      intro vs ds ps hr hl h
      cases vs with
      | nil => exact h.elim
      | cons v vs => cases ds with
        | nil => exact h.elim
        | cons d ds =>
          obtain ⟨p1, p2, h1, h2, rfl⟩ := h
          simp only [List.all_cons, Bool.and_eq_true, decide_eq_true_eq] at hr
          exact ⟨p1, p2, Below.trod hlaid hr.1.1 hr.1.2 h1 hB (fun x hx => hl x (by simp [hx])), ih vs ds p2 hr.2 (fun x hx => hl x (by simp [hx])) h2, rfl⟩
  have ha : DataW.TrodAll enc C.prog W' 0 (fun b => decide (b < W.heap.size)) true fn.params.toList args.toList (s.fn H (ds ++ [])).args p := by
    rw [hsp]
    exact carry _ _ _ _ hread (fun x hx => hlt x (by simp [hx])) hA
  have hv : DataW.TrodVars enc C.prog W' (fun b => decide (b < W.heap.size)) s.vars (s.fn H (ds ++ [])).vars [] := by
    rw [hsp, hvars]
    exact rfl
  exact ⟨ds, [], p ++ [], [], p, [], hW', hr _ _ _, ha, hv, hB.frame _, fun h => by cases h⟩

theorem law_liftZ {H : Type} {enc : TypeId × Value → H} {C : Checked} {os : Os} {f : FuncId} {fn : Func} {s : ChangeSpec} {tb : TypeId} (e : Sh) (l2 : List Sh) (tS te : TypeId) (ts2 : List TypeId)
    (own : ownKnob C.prog.godebug = none) (started : os.Started) (noInit : C.prog.inits.idxOf? f = none) (hfn : C.prog.funcs[f]? = some fn)
    (witness : ∃ (w : World) (tape : Tape) (i : Input), w.os = os ∧ (w.forCall tape i).Shaped C.prog ∧ i.vars = [] ∧ Input.okWide C.prog (w.forCall tape i) .any w.heap.size f i ∧
      s.pre6 enc C.prog fn [] false (w.forCall tape i).memory i.args ∧ (({} : Assume)).holds C.prog (lone (Frame.enter C.prog f i.args .normal) [] (w.forCall tape i)))
    (hps : fn.params.toList = tS :: ts2) (hS : C.prog.underlying tS = some (.slice te)) (he : (shB C.prog e te && C.prog.cellsOf te == e.sz && decide (0 < e.sz) && e.flat1) = true) (h2 : shAll C.prog l2 ts2 = true)
    (hres : fn.resultTypes = #[tb]) (htb : C.prog.underlying tb = some .bool) (hvars : s.vars = [])
    (hspec : ∀ ds : List (DataW H), ds.length = fn.params.toList.length → s.fn H (ds ++ []) = { results := [.lit (.bool true)], args := ds })
    (hlaid : laidOutB C.prog = true) (hread : (fn.params.toList.all fun t => C.prog.readableRec t && decide (t < C.prog.types.size)) = true)
    (hemp : ∀ (ys : HL l2) (ao : Option Addr) (cap : Nat) (w : World), Calls C.prog f (.slice ao 0 cap :: (encs l2 ys).map (val E0)).toArray w fun e w' => e = .returned (.bool true) ∧ RowKit.Below w.heap.size w w')
    (hnon : ∀ (ys : HL l2) (D : SlD e) (w : World), D.Ok w → D.len * C.prog.bytesOf te ≤ reachBytes → Calls C.prog f (D.value :: (encs l2 ys).map (val E0)).toArray w fun e w' => e = .returned (.bool true) ∧ RowKit.Below w.heap.size w w') :
    ReturnsInHanded {} C os f .any (s.pre6 enc C.prog fn [] false) (s.post enc C.prog fn false true false false) := by
  refine law_liftG2 own started noInit hfn witness hres htb hvars hspec hlaid hread ?_
  intro W base args ds ps hv hA hwt
  rw [hps] at hv hA hwt
  simp only [Bool.and_eq_true, beq_iff_eq, decide_eq_true_eq] at he
  cases args with
  | nil => exact hA.elim
  | cons v vs => cases ds with
    | nil => exact hA.elim
    | cons d ds =>
      obtain ⟨p1, p2, r2, r4, rfl⟩ := hA
      have r1 : Value.okWide C.prog W .any base tS v := hv 0 tS v rfl rfl
      obtain ⟨ys, rfl, _⟩ := open_all l2 ts2 vs ds p2 h2 (fun j t v e1 e2 => hv (j + 1) t v e1 e2) r4
      rcases open_slice hS he.1.1.1 he.1.1.2 he.1.2 he.2 r1 r2 with ⟨ao, cap, rfl⟩ | ⟨D, hD, rfl⟩
      · exact hemp ys ao cap W
      · refine hnon ys D W hD ?_
        obtain ⟨fuel, hf⟩ := r2
        rcases DataW.trod_slice hS hf with ⟨h, _⟩ | ⟨a, len, cap, elems, rest, n, _, h, hx, _, _, _, hle, _⟩
        · simp [SlD.value, Value.cells] at h
        · have hlen : D.len = len := by
            simp [SlD.value, Value.cells] at h
            exact h.2.1
          have hd : d = .slice (elems.map (·.1)) (rest.map (·.1)) := congrArg Prod.fst hx
          simp only [DataW.weightsEach, hd, DataW.weights, hS, List.cons_append, List.all_cons, Bool.and_eq_true, decide_eq_true_eq, List.length_map, hle] at hwt
          rw [hlen]
          exact Nat.le_trans (Nat.mul_le_mul_right _ (Nat.le_add_right _ _)) hwt.1
end Go.Rf
