/- Several texts as one: Rf24 Rf25 Rf26 Rf27 Rf28 Rf29 Rf30. -/
import Derived.Test.YtigiedlngfkfbaaGreatRfG
import Derived.Carry
import Derived.Laws.AppendOwn
set_option linter.unusedVariables false
set_option linter.unusedSimpArgs false

/- Slices that come in. -/
namespace Go.Rf
open Go.ChangeShapes Go.WideShapes Go.ChangeAt Go.RowKit

/-- One block is named at the beginning. -/
def hpB (B : Blk) : Hp := fun n => match n with
  | 0 => some B
  | _ => none
def E1 (b : Nat) : Env := fun n => match n with
  | 0 => some b
  | _ => none
def evalNM (P : Program) (Γ : Tab) (Λ : FuncId → Hook) (n : Nat) (f : FuncId) (args : List AV) (B : Blk) : Option (AV × Ob) :=
  match inlF P Γ Λ n f args (hpB B) 1 with
  | some (v, [], ob) => match nrmT v with
    | some u => some (u, ob)
    | none => none
  | _ => none

theorem evM_calls {P : Program} {Γ : Tab} (hΓ : TabOk P Γ) {Λ : FuncId → Hook} {n : Nat} {f : FuncId} {args : List AV} {B : Blk} {r : AV} {ob : Ob} (h : evalNM P Γ Λ n f args B = some (r, ob)) (ho : ob.holds)
    {b : Nat} {w : World} (hok : ok (E1 b) B.v) (hb : w.heap[b]? = some (.cells (cells (E1 b) [] B.v).toArray B.T (fzOf B.v))) (ha : ∀ v ∈ args, ok (E1 b) v) :
    Calls P f (args.map (val (E1 b))).toArray w fun e w' => e = .returned (valT E0 r) ∧ RowKit.Below w.heap.size w w' := by
  unfold evalNM at h
  split at h <;> try (simp at h; done)
  rename_i v ob' h1
  split at h <;> simp at h
  rename_i u hu
  obtain ⟨rfl, rfl⟩ := h
  obtain ⟨e1, e2, e3⟩ := nrmT_spec _ _ hu
  have hlt : b < w.heap.size := (Array.getElem?_eq_some_iff.1 hb).1
  have hE : ∀ m k, E1 b m = some k → m = 0 ∧ k = b := by
    intro m k hm
    unfold E1 at hm
    split at hm
    · exact ⟨rfl, by simpa using hm.symm⟩
    · cases hm
  have hrel : HRel (E1 b) (hpB B) w := by
    intro m C hm
    unfold hpB at hm
    split at hm
    · simp at hm; subst hm; exact ⟨b, rfl, hok, hb⟩
    · cases hm
  refine ((inlF_ok hΓ n f args (hpB B) 1 v [] ob' h1 ho).2 (E1 b) w ha hrel ?_ ?_ ?_).mono ?_
  · intro m m' k hm hm'
    rw [(hE m k hm).1, (hE m' k hm').1]
  · intro m k hm
    rw [(hE m k hm).2]; exact hlt
  · intro m hm
    unfold E1
    split
    · omega
    · rfl
  · rintro e w' ⟨x, rfl, hx, ht, hh⟩
    refine ⟨?_, ht.os, ht.tape, ht.output, ht.size, fun k hk => ?_⟩
    · have h2 : x = valT E0 v := by
        obtain ⟨_, q2, q3⟩ := pfT_spec e1 (E1 b)
        have : valT (E1 b) v = x := by
          cases v <;> first
            | exact hx.2
            | simp [pfT, pf] at e1
        rw [← this, q2]
      rw [h2, e3]
    · by_cases hkb : k = b
      · subst hkb
        obtain ⟨b2, q1, q2, q3⟩ := hh 0 B rfl
        have : b2 = k := by
          have : (E1 k) 0 = some b2 := q1
          simpa [E1] using this.symm
        subst this
        rw [q3, hb]
      · exact ht.keep k hk (fun m hm => hkb (hE m k hm).2)

theorem trodAll_len {H : Type} {enc : TypeId × Value → H} {P : Program} {w : World} {base : Nat} {sp : Nat → Bool} {hd : Bool} : ∀ {ts : List TypeId} {vs : List Value} {ds : List (DataW H)} {ps : List MemPlace}, DataW.TrodAll enc P w base sp hd ts vs ds ps → ds.length = ts.length
  | [], vs, ds, ps, h => by obtain ⟨_, rfl, _⟩ := trodAll_nil h; rfl
  | _ :: ts, [], _, _, h => h.elim
  | _ :: ts, _ :: _, [], _, h => h.elim
  | _ :: ts, _ :: vs, _ :: ds, ps, h => by
    obtain ⟨p1, p2, _, h2, rfl⟩ := h
    simp [trodAll_len h2]

/-- A law whose arguments are opened elsewhere. -/
theorem law_liftG {H : Type} {enc : TypeId × Value → H} {C : Checked} {os : Os} {f : FuncId} {fn : Func} {s : ChangeSpec} {tb : TypeId} (own : ownKnob C.prog.godebug = none) (started : os.Started) (noInit : C.prog.inits.idxOf? f = none) (hfn : C.prog.funcs[f]? = some fn)
    (witness : ∃ (w : World) (tape : Tape) (i : Input), w.os = os ∧ (w.forCall tape i).Shaped C.prog ∧ i.vars = [] ∧ Input.okWide C.prog (w.forCall tape i) .any w.heap.size f i ∧
      s.pre6 enc C.prog fn [] false (w.forCall tape i).memory i.args ∧ (({} : Assume)).holds C.prog (lone (Frame.enter C.prog f i.args .normal) [] (w.forCall tape i)))
    (hres : fn.resultTypes = #[tb]) (htb : C.prog.underlying tb = some .bool) (hvars : s.vars = [])
    (hspec : ∀ ds : List (DataW H), ds.length = fn.params.toList.length → s.fn H (ds ++ []) = { results := [.lit (.bool true)], args := ds })
    (hlaid : laidOutB C.prog = true) (hread : (fn.params.toList.all fun t => C.prog.readableRec t && decide (t < C.prog.types.size)) = true)
    (hcalls : ∀ (W : World) (base : Nat) (args : List Value) (ds : List (DataW H)) (ps : List MemPlace), (∀ (j : Nat) t v, fn.params.toList[j]? = some t → args[j]? = some v → Value.okWide C.prog W .any base t v) →
      DataW.TrodAll enc C.prog W 0 (fun _ => true) true fn.params.toList args ds ps → Calls C.prog f args.toArray W fun e w' => e = .returned (.bool true) ∧ RowKit.Below W.heap.size W w') :
    ReturnsInHanded {} C os f .any (s.pre6 enc C.prog fn [] false) (s.post enc C.prog fn false true false false) := by
  refine returnsInHanded_of_change (C := C) own started noInit hfn witness ?_
  intro W base args ds gs before hval0 hW hcnd _
  have hval : ∀ (j : Nat) t v, fn.params.toList[j]? = some t → args.toList[j]? = some v → Value.okWide C.prog W .any base t v := fun j t v h1 h2 =>
    hval0 j t v (by simpa using h1) (by simpa using h2)
  have hlt := hW.lt
  have hW' := hW
  obtain ⟨p, q, hA, hV, rfl, hfz, hnd⟩ := hW
  rw [hvars] at hV
  obtain ⟨rfl, rfl⟩ := trodVars_none hV
  have hlen := trodAll_len hA
  have hc := hcalls W base args.toList ds p hval hA
  rw [Array.toArray_toList] at hc
  refine hc.mono ?_
  rintro e W' ⟨rfl, hB⟩
  refine ⟨_, rfl, ?_⟩
  have hsp := hspec ds hlen
  have hr : ∀ (b : Nat) (sp : Nat → Bool) (hd : Bool), DataW.TrodAll enc C.prog W' b sp hd fn.resultTypes.toList ((Value.bool true).resultList fn.resultTypes.size) (s.fn H (ds ++ [])).results [] := by
    intro b sp hd
    rw [hres, hsp]
    exact trodAll_mk1 ⟨1, by simp [DataW.trod, Value.cells, htb]⟩
  have carry : ∀ (ts : List TypeId) (vs : List Value) (ds : List (DataW H)) (ps : List MemPlace), (ts.all fun t => C.prog.readableRec t && decide (t < C.prog.types.size)) = true → (∀ x ∈ ps, x.block < W.heap.size) →
      DataW.TrodAll enc C.prog W 0 (fun _ => true) true ts vs ds ps → DataW.TrodAll enc C.prog W' 0 (fun b => decide (b < W.heap.size)) true ts vs ds ps := by
    intro ts
    induction ts with
    | nil =>
      intro vs ds ps _ _ h
      obtain ⟨rfl, rfl, rfl⟩ := trodAll_nil h
      exact rfl
    | cons t ts ih =>
      intro vs ds ps hr hl h
      cases vs with
      | nil => exact h.elim
      | cons v vs => cases ds with
        | nil => exact h.elim
        | cons d ds =>
          obtain ⟨p1, p2, h1, h2, rfl⟩ := h
          simp only [List.all_cons, Bool.and_eq_true, decide_eq_true_eq] at hr
          exact ⟨p1, p2, Below.trod hlaid hr.1.1 hr.1.2 h1 hB (fun x hx => hl x (by simp [hx])), ih vs ds p2 hr.2 (fun x hx => hl x (by simp [hx])) h2, rfl⟩
  have ha : DataW.TrodAll enc C.prog W' 0 (fun b => decide (b < W.heap.size)) true fn.params.toList args.toList (s.fn H (ds ++ [])).args p := by
    rw [hsp]
    exact carry _ _ _ _ hread (fun x hx => hlt x (by simp [hx])) hA
  have hv : DataW.TrodVars enc C.prog W' (fun b => decide (b < W.heap.size)) s.vars (s.fn H (ds ++ [])).vars [] := by
    rw [hsp, hvars]
    exact rfl
  exact ⟨ds, [], p ++ [], [], p, [], hW', hr _ _ _, ha, hv, hB.frame _, fun h => by cases h⟩
end Go.Rf

/- A slice among the arguments, opened. -/
namespace Go.Rf
open Go.ChangeShapes Go.WideShapes Go.ChangeAt Go.RowKit

/-- No block is named at the beginning. -/
def evalN0 (P : Program) (Γ : Tab) (Λ : FuncId → Hook) (n : Nat) (f : FuncId) (args : List AV) : Option (AV × Ob) :=
  match inlF P Γ Λ n f args (fun _ => none) 0 with
  | some (v, _, ob) => match nrmT v with
    | some u => some (u, ob)
    | none => none
  | none => none
theorem ev0_calls {P : Program} {Γ : Tab} (hΓ : TabOk P Γ) {Λ : FuncId → Hook} {n : Nat} {f : FuncId} {args : List AV} {r : AV} {ob : Ob} (h : evalN0 P Γ Λ n f args = some (r, ob)) (ho : ob.holds)
    {w : World} (ha : ∀ v ∈ args, ok E0 v) : Calls P f (args.map (val E0)).toArray w fun e w' => e = .returned (valT E0 r) ∧ RowKit.Below w.heap.size w w' := by
  unfold evalN0 at h
  split at h <;> try (simp at h; done)
  rename_i v hw ob' h1
  split at h <;> simp at h
  rename_i u hu
  obtain ⟨rfl, rfl⟩ := h
  obtain ⟨e1, e2, e3⟩ := nrmT_spec _ _ hu
  refine ((inlF_ok hΓ n f args _ 0 v hw ob' h1 ho).2 E0 w ha (fun m C hm => by cases hm) (fun m m' k hm => by cases hm) (fun m k hm => by cases hm) (fun m _ => rfl)).mono ?_
  rintro e w' ⟨x, rfl, hx, ht, hh⟩
  refine ⟨?_, ht.below⟩
  have : valT E0 v = x := by
    cases v <;> first
      | exact hx.2
      | simp [pfT, pf] at e1
  rw [← this, e3]

/-- A slice with elements: its block, what lies ahead and behind. -/
structure SlD (e : Sh) where
  b : Nat
  len : Nat
  cap : Nat
  pre : List Value
  post : List Value
  T : TypeId
  fz : Nat × Nat
  els : Nat → e.T
def SlD.arr {e : Sh} (d : SlD e) : AV := (Sh.arr d.len e).enc d.els
def SlD.blk {e : Sh} (d : SlD e) : Blk := ⟨d.T, .raw d.pre d.arr d.post d.fz⟩
def SlD.slc {e : Sh} (d : SlD e) : AV := .slc 0 [.win d.pre.length] (.int .i64 fun _ => BitVec.ofNat 64 d.len) d.cap
def SlD.value {e : Sh} (d : SlD e) : Value := .slice (some ⟨d.b, d.pre.length, none⟩) d.len d.cap
structure SlD.Ok {e : Sh} (d : SlD e) (w : World) : Prop where
  row : w.heap[d.b]? = some (.cells (cells E0 [] d.blk.v).toArray d.T d.fz)
  pos : 0 < d.len
  le : d.len ≤ d.cap
  big : d.cap < 2 ^ 63

variable {H : Type} {enc : TypeId × Value → H} {P : Program}

theorem add_spot {a : Addr} (h : a.spot = none) (n : Nat) : a.add n = ⟨a.block, a.off + n, none⟩ := by
  unfold Addr.add
  split
  · rename_i e; subst e; cases a; simp_all
  · rfl

theorem open_slice {tS te : TypeId} (ht : P.underlying tS = some (.slice te)) {e : Sh} (he : shB P e te = true) (hsz : P.cellsOf te = e.sz) (hpos : 0 < e.sz) (hfl : e.flat1 = true) {W : World} {r : Reach} {b0 : Nat} {v : Value} {d : DataW H} {ps : List MemPlace}
    (hv : Value.okWide P W r b0 tS v) (h : DataW.Trod enc P W 0 (fun _ => true) true tS v d ps) :
    (∃ ao cap, v = .slice ao 0 cap) ∨ ∃ D : SlD e, D.Ok W ∧ v = D.value := by
  obtain ⟨ao, len, cap, rfl⟩ := okWide_slice ht hv
  obtain ⟨fuel, hf⟩ := h
  by_cases hl : len = 0
  · subst hl; exact .inl ⟨ao, cap, rfl⟩
  right
  cases fuel with
  | zero => simp [DataW.trod] at hf
  | succ fuel =>
    simp only [Value.cells, DataW.trod, ht] at hf
    cases ao with
    | none => cases len <;> simp at hf hl
    | some a =>
      simp only at hf
      split at hf <;> try (simp at hf; done)
      rename_i hc
      obtain ⟨_, hle, hmax⟩ := hc
      cases hm : (List.range len).mapM (fun i => (W.cells? 0 (a.add (i * P.cellsOf te)) (P.cellsOf te)).bind (DataW.trod enc P W 0 (fun _ => true) true fuel te)) with
      | none => rw [hm] at hf; simp at hf
      | some elems =>
        obtain ⟨el, eg⟩ := mapM_some_get hm
        simp only [List.length_range] at el
        have each : ∀ i, i < len → ∃ cs, W.cells? 0 (a.add (i * e.sz)) e.sz = some cs ∧ ∃ y : e.T, cs = cells E0 [] (e.enc y) := by
          intro i hi
          have := eg i (by simpa using hi) (by omega)
          simp only [List.getElem_range] at this
          cases hcs : W.cells? 0 (a.add (i * P.cellsOf te)) (P.cellsOf te) with
          | none => rw [hcs] at this; simp at this
          | some cs =>
            rw [hcs] at this
            simp only [Option.bind_some] at this
            obtain ⟨_, hy, _⟩ := (read_all e).1 te he W 0 _ true fuel cs _ this
            rw [hsz] at hcs
            exact ⟨cs, hcs, hy⟩
        have cell : ∀ i, i < len → ∃ cs, (∃ y : e.T, cs = cells E0 [] (e.enc y)) ∧ cs.length = e.sz ∧ ∀ j, (hj : j < e.sz) → (hj' : j < cs.length) → W.cell? ((a.add (i * e.sz)).add j) = some cs[j] := by
          intro i hi
          obtain ⟨cs, h1, h2⟩ := each i hi
          simp only [World.cells?, Nat.zero_le, if_true] at h1
          obtain ⟨g1, g2⟩ := mapM_some_get h1
          simp only [List.length_range] at g1
          refine ⟨cs, h2, g1, fun j hj hj' => ?_⟩
          have := g2 j (by simpa using hj) hj'
          simpa using this
        -- the block
        obtain ⟨cs0, _, l0, c0⟩ := cell 0 (by omega)
        have h00 := c0 0 hpos (by omega)
        have ea : (a.add (0 * e.sz)).add 0 = a := by simp [Addr.add]
        rw [ea] at h00
        unfold World.cell? at h00
        split at h00 <;> try (simp at h00; done)
        rename_i c T fz hb
        split at h00 <;> try (simp at h00; done)
        rename_i hsp
        have hspot : a.spot = none := by simpa using hsp
        have at_ : ∀ i, i < len → ∃ cs, (∃ y : e.T, cs = cells E0 [] (e.enc y)) ∧ cs.length = e.sz ∧ ∀ j, (hj' : j < cs.length) → c[a.off + i * e.sz + j]? = some cs[j] := by
          intro i hi
          obtain ⟨cs, h1, h2, h3⟩ := cell i hi
          refine ⟨cs, h1, h2, fun j hj' => ?_⟩
          have := h3 j (by omega) hj'
          rw [add_spot hspot, add_spot rfl] at this
          simpa [World.cell?, hb] using this
        have hend : a.off + len * e.sz ≤ c.size := by
          obtain ⟨cs, _, h2, h3⟩ := at_ (len - 1) (by omega)
          have := h3 (e.sz - 1) (by omega)
          have hlt := (Array.getElem?_eq_some_iff.1 this).1
          have : (len - 1) * e.sz + e.sz = len * e.sz := by
            rw [← Nat.succ_mul]; congr 1; omega
          omega
        have choice : ∃ els : Nat → e.T, ∀ i, i < len → ∀ j, (hj : j < (cells E0 [] (e.enc (els i))).length) → c[a.off + i * e.sz + j]? = some (cells E0 [] (e.enc (els i)))[j] := by
          have : ∀ i, ∃ y : e.T, i < len → ∀ j, (hj : j < (cells E0 [] (e.enc y)).length) → c[a.off + i * e.sz + j]? = some (cells E0 [] (e.enc y))[j] := by
            intro i
            by_cases hi : i < len
            · obtain ⟨cs, ⟨y, rfl⟩, _, h3⟩ := at_ i hi
              exact ⟨y, fun _ => h3⟩
            · obtain ⟨cs, ⟨y, rfl⟩, _, h3⟩ := at_ 0 (by omega)
              exact ⟨y, fun h => absurd h hi⟩
          exact ⟨fun i => (this i).choose, fun i hi => (this i).choose_spec hi⟩
        obtain ⟨els, hels⟩ := choice
        have hlen : ∀ i, (cells E0 [] (e.enc (els i))).length = e.sz := fun i => Sh.enc_len e (shB_good P e |>.1 te he) (els i)
        have harr : cells E0 [] ((Sh.arr len e).enc els) = (List.range len).flatMap fun i => cells E0 [] (e.enc (els i)) := by
          show (List.range len).flatMap (fun i => cells E0 ([] ++ [i]) (e.body fun ix => els (ix.headD 0))) = _
          congr 1
          funext i
          rw [List.nil_append, Sh.body_cells i e hfl]
          rfl
        refine ⟨⟨a.block, len, cap, c.toList.take a.off, c.toList.drop (a.off + len * e.sz), T, fz, els⟩, ⟨?_, by show 0 < len; omega, hle, by show cap < 2 ^ 63; have : maxLen = 2 ^ 63 - 1 := rfl; omega⟩, ?_⟩
        · show W.heap[a.block]? = some (.cells (cells E0 [] (AV.raw (c.toList.take a.off) ((Sh.arr len e).enc els) (c.toList.drop (a.off + len * e.sz)) fz)).toArray T fz)
          rw [hb]
          congr 2
          apply Array.ext'
          simp only [cells, harr, List.toList_toArray]
          have mid : (List.range len).flatMap (fun i => cells E0 [] (e.enc (els i))) = (c.toList.drop a.off).take (len * e.sz) := by
            have hX : ((c.toList.drop a.off).take (len * e.sz)).length = len * e.sz := by simp; omega
            rw [flatMap_chunks e.sz len _ hX, List.flatMap_def, List.flatMap_def]
            congr 1
            refine List.map_congr_left fun i hi => ?_
            have hi' : i < len := by simpa using hi
            have hin : i * e.sz + e.sz ≤ len * e.sz := by rw [← Nat.succ_mul]; exact Nat.mul_le_mul_right _ hi'
            apply List.ext_getElem
            · simp [hlen]; omega
            · intro j h1 h2
              have := hels i hi' j h1
              rw [hlen] at h1
              simp only [List.getElem_take, List.getElem_drop]
              have e1 := Array.getElem?_eq_some_iff.1 this
              obtain ⟨e2, e3⟩ := e1
              rw [← e3]
              simp only [Array.getElem_toList]
              congr 1
              omega
          rw [mid, List.append_assoc]
          have e1 : c.toList.drop (a.off + len * e.sz) = (c.toList.drop a.off).drop (len * e.sz) := by rw [List.drop_drop]
          rw [e1, List.take_append_drop, List.take_append_drop]
        · show Value.slice (some a) len cap = .slice (some ⟨a.block, (c.toList.take a.off).length, none⟩) len cap
          have : (c.toList.take a.off).length = a.off := by simp; omega
          rw [this]
          cases a
          simp_all
end Go.Rf

/- Laws with one slice among their arguments. -/
namespace Go.Rf
open Go.ChangeShapes Go.WideShapes Go.ChangeAt Go.RowKit

theorem open_mix {H : Type} {enc : TypeId × Value → H} {P : Program} {W : World} {r : Reach} {b0 : Nat} {tS : TypeId} {ts2 : List TypeId} : ∀ (l1 : List Sh) (ts1 : List TypeId) (vs : List Value) (ds : List (DataW H)) (ps : List MemPlace), shAll P l1 ts1 = true →
    (∀ (j : Nat) t v, (ts1 ++ tS :: ts2)[j]? = some t → vs[j]? = some v → Value.okWide P W r b0 t v) → DataW.TrodAll enc P W 0 (fun _ => true) true (ts1 ++ tS :: ts2) vs ds ps →
    ∃ (xs : HL l1) (v : Value) (vs2 : List Value) (d : DataW H) (p : List MemPlace) (ds2 : List (DataW H)) (p2 : List MemPlace), vs = (encs l1 xs).map (val E0) ++ v :: vs2 ∧ Value.okWide P W r b0 tS v ∧ DataW.Trod enc P W 0 (fun _ => true) true tS v d p ∧
      (∀ (j : Nat) t v, ts2[j]? = some t → vs2[j]? = some v → Value.okWide P W r b0 t v) ∧ DataW.TrodAll enc P W 0 (fun _ => true) true ts2 vs2 ds2 p2
  | [], [], vs, ds, ps, _, hv, h => by
    cases vs with
    | nil => exact h.elim
    | cons v vs => cases ds with
      | nil => exact h.elim
      | cons d ds =>
        obtain ⟨p1, p2, h1, h2, rfl⟩ := h
        exact ⟨(), v, vs, d, p1, ds, p2, rfl, hv 0 tS v rfl rfl, h1, fun j t v e1 e2 => hv (j + 1) t v e1 e2, h2⟩
  | [], _ :: _, _, _, _, h, _, _ => by simp [shAll] at h
  | _ :: _, [], _, _, _, h, _, _ => by simp [shAll] at h
  | s :: l, t :: ts, vs, ds, ps, hs, hv, h => by
    simp only [shAll, Bool.and_eq_true] at hs
    cases vs with
    | nil => exact h.elim
    | cons v vs => cases ds with
      | nil => exact h.elim
      | cons d ds =>
        obtain ⟨p1, p2, h1, h2, rfl⟩ := h
        obtain ⟨x, rfl, rfl, _⟩ := open_sh hs.1 (hv 0 t v rfl rfl) h1
        obtain ⟨xs, v', vs2, d', p', ds2, p2', rfl, r1, r2, r3, r4⟩ := open_mix l ts vs ds p2 hs.2 (fun j t v e1 e2 => hv (j + 1) t v e1 e2) h2
        exact ⟨(x, xs), v', vs2, d', p', ds2, p2', rfl, r1, r2, r3, r4⟩

theorem law_liftS {H : Type} {enc : TypeId × Value → H} {C : Checked} {os : Os} {f : FuncId} {fn : Func} {s : ChangeSpec} {tb : TypeId} (l1 : List Sh) (e : Sh) (l2 : List Sh) (ts1 : List TypeId) (tS te : TypeId) (ts2 : List TypeId)
    (own : ownKnob C.prog.godebug = none) (started : os.Started) (noInit : C.prog.inits.idxOf? f = none) (hfn : C.prog.funcs[f]? = some fn)
    (witness : ∃ (w : World) (tape : Tape) (i : Input), w.os = os ∧ (w.forCall tape i).Shaped C.prog ∧ i.vars = [] ∧ Input.okWide C.prog (w.forCall tape i) .any w.heap.size f i ∧
      s.pre6 enc C.prog fn [] false (w.forCall tape i).memory i.args ∧ (({} : Assume)).holds C.prog (lone (Frame.enter C.prog f i.args .normal) [] (w.forCall tape i)))
    (hps : fn.params.toList = ts1 ++ tS :: ts2) (h1 : shAll C.prog l1 ts1 = true) (hS : C.prog.underlying tS = some (.slice te)) (he : (shB C.prog e te && C.prog.cellsOf te == e.sz && decide (0 < e.sz) && e.flat1) = true) (h2 : shAll C.prog l2 ts2 = true)
    (hres : fn.resultTypes = #[tb]) (htb : C.prog.underlying tb = some .bool) (hvars : s.vars = [])
    (hspec : ∀ ds : List (DataW H), ds.length = fn.params.toList.length → s.fn H (ds ++ []) = { results := [.lit (.bool true)], args := ds })
    (hlaid : laidOutB C.prog = true) (hread : (fn.params.toList.all fun t => C.prog.readableRec t && decide (t < C.prog.types.size)) = true)
    (hemp : ∀ (xs : HL l1) (ys : HL l2) (ao : Option Addr) (cap : Nat) (w : World), Calls C.prog f ((encs l1 xs).map (val E0) ++ .slice ao 0 cap :: (encs l2 ys).map (val E0)).toArray w fun e w' => e = .returned (.bool true) ∧ RowKit.Below w.heap.size w w')
    (hnon : ∀ (xs : HL l1) (ys : HL l2) (D : SlD e) (w : World), D.Ok w → Calls C.prog f ((encs l1 xs).map (val E0) ++ D.value :: (encs l2 ys).map (val E0)).toArray w fun e w' => e = .returned (.bool true) ∧ RowKit.Below w.heap.size w w') :
    ReturnsInHanded {} C os f .any (s.pre6 enc C.prog fn [] false) (s.post enc C.prog fn false true false false) := by
  refine law_liftG own started noInit hfn witness hres htb hvars hspec hlaid hread ?_
  intro W base args ds ps hv hA
  rw [hps] at hv hA
  simp only [Bool.and_eq_true, beq_iff_eq, decide_eq_true_eq] at he
  obtain ⟨xs, v, vs2, d, p, ds2, p2, rfl, r1, r2, r3, r4⟩ := open_mix l1 ts1 _ ds ps h1 hv hA
  obtain ⟨ys, rfl, _⟩ := open_all l2 ts2 vs2 ds2 p2 h2 r3 r4
  rcases open_slice hS he.1.1.1 he.1.1.2 he.1.2 he.2 r1 r2 with ⟨ao, cap, rfl⟩ | ⟨D, hD, rfl⟩
  · exact hemp xs ys ao cap W
  · exact hnon xs ys D W hD
end Go.Rf

/- Calls with a slice that came in, from what the evaluator says. -/
namespace Go.Rf
theorem fl_two {α : Type} {E : Option (α × Ob)} {R : α} {L : List Prop} (h1 : (Rf.fl E).map (fun y => y.1) = some R) (h2 : (Rf.fl E).map (fun y => y.2.2) = some L) (hL : ∀ p ∈ L, p) : ∃ ob, E = some (R, ob) ∧ ob.holds := by
  cases e : Rf.fl E with
  | none => rw [e] at h1; cases h1
  | some x =>
    obtain ⟨r', g, L'⟩ := x
    rw [e] at h1 h2
    simp only [Option.map_some, Option.some.injEq] at h1 h2
    subst h1 h2
    exact fl_ok e (fun _ => hL)
theorem fg_two {α : Type} {E : Option (α × Ob)} {R : α} {L : List (List Bool × Prop)} (h1 : (Rf.fl E).map (fun y => y.1) = some R) (h2 : (Rf.fg E).map (fun y => y.2) = some L) (hL : ∀ e ∈ L, (∀ g ∈ e.1, g = true) → e.2) : ∃ ob, E = some (R, ob) ∧ ob.holds := by
  cases e : E with
  | none => rw [e] at h1; cases h1
  | some x =>
    obtain ⟨r', o⟩ := x
    rw [e] at h1 h2
    simp only [Rf.fl, Rf.fg, Option.map_some, Option.some.injEq] at h1 h2
    subst h1 h2
    exact fg_ok (E := some (r', o)) rfl hL
theorem slc_val {e : Sh} {D : SlD e} {w : World} (hD : D.Ok w) : val (E1 D.b) D.slc = D.value := by
  unfold SlD.slc SlD.value
  have h1 : D.len < 2 ^ 63 := Nat.lt_of_le_of_lt hD.le hD.big
  have h2 : (lenZ [] (AV.int .i64 fun _ => BitVec.ofNat 64 D.len)).toNat = D.len := by
    show (toZ .i64 (BitVec.ofNat 64 D.len)).toNat = D.len
    rw [toZ_nat (by rw [ofNat_toNat (by omega)]; exact h1), ofNat_toNat (by omega)]
    omega
  simp [val, cells, h2, E1, offOf]
theorem nonS {P : Program} {Γ : Tab} (hΓ : TabOk P Γ) {Λ : FuncId → Hook} {n : Nat} {f : FuncId} {l1 l2 : List Sh} {e : Sh} {xs : HL l1} {ys : HL l2} {D : SlD e} {w : World} (hD : D.Ok w) (hg : (Sh.arr D.len e).good = true)
    {args1 args2 : List AV} (h1 : encs l1 xs = args1) (h2 : encs l2 ys = args2) (hp1 : ∀ v ∈ encs l1 xs, pf v = true) (hp2 : ∀ v ∈ encs l2 ys, pf v = true)
    (h : ∃ ob, evalNM P Γ Λ n f (args1 ++ D.slc :: args2) D.blk = some (.bool fun _ => true, ob) ∧ ob.holds) :
    Calls P f ((encs l1 xs).map (val E0) ++ D.value :: (encs l2 ys).map (val E0)).toArray w fun e w' => e = .returned (.bool true) ∧ RowKit.Below w.heap.size w w' := by
  subst h1 h2
  obtain ⟨ob, he, ho⟩ := h
  have hpf : pf D.arr = true := Sh.enc_pf _ hg _
  have hc : ∀ E, cells E [] D.blk.v = cells E0 [] D.blk.v := by
    intro E
    show D.pre ++ cells E [] D.arr ++ D.post = D.pre ++ cells E0 [] D.arr ++ D.post
    rw [cells_pf E E0 _ hpf]
  have key := evM_calls hΓ he ho (b := D.b) (w := w) (show ok (E1 D.b) D.arr from ok_of_pf _ _ hpf) (by rw [hc]; exact hD.row) (fun v hv => by
    simp only [List.mem_append, List.mem_cons] at hv
    rcases hv with hv | rfl | hv
    · exact ok_of_pf _ _ (hp1 v hv)
    · show ((E1 D.b) 0).isSome = true
      rfl
    · exact ok_of_pf _ _ (hp2 v hv))
  have ea : (encs l1 xs ++ D.slc :: encs l2 ys).map (val (E1 D.b)) = (encs l1 xs).map (val E0) ++ D.value :: (encs l2 ys).map (val E0) := by
    rw [List.map_append, List.map_cons, slc_val hD]
    congr 1
    · exact List.map_congr_left fun v hv => val_pf (hp1 v hv) _ _
    · congr 1
      exact List.map_congr_left fun v hv => val_pf (hp2 v hv) _ _
  rw [ea] at key
  exact key
theorem empS {P : Program} {Γ : Tab} (hΓ : TabOk P Γ) {Λ : FuncId → Hook} {n : Nat} {f : FuncId} {l1 l2 : List Sh} {xs : HL l1} {ys : HL l2} {ao : Option Addr} {cap : Nat} {w : World}
    {args1 args2 : List AV} (h1 : encs l1 xs = args1) (h2 : encs l2 ys = args2) (hp1 : ∀ v ∈ encs l1 xs, pf v = true) (hp2 : ∀ v ∈ encs l2 ys, pf v = true)
    (h : ∃ ob, evalN0 P Γ Λ n f (args1 ++ .vsl ao cap :: args2) = some (.bool fun _ => true, ob) ∧ ob.holds) :
    Calls P f ((encs l1 xs).map (val E0) ++ .slice ao 0 cap :: (encs l2 ys).map (val E0)).toArray w fun e w' => e = .returned (.bool true) ∧ RowKit.Below w.heap.size w w' := by
  subst h1 h2
  obtain ⟨ob, he, ho⟩ := h
  have key := ev0_calls hΓ he ho (w := w) (fun v hv => by
    simp only [List.mem_append, List.mem_cons] at hv
    rcases hv with hv | rfl | hv
    · exact ok_of_pf _ _ (hp1 v hv)
    · trivial
    · exact ok_of_pf _ _ (hp2 v hv))
  have ea : (encs l1 xs ++ .vsl ao cap :: encs l2 ys).map (val E0) = (encs l1 xs).map (val E0) ++ .slice ao 0 cap :: (encs l2 ys).map (val E0) := by
    rw [List.map_append, List.map_cons]
    rfl
  rw [ea] at key
  exact key
end Go.Rf

/- Steps by hand between steps by evaluation: calls that give a slice, appends. -/
namespace Go.Rf

/-! ### Operations one behind the other -/

theorem wp_mono2 {P : Program} {o : Oper} {a : Act} {w : World} {K K' : Act → World → Prop} {Q Q' : Exit → Act → World → Prop} (h : ∀ a w, K a w → K' a w) (hq : ∀ e a w, e ≠ .normal → Q e a w → Q' e a w)
    (hh : o.wp P a w K Q) : o.wp P a w K' Q' := by
  unfold Oper.wp at *
  generalize (execOp a.eval o).run P w = r at *
  cases r with
  | ok n w' =>
    cases n <;> simp only [Oper.upon] at hh ⊢ <;>
      first
        | exact h _ _ hh
        | exact Calls.mono hh (fun e w'' he => by
            cases e <;> first
              | exact h _ _ he
              | exact hq _ _ _ (by simp) he
              | (obtain ⟨a, w, hx⟩ := he; exact ⟨a, w, hq _ _ _ (by simp) hx⟩))
        | exact Rows.mono hh (fun _ _ he => h _ _ he)
  | halt x w' => cases x <;> simp only [Oper.upon] at hh ⊢ <;> first | exact hh | exact hq _ _ _ (by simp) hh

theorem wpList_ops {P : Program} {ops ops' : Array Oper} {Q : Exit → Act → World → Prop} : ∀ (l : List Oper), (∀ o ∈ l, o.guard = none) → ∀ a w, wpList P ops Q l a w → wpList P ops' Q l a w
  | [], _, a, w, h => h
  | o :: l, hg, a, w, h => by
    have ho := hg o (by simp)
    have hw : ∀ ys, Region.wanted o ys = true := fun ys => by simp [Region.wanted, ho]
    unfold wpList at h ⊢
    rw [if_pos (hw _)] at h ⊢
    rcases h with h | h
    · exact .inl (Oper.wp_mono (fun a w => wpList_ops l (fun o ho => hg o (by simp [ho])) a w) h)
    · exact .inr h

theorem wpList_app {P : Program} {ops : Array Oper} {Q : Exit → Act → World → Prop} {l2 : List Oper} : ∀ (l1 : List Oper), (∀ o ∈ l1, o.guard = none) → ∀ a w, wpList P ops (fun e a w => e = .normal ∧ wpList P ops Q l2 a w) l1 a w → wpList P ops Q (l1 ++ l2) a w
  | [], _, a, w, h => h.2
  | o :: l, hg, a, w, h => by
    have ho := hg o (by simp)
    have hw : ∀ ys, Region.wanted o ys = true := fun ys => by simp [Region.wanted, ho]
    rw [List.cons_append]
    unfold wpList at h ⊢
    rw [if_pos (hw _)] at h ⊢
    rcases h with h | h
    · exact .inl (wp_mono2 (fun a w => wpList_app l (fun o ho => hg o (by simp [ho])) a w) (fun e a w hne hq => absurd hq.1 hne) h)
    · obtain ⟨_, a', w', h', _⟩ := h
      cases h'

/-- Without guards. -/
def noGd : List Oper → Bool
  | [] => true
  | o :: l => o.guard.isNone && noGd l
theorem noGd_spec : ∀ {l : List Oper}, noGd l = true → ∀ o ∈ l, o.guard = none
  | [], _, o, h => by cases h
  | o :: l, h, x, hx => by
    simp only [noGd, Bool.and_eq_true, Option.isNone_iff_eq_none] at h
    rcases List.mem_cons.1 hx with rfl | hx
    · exact h.1
    · exact noGd_spec h.2 x hx

theorem list_region {P : Program} {id : Nat} {ops : Array Oper} {Q : Exit → Act → World → Prop} {a : Act} {w : World} (hg : noGd ops.toList = true) (h : wpList P #[] Q ops.toList a w) : (Code.region id ops false).wp P Q a w :=
  wp_region_list (wpList_ops _ (noGd_spec hg) a w h)

/-- Some operations, evaluated. -/
def evalList (cx : Cx) (l : List Oper) (st : St) : Option (St × Ob) := evalRegion cx l.toArray false st

theorem evalList_wp {cx : Cx} (hΓ : TabOk cx.P cx.Γ) (hI : InlOk cx.P cx.inl) {l : List Oper} {st st' : St} {ob : Ob} (hg : noGd l = true) (h : evalList cx l st = some (st', ob)) (hob : ob.holds)
    {Es : Env} {ws : World} {a : Act} {w : World} (hs : SRel Es ws st a w) {Q : Exit → Act → World → Prop} (hQ : ∀ a' w', SRel Es ws st' a' w' → Q .normal a' w') :
    wpList cx.P #[] Q l a w := by
  unfold evalList evalRegion at h
  split at h <;> try (simp at h; done)
  rename_i fin n ob' hev
  split at h <;> simp at h
  obtain ⟨rfl, rfl⟩ := h
  obtain ⟨lr, nx, obs, e1, e2, e3, e4, e5, e6⟩ := evalOps_run _ _ _ _ _ _ hev
  simp only [List.append_nil] at e1 e5
  have R : Run cx l.toArray (fun t => clean (st.look t)) st.hp st.nt st.next lr nx obs := ⟨by simpa using e2, fun i o r ho hr => e5 i o r (by simpa using ho) hr, e3⟩
  have hobs : ∀ i, i < l.toArray.size → (obs i).holds := fun i hi => e6 hob i (by simpa using hi)
  obtain ⟨E, h1, h2, h3, h4, h5, h6, h7, h8, h9, h10⟩ := hs
  have hfin : ∀ E' a' w', InvD lr (fun t => clean (st.look t)) st.hp st.nt st.next Es ws (fun j => decide (j < l.toArray.size)) E' a' w' → Q .normal a' w' := by
    intro E' a' w' I
    have hmono0 := R.nx_mono (i := 0) (j := l.toArray.size) (by omega) (Nat.le_refl _)
    have e40 : nx l.toArray.size = n := by simpa using e4
    refine hQ a' w' ⟨E', ?_, I.sz, I.df, ?_, I.inj, I.bd, ?_, I.tr, h9, by rw [R.first] at hmono0; show st.lo ≤ n; omega⟩
    · intro t
      have ht := I.tm t
      rw [← R.len, verT_below _ lr lr.length (Nat.le_refl _) t, List.take_length] at ht
      have e := entOf_look (fun t => clean (st.look t)) (fun t => clean_clean _) t fin
      have : St.look { st with ent := entOf fin ++ st.ent, hent := hwOf fin ++ st.hent, next := n } t = (match lookL (entOf fin) t with | some v => v | none => st.look t) := by
        simp only [St.look, lookL_append]
        cases lookL (entOf fin) t <;> rfl
      rw [this]
      rw [e1] at e ⊢
      cases hl : lookL (entOf lr.reverse) t with
      | some v =>
        simp only [hl] at e ⊢
        rw [e]
        exact GRel_clean ht
      | none =>
        simp only [hl] at e ⊢
        have hx : TRel E' (clean (st.look t)) (a'.tmps.getD t undef) := by rw [e]; exact GRel_clean ht
        cases hv : st.look t with
        | gd q u => trivial
        | _ => rw [hv] at hx; exact hx
    · intro m B hB
      refine I.hp m B ?_
      rw [← R.len, verH_below _ lr lr.length (Nat.le_refl _) m, List.take_length]
      rw [← hwOf_look, ← hB, ← e1]
      simp only [St.hp, hwL_append]
      cases hwL (hwOf fin) m <;> rfl
    · intro m hm
      refine Classical.byContradiction fun hne => ?_
      have e4' : nx l.toArray.size = n := by simpa using e4
      have hmono := R.nx_mono (i := 0) (j := l.toArray.size) (by omega) (Nat.le_refl _)
      simp only at hm
      obtain ⟨j, hj, hnj⟩ := I.nm m (by rw [R.first] at hmono; omega) hne
      obtain ⟨a1, a2, a3⟩ := R.nw_at hnj
      have := R.nx_mono (i := j + 1) (j := l.toArray.size) (by omega) (Nat.le_refl _)
      omega
  have start : ∀ (D : Nat → Bool) (w : World), (∀ j, D j = false) → HRel E st.hp w → Bd E w → Tr Es ws E w → InvD lr (fun t => clean (st.look t)) st.hp st.nt st.next Es ws D E a w := by
    intro D w hD hh hb ht
    refine ⟨fun t => ?_, ?_, h5, hb, fun m hm hne => absurd (h7 m hm) hne, h2, h3, ht⟩
    · rw [verT_none lr _ D hD t]
      exact GRel_of_clean (h1 t)
    · intro m B hB
      rw [verH_none lr _ D hD m] at hB
      exact hh m B hB
  have key : wpOps cx.P l.toArray Q (List.range l.toArray.size) a w := by
    rw [List.range_eq_range']
    exact R.seq hΓ hI hobs hfin l.toArray.size 0 (by omega) E a w (start _ w (by simp) h4 h6 h8)
  rw [List.range_eq_range', List.size_toArray, wpOps_eq_wpList l 0 (by simp)] at key
  exact wpList_ops l (noGd_spec hg) a w key

/-! ### From a body to its calls -/

def enterAct (P : Program) (fn : Func) (args : List AV) : Act := { tmps := (args.map (val E0)).toArray ++ Array.replicate (fn.ntmps - (args.map (val E0)).toArray.size) undef, defers := [] }

theorem enter_rel {P : Program} {fn : Func} {args : List AV} (hlen : args.length ≤ fn.ntmps) (hargs : ∀ v ∈ args, pf v = true) (w : World) : SRel E0 w (St.enter args (fun _ => none) 0 fn.ntmps) (enterAct P fn args) w := by
  refine ⟨E0, ?_, ?_, rfl, ?_, fun n m b h => by simp at h, fun n b h => by simp at h, fun _ _ => rfl, Tr.refl E0 w, fun _ _ => rfl, Nat.le_refl _⟩
  · intro t
    simp only [St.look, St.enter, argEnt_look, Nat.zero_le, if_true, Nat.sub_zero, enterAct]
    simp only [Array.getD_eq_getD_getElem?, Array.getElem?_append]
    by_cases ht : t < args.length
    · have e : args[t]? = some args[t] := List.getElem?_eq_getElem ht
      simp only [e, List.size_toArray, List.length_map, ht, if_true]
      simp only [List.getElem?_toArray, List.getElem?_map, e, Option.map_some, Option.getD_some]
      exact TRel_of (ok_of_pf E0 _ (hargs _ (List.getElem_mem ht)))
    · have e : args[t]? = none := by simp; omega
      simp only [e, List.size_toArray, List.length_map, ht, if_false]
      refine ⟨trivial, ?_⟩
      simp only [Array.getElem?_replicate]
      split <;> rfl
  · simp [St.enter, enterAct]; omega
  · intro n B hB
    simp [St.enter, St.hp, hwL] at hB

theorem bodyPost_mono {P : Program} {fn : Func} {R R' : Ending → World → Prop} {e : Exit} {a : Act} {w : World} (h : bodyPost P fn R e a w) (hr : ∀ e w', R e w' → R' e w') : bodyPost P fn R' e a w := by
  cases e <;> first
    | exact ⟨h.1, h.2.choose, h.2.choose_spec.1, hr _ _ h.2.choose_spec.2⟩
    | exact hr _ _ h
    | exact h
    | exact ⟨h.1, hr _ _ h.2⟩

/-- The rest of a function's body, evaluated. -/
def evalK (cx : Cx) (Λ : Hook) (fn : Func) (c : Code) (p : List Nat) (st : St) : Option (AV × Ob) :=
  match evalCode cx Λ c p st with
  | some (o, ob) => match resOf cx.P fn (fun _ => none) o with
    | some (r, ob') => match flatH (fun _ => none) r with
      | some (v, _) => match nrmT v with
        | some u => some (u, ob.and ob')
        | none => none
      | none => none
    | none => none
  | none => none

theorem evalK_run {cx : Cx} (hΓ : TabOk cx.P cx.Γ) (hI : InlOk cx.P cx.inl) {Λ : Hook} {fn : Func} {c : Code} {p : List Nat} {st : St} {r : AV} {ob : Ob} (h : evalK cx Λ fn c p st = some (r, ob)) (hob : ob.holds) (hr : st.hrest = fun _ => none)
    {ws : World} {a : Act} {w : World} (hs : SRel E0 ws st a w) : c.wp cx.P (bodyPost cx.P fn fun e w' => e = .returned (valT E0 r) ∧ RowKit.Below ws.heap.size ws w') a w := by
  unfold evalK at h
  split at h <;> try (simp at h; done)
  rename_i o ob1 h1
  split at h <;> try (simp at h; done)
  rename_i r' ob2 h2
  split at h <;> try (simp at h; done)
  rename_i v hw h3
  split at h <;> simp at h
  rename_i u hu
  obtain ⟨rfl, rfl⟩ := h
  rw [Ob.and_holds] at hob
  have hrest := evalCode_rest (Λ := Λ) c p _ o ob1 h1
  rw [hr] at hrest
  obtain ⟨e1, e2, e3⟩ := nrmT_spec _ _ hu
  refine wp_mono (evalCode_wp hΓ hI c p _ o ob1 h1 hob.1 a w hs) fun e a w' hm => ?_
  have := resOf_run (hp := fun _ => none) (fun n B hB => by simp at hB) (fun n b hb => by simp at hb) h2 hob.2 hrest hm
  refine bodyPost_mono this ?_
  rintro e w' ⟨E', k1, rfl, k3, k4⟩
  obtain ⟨_, f2, _⟩ := flatH_spec E' (fun _ => none) h3
  refine ⟨?_, k3.below⟩
  rw [← f2, (pfT_spec e1 E').2.1, e3]
end Go.Rf

/- Slices that functions make: a call gives one; one is appended to. -/
namespace Go.Rf

variable {e : Sh} {P : Program}

/-- The slice, its block by the name n. -/
def SlD.at (d : SlD e) (n : Nat) : AV := .slc n [.win d.pre.length] (.int .i64 fun _ => BitVec.ofNat 64 d.len) d.cap

/-- What a slice that a function has made is. -/
structure SlD.Own (D : SlD e) (te : TypeId) (w : World) : Prop where
  row : w.heap[D.b]? = some (.cells (cells E0 [] D.blk.v).toArray D.T D.fz)
  le : D.len ≤ D.cap
  pre : D.pre = []
  fz : D.fz = (0, 0)
  ty : D.T = te
  post : D.post.length = (D.cap - D.len) * e.sz
  max : D.cap ≤ maxLen

theorem SlD.Own.big {D : SlD e} {te : TypeId} {w : World} (h : D.Own te w) : D.cap < 2 ^ 63 := by
  have := h.max
  have e : maxLen = 2 ^ 63 - 1 := rfl
  omega

theorem at_val {D : SlD e} {E : Env} {n : Nat} (hE : E n = some D.b) (hb : D.len < 2 ^ 63) : val E (D.at n) = D.value ∧ ok E (D.at n) := by
  unfold SlD.at SlD.value
  have h2 : (lenZ [] (AV.int .i64 fun _ => BitVec.ofNat 64 D.len)).toNat = D.len := by
    show (toZ .i64 (BitVec.ofNat 64 D.len)).toNat = D.len
    rw [toZ_nat (by rw [ofNat_toNat (by omega)]; exact hb), ofNat_toNat (by omega)]
    omega
  refine ⟨?_, ?_⟩
  · simp [val, cells, h2, hE, offOf]
  · show (E n).isSome = true
    rw [hE]; rfl

theorem blk_cells {D : SlD e} (hg : (Sh.arr D.len e).good = true) (E : Env) : cells E [] D.blk.v = cells E0 [] D.blk.v ∧ ok E D.blk.v := by
  have hpf : pf D.arr = true := Sh.enc_pf _ hg _
  refine ⟨?_, ?_⟩
  · show D.pre ++ cells E [] D.arr ++ D.post = D.pre ++ cells E0 [] D.arr ++ D.post
    rw [cells_pf E E0 _ hpf]
  · show ok E D.arr
    exact ok_of_pf E _ hpf

/-- What is known of a state, held fast: these temporaries and blocks, all named below n. -/
structure Kept (st : St) (n : Nat) (ents : List (Nat × AV)) (hbs : List (Nat × Option Blk)) : Prop where
  ent : ∀ x ∈ ents, (∀ E y, TRel E (st.look x.1) y → TRel E x.2 y) ∧ nlt n x.2
  blk : ∀ x ∈ hbs, x.1 < n ∧ st.hp x.1 = x.2 ∧ ∀ B, x.2 = some B → nlt n B.v
  lo : st.lo ≤ n

theorem lookL_mem {l : List (Nat × AV)} {t : Nat} {v : AV} (h : lookL l t = some v) : (t, v) ∈ l := by
  induction l with
  | nil => simp [lookL] at h
  | cons x l ih =>
    obtain ⟨k, u⟩ := x
    simp only [lookL] at h
    split at h
    · rename_i hk; simp at hk h; subst hk h; exact List.mem_cons_self
    · exact List.mem_cons_of_mem _ (ih h)
theorem hwL_mem2 {l : List (Nat × Option Blk)} {t : Nat} {v : Option Blk} (h : hwL l t = some v) : (t, v) ∈ l := by
  induction l with
  | nil => simp [hwL] at h
  | cons x l ih =>
    obtain ⟨k, u⟩ := x
    simp only [hwL] at h
    split at h
    · rename_i hk; simp at hk h; subst hk h; exact List.mem_cons_self
    · exact List.mem_cons_of_mem _ (ih h)

/-- A state of so much and the slice. -/
def slSt (D : SlD e) (n : Nat) (dst : Nat) (ents : List (Nat × AV)) (hbs : List (Nat × Option Blk)) (nt lo : Nat) : St :=
  ⟨(dst, D.at n) :: ents, fun _ => .un, (n, some D.blk) :: hbs, fun _ => none, n + 1, nt, lo⟩

/-- The slice comes in by the name n, over a block of this name or a new one. -/
theorem slice_in {Es : Env} {ws : World} {st : St} {a : Act} {w : World} {E : Env} (h1 : ∀ t, TRel E (st.look t) (a.tmps.getD t undef)) (h2 : a.tmps.size = st.nt) (h3 : a.defers = []) (h4 : HRel E st.hp w) (h5 : Inj E) (h6 : Bd E w)
    (h8 : Tr Es ws E w) (h9 : ∀ n, st.lo ≤ n → Es n = none) {n dst : Nat} {ents : List (Nat × AV)} {hbs : List (Nat × Option Blk)} (hk : Kept st n ents hbs) (hdst : dst < st.nt)
    {D : SlD e} {te : TypeId} {w' : World} (hD : D.Own te w') (hg : (Sh.arr D.len e).good = true)
    (os : w'.os = w.os) (tape : w'.tape = w.tape) (output : w'.output = w.output) (size : w.heap.size ≤ w'.heap.size) (block : ∀ k, k < w.heap.size → k ≠ D.b → E n ≠ some k → w'.heap[k]? = w.heap[k]?)
    (hb : E n = some D.b ∨ w.heap.size ≤ D.b) :
    SRel Es ws (slSt D n dst ents hbs st.nt st.lo) (a.put (some dst) D.value) w' := by
  have hlt : D.len < 2 ^ 63 := Nat.lt_of_le_of_lt hD.le hD.big
  let E' : Env := fun m => if m < n then E m else if m = n then some D.b else none
  have hn : E' n = some D.b := by simp [E']
  have hlow : ∀ m, m < n → E' m = E m := fun m hm => by simp [E', hm]
  have hsub : Sub (cut n E) E' := by
    intro m b hm
    simp only [cut] at hm
    split at hm
    · rename_i hmn; rw [hlow m hmn]; exact hm
    · simp at hm
  have hrow : D.b < w'.heap.size := by
    have := hD.row
    exact (Array.getElem?_eq_some_iff.1 this).1
  have hne : ∀ m b, m < n → E m = some b → b ≠ D.b := by
    intro m b hm hmb e
    subst e
    rcases hb with h | h
    · have := h5 m n _ hmb h
      omega
    · have := h6 m _ hmb
      omega
  refine ⟨E', ?_, by rw [put_size]; exact h2, by rw [put_df]; exact h3, ?_, ?_, ?_, ?_, ?_, h9, Nat.le_succ_of_le hk.lo⟩
  · intro t
    rw [put_getD a (some dst) D.value t (fun k hk => by cases hk; rw [h2]; exact hdst)]
    show TRel E' (match lookL ((dst, D.at n) :: ents) t with | some v => v | none => .un) _
    simp only [lookL, Option.some.injEq]
    by_cases hd : dst = t
    · subst hd
      simp only [beq_self_eq_true, if_true]
      rw [← (at_val hn hlt).1]
      exact TRel_of (at_val hn hlt).2
    · have hd' : (dst == t) = false := by simpa using hd
      simp only [hd', Bool.false_eq_true, if_false, hd]
      cases hl : lookL ents t with
      | none => trivial
      | some v =>
        obtain ⟨k1, k2⟩ := hk.ent _ (lookL_mem hl)
        exact TRel_mono hsub (TRel_cut (k1 E _ (h1 t)) k2)
  · intro m B hB
    have hB' : (match hwL ((n, some D.blk) :: hbs) m with | some b => b | none => none) = some B := hB
    simp only [hwL] at hB'
    by_cases hm : n = m
    · subst hm
      simp only [beq_self_eq_true, if_true, Option.some.injEq] at hB'
      subst hB'
      refine ⟨D.b, hn, (blk_cells hg E').2, ?_⟩
      rw [(blk_cells hg E').1]
      exact hD.row
    · have hm' : (n == m) = false := by simpa using hm
      simp only [hm', Bool.false_eq_true, if_false] at hB'
      cases hl : hwL hbs m with
      | none => rw [hl] at hB'; cases hB'
      | some v =>
        rw [hl] at hB'
        simp only at hB'
        subst hB'
        obtain ⟨k1, k2, k3⟩ := hk.blk _ (hwL_mem2 hl)
        simp only at k1 k2 k3
        obtain ⟨b, b1, b2, b3⟩ := h4 m B k2
        refine ⟨b, by rw [hlow m k1]; exact b1, ok_mono hsub (ok_cut b2 (k3 B rfl)), ?_⟩
        have hcut : ok (cut n E) B.v := ok_cut b2 (k3 B rfl)
        rw [cells_mono hsub hcut, ← cells_mono (cut_sub n E) hcut]
        rw [block b (h6 m b b1) (hne m b k1 b1) (fun h => by have := h5 m n b b1 h; omega)]
        exact b3
  · intro m m' b hm hm'
    simp only [E'] at hm hm'
    split at hm <;> split at hm'
    · exact h5 m m' b hm hm'
    · rename_i q1 q2
      split at hm' <;> simp at hm'
      exact absurd hm'.symm (hne m b q1 hm)
    · rename_i q1 q2
      split at hm <;> simp at hm
      exact absurd hm.symm (hne m' b q2 hm')
    · split at hm <;> simp at hm
      split at hm' <;> simp at hm'
      omega
  · intro m b hm
    simp only [E'] at hm
    split at hm
    · exact Nat.lt_of_lt_of_le (h6 m b hm) size
    · split at hm <;> simp at hm
      omega
  · intro m hm
    have : n + 1 ≤ m := hm
    simp only [E']
    rw [if_neg (by omega), if_neg (by omega)]
  · -- what has become of the world
    have hEs : ∀ m, n ≤ m → Es m = none := fun m hm => h9 m (Nat.le_trans hk.lo hm)
    refine ⟨?_, ?_, os.trans h8.os, tape.trans h8.tape, output.trans h8.output, Nat.le_trans h8.size size, ?_⟩
    · intro m b hm
      have : m < n := Classical.byContradiction fun hne => by rw [hEs m (by omega)] at hm; cases hm
      rw [hlow m this]
      exact h8.sub m b hm
    · intro m b hm
      simp only [E'] at hm
      split at hm
      · exact h8.new m b hm
      · split at hm <;> simp at hm
        subst hm
        right
        rcases hb with h | h
        · rcases h8.new n _ h with h' | h'
          · rw [hEs n (Nat.le_refl n)] at h'; cases h'
          · exact h'
        · exact Nat.le_trans h8.size h
    · intro k hk1 hk2
      rw [block k (Nat.lt_of_lt_of_le hk1 h8.size) ?_ ?_, h8.keep k hk1 hk2]
      · intro hkb
        rcases hb with h | h
        · rcases h8.new n _ h with h' | h'
          · rw [hEs n (Nat.le_refl n)] at h'; cases h'
          · omega
        · have := h8.size
          omega
      · intro h
        rcases h8.new n _ h with h' | h'
        · rw [hEs n (Nat.le_refl n)] at h'; cases h'
        · omega

theorem opd_st {st : St} {E : Env} {a : Act} (h1 : ∀ t, TRel E (st.look t) (a.tmps.getD t undef)) (x : Operand) : TRel E (opd st.look x) (a.eval x) := by
  cases x with
  | tmp t => exact h1 t
  | const v => cases v <;> first | trivial | exact ⟨trivial, rfl⟩
  | func f => exact ⟨trivial, rfl⟩
  | global g => trivial

/-- What a function that makes a slice does. -/
def Makes (P : Program) (f : FuncId) (args : List AV) (te : TypeId) (len : Nat) (els : Nat → e.T) : Prop :=
  ∀ w, Calls P f (args.map (val E0)).toArray w fun x w' => ∃ D : SlD e, x = .returned D.value ∧ D.Own te w' ∧ D.len = len ∧ (∀ i, i < len → D.els i = els i) ∧ w.heap.size ≤ D.b ∧ RowKit.Below w.heap.size w w'

/-- A call of such a function. -/
theorem step_makes {Es : Env} {ws : World} {st : St} {a : Act} {w : World} (hs : SRel Es ws st a w) {o : Oper} {rest : List Oper} {f : FuncId} {args args' : List AV} {te : TypeId} {len : Nat} {els : Nat → e.T} {Q : Exit → Act → World → Prop}
    (hgd : o.guard = none) (hev : eff P (opd st.look) o.op = some (.call f args)) (hn : nrmL args = some args') (hm : Makes (e := e) P f args' te len els) {dst : Nat} (hd : o.dst = some dst) (hdst : dst < st.nt)
    {ents : List (Nat × AV)} {hbs : List (Nat × Option Blk)} (hk : Kept st st.next ents hbs) (hg : (Sh.arr len e).good = true)
    (hK : ∀ (D : SlD e) a' w', D.Own te w' → D.len = len → (∀ i, i < len → D.els i = els i) → SRel Es ws (slSt D st.next dst ents hbs st.nt st.lo) a' w' → wpList P #[] Q rest a' w') :
    wpList P #[] Q (o :: rest) a w := by
  obtain ⟨E, h1, h2, h3, h4, h5, h6, h7, h8, h9, h10⟩ := hs
  refine wpList_plain hgd fun K hKK => ?_
  obtain ⟨_, hr⟩ := eff_run hev E a (fun x _ => opd_st h1 x)
  unfold Oper.wp
  obtain ⟨hpf, hmap⟩ := nrmL_spec args args' hn
  have hval : args.map (val E) = args'.map (val E0) := by
    rw [hmap E]
    exact List.map_congr_left fun v hv => val_pf (hpf v hv) E E0
  rw [hr w, Oper.upon_enter, hval]
  refine (hm w).mono ?_
  rintro x w' ⟨D, rfl, hD, hl, hel, hb, hbel⟩
  refine hKK _ _ (hK D _ w' hD hl hel ?_)
  rw [hd]
  exact slice_in h1 h2 h3 h4 h5 h6 h8 h9 hk hdst hD (by rw [hl]; exact hg) hbel.os hbel.tape hbel.output hbel.size (fun k hk _ _ => hbel.block k hk) (.inr hb)
end Go.Rf

/- A slice that is appended to; a slice just built. -/
namespace Go.Rf

variable {e : Sh} {P : Program}

theorem arr_cells (hfl : e.flat1 = true) (len : Nat) (els : Nat → e.T) : cells E0 [] ((Sh.arr len e).enc els) = (List.range len).flatMap fun i => cells E0 [] (e.enc (els i)) := by
  show (List.range len).flatMap (fun i => cells E0 ([] ++ [i]) (e.body fun ix => els (ix.headD 0))) = _
  congr 1
  funext i
  rw [List.nil_append, Sh.body_cells i e hfl]
  rfl

/-- The values one behind the other. -/
def flatN (e : Sh) (n : Nat) (els : Nat → e.T) : List Value := (List.range n).flatMap fun i => cells E0 [] (e.enc (els i))

theorem flatN_len (hl : ∀ y : e.T, (cells E0 [] (e.enc y)).length = e.sz) (n : Nat) (els : Nat → e.T) : (flatN e n els).length = n * e.sz := by
  unfold flatN
  rw [List.length_flatMap]
  have : ∀ l : List Nat, (l.map fun i => (cells E0 [] (e.enc (els i))).length).sum = l.length * e.sz := by
    intro l
    induction l with
    | nil => simp
    | cons a l ih => rw [List.map_cons, List.sum_cons, ih, hl, List.length_cons, Nat.succ_mul]; omega
  rw [this]; simp

theorem flatN_congr {n : Nat} {f g : Nat → e.T} (h : ∀ i, i < n → f i = g i) : flatN e n f = flatN e n g := by
  unfold flatN
  rw [List.flatMap_def, List.flatMap_def]
  congr 1
  refine List.map_congr_left fun i hi => ?_
  rw [h i (by simpa using hi)]

theorem flatN_add (n k : Nat) (f : Nat → e.T) : flatN e (n + k) f = flatN e n f ++ flatN e k fun i => f (n + i) := by
  unfold flatN
  rw [List.range_add, List.flatMap_append, List.flatMap_map]

/-- Both, one behind the other. -/
def catE {α : Type} (n : Nat) (f g : Nat → α) : Nat → α := fun i => if i < n then f i else g (i - n)
theorem flatN_cat (n k : Nat) (f g : Nat → e.T) : flatN e (n + k) (catE n f g) = flatN e n f ++ flatN e k g := by
  rw [flatN_add]
  congr 1
  · exact flatN_congr fun i hi => by simp [catE, hi]
  · exact flatN_congr fun i hi => by unfold catE; rw [if_neg (by omega), Nat.add_sub_cancel_left]

/-- All but the block. -/
structure SlD.Fix (D : SlD e) (te : TypeId) : Prop where
  le : D.len ≤ D.cap
  pre : D.pre = []
  fz : D.fz = (0, 0)
  ty : D.T = te
  post : D.post.length = (D.cap - D.len) * e.sz
  max : D.cap ≤ maxLen
theorem SlD.Own.fix {D : SlD e} {te : TypeId} {w : World} (h : D.Own te w) : D.Fix te := ⟨h.le, h.pre, h.fz, h.ty, h.post, h.max⟩

/-- A shape that lies flat, each value as great. -/
structure Flat (e : Sh) : Prop where
  fl : e.flat1 = true
  len : ∀ y : e.T, (cells E0 [] (e.enc y)).length = e.sz
  pos : 0 < e.sz
  good : ∀ n, (Sh.arr n e).good = true

theorem blk_row (F : Flat e) {D : SlD e} (hp : D.pre = []) : cells E0 [] D.blk.v = flatN e D.len D.els ++ D.post := by
  show D.pre ++ cells E0 [] D.arr ++ D.post = _
  rw [hp, List.nil_append]
  congr 1
  exact arr_cells F.fl D.len D.els

/-- A slice of k that has just been built is one of ours. -/
theorem adopt (F : Flat e) {Es : Env} {ws : World} {st : St} {a : Act} {w : World} (hs : SRel Es ws st a w) {n src k : Nat} {B : Blk} {els : Nat → e.T} {te : TypeId} (hv : st.look src = .slc n [] (.lit .i64 k) k) (hB : st.hp n = some B) (hT : B.T = te)
    (hnr : isRaw B.v = false) (hc : ∀ E, cells E [] B.v = flatN e k els) {ents : List (Nat × AV)} {hbs : List (Nat × Option Blk)} (hk : Kept st n ents hbs) (hsrc : src < st.nt) (hmax : k ≤ maxLen) :
    ∃ D : SlD e, D.Own te w ∧ D.len = k ∧ D.els = els ∧ SRel Es ws (slSt D n src ents hbs st.nt st.lo) a w := by
  obtain ⟨E, h1, h2, h3, h4, h5, h6, h7, h8, h9, h10⟩ := hs
  obtain ⟨b, b1, b2, b3⟩ := h4 n B hB
  let D : SlD e := ⟨b, k, k, [], [], B.T, (0, 0), els⟩
  have hrow : cells E0 [] D.blk.v = cells E [] B.v := by
    rw [blk_row F rfl, hc]
    simp [D]
  have hD : D.Own te w := ⟨by
    show w.heap[b]? = _
    rw [b3, hrow]
    rw [fz_notRaw hnr], Nat.le_refl _, rfl, rfl, hT, by simp [D], hmax⟩
  refine ⟨D, hD, rfl, rfl, ?_⟩
  have hx := h1 src
  rw [hv] at hx
  have hval : a.tmps.getD src undef = D.value := by
    rw [← hx.2]
    simp [valT, val, cells, lenZ, b1, offOf, SlD.value, D]
  have ha : a = a.put (some src) D.value := by
    have hlt : src < a.tmps.size := by rw [h2]; exact hsrc
    cases a with
    | mk tmps defers =>
      simp only [Act.put, Act.mk.injEq, and_true]
      apply Array.ext
      · simp
      · intro i hi1 hi2
        rw [Array.getElem_setIfInBounds hi1]
        by_cases hi : src = i
        · subst hi
          simp only [if_true]
          rw [← hval]
          simp [Array.getD_eq_getD_getElem?, hi1]
        · simp [hi]
  rw [ha]
  exact slice_in h1 h2 h3 h4 h5 h6 h8 h9 hk hsrc hD (F.good _) rfl rfl rfl (Nat.le_refl _) (fun _ _ _ _ => rfl) (.inl b1)

/-- What is kept alone. -/
theorem Kept.rel {Es : Env} {ws : World} {st : St} {a : Act} {w : World} (hs : SRel Es ws st a w) {n : Nat} {ents : List (Nat × AV)} {hbs : List (Nat × Option Blk)} (hk : Kept st n ents hbs) :
    SRel Es ws ⟨ents, fun _ => .un, hbs, fun _ => none, n, st.nt, st.lo⟩ a w := by
  obtain ⟨E, h1, h2, h3, h4, h5, h6, h7, h8, h9, h10⟩ := hs
  refine ⟨cut n E, ?_, h2, h3, ?_, ?_, ?_, ?_, ?_, h9, hk.lo⟩
  · intro t
    show TRel (cut n E) (match lookL ents t with | some v => v | none => .un) _
    cases hl : lookL ents t with
    | none => trivial
    | some v =>
      obtain ⟨k1, k2⟩ := hk.ent _ (lookL_mem hl)
      exact TRel_cut (k1 E _ (h1 t)) k2
  · intro m B hB
    have hB' : (match hwL hbs m with | some b => b | none => none) = some B := hB
    cases hl : hwL hbs m with
    | none => rw [hl] at hB'; cases hB'
    | some v =>
      rw [hl] at hB'
      simp only at hB'
      subst hB'
      obtain ⟨k1, k2, k3⟩ := hk.blk _ (hwL_mem2 hl)
      simp only at k1 k2 k3
      obtain ⟨b, b1, b2, b3⟩ := h4 m B k2
      have hcut : ok (cut n E) B.v := ok_cut b2 (k3 B rfl)
      refine ⟨b, by simp [cut, k1, b1], hcut, ?_⟩
      rw [← cells_mono (cut_sub n E) hcut]
      exact b3
  · intro m m' b hm hm'
    exact h5 m m' b (cut_sub n E m b hm) (cut_sub n E m' b hm')
  · intro m b hm
    exact h6 m b (cut_sub n E m b hm)
  · intro m hm
    have : n ≤ m := hm
    simp only [cut]
    rw [if_neg (by omega)]
  · refine ⟨?_, ?_, h8.os, h8.tape, h8.output, h8.size, h8.keep⟩
    · intro m b hm
      have : m < n := Classical.byContradiction fun hne => by rw [h9 m (Nat.le_trans hk.lo (by omega))] at hm; cases hm
      simp only [cut, this, if_true]
      exact h8.sub m b hm
    · intro m b hm
      exact h8.new m b (cut_sub n E m b hm)

theorem step_append (F : Flat e) {Es : Env} {ws : World} {st : St} {a : Act} {w : World} (hs : SRel Es ws st a w) {o : Oper} {rest : List Oper} {Q : Exit → Act → World → Prop} (hgd : o.guard = none) {s x : Nat} {t te : TypeId}
    (ho : o.op = .call { callee := .builtin .append, args := #[.tmp s, .tmp x], argTypes := #[t, t] }) {dst : Nat} (hd : o.dst = some dst) (hdst : dst < st.nt)
    {D : SlD e} {n : Nat} (hsv : st.look s = D.at n) (hB : st.hp n = some D.blk) (hfix : D.Fix te)
    {m k c : Nat} {B2 : Blk} {ys : Nat → e.T} (hxv : st.look x = .slc m [] (.lit .i64 k) c) (hB2 : st.hp m = some B2) (hnr : noRaw B2.v = true) (hc : ∀ E, cells E [] B2.v = flatN e k ys)
    {ents : List (Nat × AV)} {hbs : List (Nat × Option Blk)} (hk : Kept st n ents hbs)
    (i : TypeInfo) (z : Value) (ht : P.underlying t = some (.slice te)) (hi : P.info? te = some i) (hz : i.zero = some z) (hsize : i.size = e.sz) (hzs : z.cells.size = e.sz) (hsmall : (D.len + k) * i.bytes ≤ 140737488355328) (hlen : D.len + k ≤ 140737488355328)
    (hK : ∀ (D' : SlD e) a' w', D'.Fix te → D'.len = D.len + k → D'.els = catE D.len D.els ys → SRel Es ws (slSt D' n dst ents hbs st.nt st.lo) a' w' → wpList P #[] Q rest a' w') :
    wpList P #[] Q (o :: rest) a w := by
  obtain ⟨E, h1, h2, h3, h4, h5, h6, h7, h8, h9, h10⟩ := hs
  refine wpList_plain hgd fun K hKK => ?_
  obtain ⟨b, b1, b2, b3⟩ := h4 n D.blk hB
  obtain ⟨bx, x1, x2, x3⟩ := h4 m B2 hB2
  have hcell : cells E [] D.blk.v = flatN e D.len D.els ++ D.post := by
    rw [(blk_cells (F.good _) E).1, blk_row F hfix.pre]
  have hfz : fzOf D.blk.v = (0, 0) := hfix.fz
  have hrow : w.heap[b]? = some (.cells (flatN e D.len D.els ++ D.post).toArray te (0, 0)) := by
    rw [b3, hcell, hfz]
    show some (Obj.cells _ D.T _) = _
    rw [hfix.ty]
  have hfx : fzOf B2.v = (0, 0) := fz_notRaw (by
    cases hv : B2.v <;> first
      | rfl
      | (rw [hv] at hnr; simp [noRaw] at hnr))
  have hrowx : w.heap[bx]? = some (.cells (flatN e k ys).toArray B2.T (0, 0)) := by rw [x3, hc, hfx]
  have hnl := flatN_len F.len k ys
  have hol := flatN_len F.len D.len D.els
  have hlen1 : D.len < 2 ^ 63 := by omega
  have hsval : a.eval (.tmp s) = .slice (some ⟨b, 0, none⟩) D.len D.cap := by
    have := h1 s
    rw [hsv] at this
    have h' : val E (D.at n) = a.tmps.getD s undef := this.2
    show a.tmps.getD s undef = _
    rw [← h']
    have h2 : (lenZ [] (AV.int .i64 fun _ => BitVec.ofNat 64 D.len)).toNat = D.len := by
      show (toZ .i64 (BitVec.ofNat 64 D.len)).toNat = D.len
      rw [toZ_nat (by rw [ofNat_toNat (by omega)]; exact hlen1), ofNat_toNat (by omega)]
      omega
    simp [SlD.at, val, cells, h2, b1, offOf, hfix.pre]
  have hxval : a.eval (.tmp x) = .slice (some ⟨bx, 0, none⟩) k c := by
    have := h1 x
    rw [hxv] at this
    show a.tmps.getD x undef = _
    rw [← this.2]
    simp [valT, val, cells, lenZ, x1, offOf]
  have hnews : ∀ j v, (flatN e k ys)[j]? = some v → w.cell? ((⟨bx, 0, none⟩ : Addr).add j) = some v := by
    intro j v hj
    rw [add_spot rfl, cell_of_row w bx _ _ _ _ hrowx]
    simpa using hj
  have holds : ∀ j v, (flatN e D.len D.els)[j]? = some v → w.cell? ((⟨b, 0, none⟩ : Addr).add j) = some v := by
    intro j v hj
    rw [add_spot rfl, cell_of_row w b _ _ _ _ hrow]
    simp only [Nat.zero_add, List.getElem?_toArray]
    rw [List.getElem?_append_left (List.getElem?_eq_some_iff.1 hj).1]
    exact hj
  have h1c : ∀ u ∈ flatN e k ys, u.oneCell' = true := by
    intro u hu
    rw [← hc E] at hu
    exact oneCell_cells B2.v x2 hnr [] u hu
  have mlen : maxLen = 2 ^ 63 - 1 := rfl
  have fin : ∀ (D' : SlD e) (w' : World), D'.Own te w' → D'.len = D.len + k → D'.els = catE D.len D.els ys → w'.os = w.os → w'.tape = w.tape → w'.output = w.output → w.heap.size ≤ w'.heap.size →
      (∀ q, q < w.heap.size → q ≠ D'.b → E n ≠ some q → w'.heap[q]? = w.heap[q]?) → (E n = some D'.b ∨ w.heap.size ≤ D'.b) → K (a.put o.dst D'.value) w' := by
    intro D' w' hD' e1 e2 g1 g2 g3 g4 g5 g6
    refine hKK _ _ (hK D' _ w' hD'.fix e1 e2 ?_)
    rw [hd]
    exact slice_in h1 h2 h3 h4 h5 h6 h8 h9 hk hdst hD' (F.good _) g1 g2 g3 g4 g5 g6
  unfold Oper.wp execOp
  simp only [ho, resolve, invoke, builtin, Sem.run_bind, Sem.run_pure, Result.andThen_ok, List.map_toArray, List.map_cons, List.map_nil, hsval, hxval]
  by_cases hroom : D.len + k ≤ D.cap
  · have hpost := hfix.post
    have hfit : D.len * i.size + (flatN e k ys).length ≤ (flatN e D.len D.els ++ D.post).toArray.size := by
      rw [hsize, hnl]
      simp only [List.size_toArray, List.length_append, hol, hpost, ← Nat.add_mul]
      exact Nat.mul_le_mul_right _ (by omega)
    have hr := run_append_room (P := P) w t o.type te i ht hi b D.len D.cap _ hrow ⟨bx, 0, none⟩ k c (flatN e k ys) (by rw [hsize]; exact hnl) hnews h1c hroom hfit
    rw [hr]
    simp only [Result.andThen_ok, Oper.upon_value]
    let D' : SlD e := ⟨b, D.len + k, D.cap, [], D.post.drop (flatN e k ys).length, te, (0, 0), catE D.len D.els ys⟩
    have hcells : cells E0 [] D'.blk.v = (flatN e D.len D.els ++ D.post).toArray.toList.take (D.len * i.size) ++ flatN e k ys ++ (flatN e D.len D.els ++ D.post).toArray.toList.drop (D.len * i.size + (flatN e k ys).length) := by
      rw [blk_row F rfl]
      show flatN e (D.len + k) (catE D.len D.els ys) ++ D.post.drop _ = _
      rw [flatN_cat, hsize, ← hol]
      simp [List.drop_append]
    refine fin D' _ ⟨?_, hroom, rfl, rfl, rfl, ?_, hfix.max⟩ rfl rfl rfl rfl rfl (by simp) ?_ (.inl b1)
    · show (w.setRow b _).heap[b]? = _
      rw [hcells]
      exact setRow_heap w b _ _ _ _ hrow
    · show (D.post.drop _).length = (D.cap - (D.len + k)) * e.sz
      rw [List.length_drop, hpost, hnl, ← Nat.sub_mul]
      congr 1
      omega
    · intro q _ hq _
      exact setRow_other w b q _ (fun h => hq (by rw [h]))
  · have hr := run_append_grow (P := P) w t o.type te i z ht hi hz ⟨b, 0, none⟩ D.len D.cap (flatN e D.len D.els) (by rw [hsize]; exact hol) holds ⟨bx, 0, none⟩ k c (flatN e k ys) (by rw [hsize]; exact hnl) hnews (by omega) (by omega) (growslice_fits (by omega) hsmall)
    rw [hr]
    simp only [Result.andThen_ok, Oper.upon_value]
    have hge := grownCap_ge w (D.len + k) D.cap te
    have hcm : grownCap w (D.len + k) D.cap te ≤ maxLen := grownCap_le_maxLen w (D.len + k) D.cap te (by omega)
    let zs := Builtin.zeroCells z.cells (grownCap w (D.len + k) D.cap te - (D.len + k))
    let D' : SlD e := ⟨w.heap.size, D.len + k, grownCap w (D.len + k) D.cap te, [], zs.toList, te, (0, 0), catE D.len D.els ys⟩
    have hcells : (cells E0 [] D'.blk.v).toArray = (flatN e D.len D.els).toArray ++ (flatN e k ys).toArray ++ zs := by
      rw [blk_row F rfl]
      apply Array.ext'
      show flatN e (D.len + k) (catE D.len D.els ys) ++ zs.toList = _
      rw [flatN_cat]
      simp
    refine fin D' _ ⟨?_, hge, rfl, rfl, rfl, ?_, hcm⟩ rfl rfl rfl rfl rfl (by simp) ?_ (.inr (Nat.le_refl _))
    · show (w.drew.alloc _).heap[w.heap.size]? = _
      rw [hcells]
      exact heap_alloc_new w.drew _
    · show zs.toList.length = (grownCap w (D.len + k) D.cap te - (D.len + k)) * e.sz
      rw [Array.length_toList, size_zeroCells, hzs]
    · intro q hq _ _
      exact heap_alloc_old w.drew _ q hq
end Go.Rf
