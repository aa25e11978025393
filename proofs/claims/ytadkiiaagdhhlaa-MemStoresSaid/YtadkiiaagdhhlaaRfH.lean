/- Several texts as one: Rf24 Rf25 Rf26 Rf27. -/
import Derived.Test.YtadkiiaagdhhlaaRfG
import Derived.Carry
set_option linter.unusedVariables false
set_option linter.unusedSimpArgs false

/- Slices that come in. -/
namespace Go.Rf
open Go.ChangeShapes Go.WideShapes Go.ChangeAt Go.RowKit

/-- One block is named at the beginning. -/
def hpB (B : Blk) : Hp := fun n => match n with
  | 0 => some B
  | _ => none
def E1 (b : Nat) : Env := fun n => match n with
  | 0 => some b
  | _ => none
def evalNM (P : Program) (Γ : Tab) (Λ : FuncId → Hook) (n : Nat) (f : FuncId) (args : List AV) (B : Blk) : Option (AV × Ob) :=
  match inlF P Γ Λ n f args (hpB B) 1 with
  | some (v, [], ob) => match nrmT v with
    | some u => some (u, ob)
    | none => none
  | _ => none

theorem evM_calls {P : Program} {Γ : Tab} (hΓ : TabOk P Γ) {Λ : FuncId → Hook} {n : Nat} {f : FuncId} {args : List AV} {B : Blk} {r : AV} {ob : Ob} (h : evalNM P Γ Λ n f args B = some (r, ob)) (ho : ob.holds)
    {b : Nat} {w : World} (hok : ok (E1 b) B.v) (hb : w.heap[b]? = some (.cells (cells (E1 b) [] B.v).toArray B.T (fzOf B.v))) (ha : ∀ v ∈ args, ok (E1 b) v) :
    Calls P f (args.map (val (E1 b))).toArray w fun e w' => e = .returned (valT E0 r) ∧ RowKit.Below w.heap.size w w' := by
  unfold evalNM at h
  split at h <;> try (simp at h; done)
  rename_i v ob' h1
  split at h <;> simp at h
  rename_i u hu
  obtain ⟨rfl, rfl⟩ := h
  obtain ⟨e1, e2, e3⟩ := nrmT_spec _ _ hu
  have hlt : b < w.heap.size := (Array.getElem?_eq_some_iff.1 hb).1
  have hE : ∀ m k, E1 b m = some k → m = 0 ∧ k = b := by
    intro m k hm
    unfold E1 at hm
    split at hm
    · exact ⟨rfl, by simpa using hm.symm⟩
    · cases hm
  have hrel : HRel (E1 b) (hpB B) w := by
    intro m C hm
    unfold hpB at hm
    split at hm
    · simp at hm; subst hm; exact ⟨b, rfl, hok, hb⟩
    · cases hm
  refine ((inlF_ok hΓ n f args (hpB B) 1 v [] ob' h1 ho).2 (E1 b) w ha hrel ?_ ?_ ?_).mono ?_
  · intro m m' k hm hm'
    rw [(hE m k hm).1, (hE m' k hm').1]
  · intro m k hm
    rw [(hE m k hm).2]; exact hlt
  · intro m hm
    unfold E1
    split
    · omega
    · rfl
  · rintro e w' ⟨x, rfl, hx, ht, hh⟩
    refine ⟨?_, ht.os, ht.tape, ht.output, ht.size, fun k hk => ?_⟩
    · have h2 : x = valT E0 v := by
        obtain ⟨_, q2, q3⟩ := pfT_spec e1 (E1 b)
        have : valT (E1 b) v = x := by
          cases v <;> first
            | exact hx.2
            | simp [pfT, pf] at e1
        rw [← this, q2]
      rw [h2, e3]
    · by_cases hkb : k = b
      · subst hkb
        obtain ⟨b2, q1, q2, q3⟩ := hh 0 B rfl
        have : b2 = k := by
          have : (E1 k) 0 = some b2 := q1
          simpa [E1] using this.symm
        subst this
        rw [q3, hb]
      · exact ht.keep k hk (fun m hm => hkb (hE m k hm).2)

theorem trodAll_len {H : Type} {enc : TypeId × Value → H} {P : Program} {w : World} {base : Nat} {sp : Nat → Bool} {hd : Bool} : ∀ {ts : List TypeId} {vs : List Value} {ds : List (DataW H)} {ps : List MemPlace}, DataW.TrodAll enc P w base sp hd ts vs ds ps → ds.length = ts.length
  | [], vs, ds, ps, h => by obtain ⟨_, rfl, _⟩ := trodAll_nil h; rfl
  | _ :: ts, [], _, _, h => h.elim
  | _ :: ts, _ :: _, [], _, h => h.elim
  | _ :: ts, _ :: vs, _ :: ds, ps, h => by
    obtain ⟨p1, p2, _, h2, rfl⟩ := h
    simp [trodAll_len h2]

/-- A law whose arguments are opened elsewhere. -/
theorem law_liftG {H : Type} {enc : TypeId × Value → H} {C : Checked} {os : Os} {f : FuncId} {fn : Func} {s : ChangeSpec} {tb : TypeId} (own : ownKnob C.prog.godebug = none) (started : os.Started) (noInit : C.prog.inits.idxOf? f = none) (hfn : C.prog.funcs[f]? = some fn)
    (witness : ∃ (w : World) (tape : Tape) (i : Input), w.os = os ∧ (w.forCall tape i).Shaped C.prog ∧ i.vars = [] ∧ Input.okWide C.prog (w.forCall tape i) .any w.heap.size f i ∧
      s.pre6 enc C.prog fn [] false (w.forCall tape i).memory i.args ∧ (({} : Assume)).holds C.prog (lone (Frame.enter C.prog f i.args .normal) [] (w.forCall tape i)))
    (hres : fn.resultTypes = #[tb]) (htb : C.prog.underlying tb = some .bool) (hvars : s.vars = [])
    (hspec : ∀ ds : List (DataW H), ds.length = fn.params.toList.length → s.fn H (ds ++ []) = { results := [.lit (.bool true)], args := ds })
    (hlaid : laidOutB C.prog = true) (hread : (fn.params.toList.all fun t => C.prog.readableRec t && decide (t < C.prog.types.size)) = true)
    (hcalls : ∀ (W : World) (base : Nat) (args : List Value) (ds : List (DataW H)) (ps : List MemPlace), (∀ (j : Nat) t v, fn.params.toList[j]? = some t → args[j]? = some v → Value.okWide C.prog W .any base t v) →
      DataW.TrodAll enc C.prog W 0 (fun _ => true) true fn.params.toList args ds ps → Calls C.prog f args.toArray W fun e w' => e = .returned (.bool true) ∧ RowKit.Below W.heap.size W w') :
    ReturnsInHanded {} C os f .any (s.pre6 enc C.prog fn [] false) (s.post enc C.prog fn false true false false) := by
  refine returnsInHanded_of_change (C := C) own started noInit hfn witness ?_
  intro W base args ds gs before hval0 hW hcnd _
  have hval : ∀ (j : Nat) t v, fn.params.toList[j]? = some t → args.toList[j]? = some v → Value.okWide C.prog W .any base t v := fun j t v h1 h2 =>
    hval0 j t v (by simpa using h1) (by simpa using h2)
  have hlt := hW.lt
  have hW' := hW
  obtain ⟨p, q, hA, hV, rfl, hfz, hnd⟩ := hW
  rw [hvars] at hV
  obtain ⟨rfl, rfl⟩ := trodVars_none hV
  have hlen := trodAll_len hA
  have hc := hcalls W base args.toList ds p hval hA
  rw [Array.toArray_toList] at hc
  refine hc.mono ?_
  rintro e W' ⟨rfl, hB⟩
  refine ⟨_, rfl, ?_⟩
  have hsp := hspec ds hlen
  have hr : ∀ (b : Nat) (sp : Nat → Bool) (hd : Bool), DataW.TrodAll enc C.prog W' b sp hd fn.resultTypes.toList ((Value.bool true).resultList fn.resultTypes.size) (s.fn H (ds ++ [])).results [] := by
    intro b sp hd
    rw [hres, hsp]
    exact trodAll_mk1 ⟨1, by simp [DataW.trod, Value.cells, htb]⟩
  have carry : ∀ (ts : List TypeId) (vs : List Value) (ds : List (DataW H)) (ps : List MemPlace), (ts.all fun t => C.prog.readableRec t && decide (t < C.prog.types.size)) = true → (∀ x ∈ ps, x.block < W.heap.size) →
      DataW.TrodAll enc C.prog W 0 (fun _ => true) true ts vs ds ps → DataW.TrodAll enc C.prog W' 0 (fun b => decide (b < W.heap.size)) true ts vs ds ps := by
    intro ts
    induction ts with
    | nil =>
      intro vs ds ps _ _ h
      obtain ⟨rfl, rfl, rfl⟩ := trodAll_nil h
      exact rfl
    | cons t ts ih =>
      intro vs ds ps hr hl h
      cases vs with
      | nil => exact h.elim
      | cons v vs => cases ds with
        | nil => exact h.elim
        | cons d ds =>
          obtain ⟨p1, p2, h1, h2, rfl⟩ := h
          simp only [List.all_cons, Bool.and_eq_true, decide_eq_true_eq] at hr
          exact ⟨p1, p2, Below.trod hlaid hr.1.1 hr.1.2 h1 hB (fun x hx => hl x (by simp [hx])), ih vs ds p2 hr.2 (fun x hx => hl x (by simp [hx])) h2, rfl⟩
  have ha : DataW.TrodAll enc C.prog W' 0 (fun b => decide (b < W.heap.size)) true fn.params.toList args.toList (s.fn H (ds ++ [])).args p := by
    rw [hsp]
    exact carry _ _ _ _ hread (fun x hx => hlt x (by simp [hx])) hA
  have hv : DataW.TrodVars enc C.prog W' (fun b => decide (b < W.heap.size)) s.vars (s.fn H (ds ++ [])).vars [] := by
    rw [hsp, hvars]
    exact rfl
  exact ⟨ds, [], p ++ [], [], p, [], hW', hr _ _ _, ha, hv, hB.frame _, fun h => by cases h⟩
end Go.Rf

/- A slice among the arguments, opened. -/
namespace Go.Rf
open Go.ChangeShapes Go.WideShapes Go.ChangeAt Go.RowKit

/-- No block is named at the beginning. -/
def evalN0 (P : Program) (Γ : Tab) (Λ : FuncId → Hook) (n : Nat) (f : FuncId) (args : List AV) : Option (AV × Ob) :=
  match inlF P Γ Λ n f args (fun _ => none) 0 with
  | some (v, _, ob) => match nrmT v with
    | some u => some (u, ob)
    | none => none
  | none => none
theorem ev0_calls {P : Program} {Γ : Tab} (hΓ : TabOk P Γ) {Λ : FuncId → Hook} {n : Nat} {f : FuncId} {args : List AV} {r : AV} {ob : Ob} (h : evalN0 P Γ Λ n f args = some (r, ob)) (ho : ob.holds)
    {w : World} (ha : ∀ v ∈ args, ok E0 v) : Calls P f (args.map (val E0)).toArray w fun e w' => e = .returned (valT E0 r) ∧ RowKit.Below w.heap.size w w' := by
  unfold evalN0 at h
  split at h <;> try (simp at h; done)
  rename_i v hw ob' h1
  split at h <;> simp at h
  rename_i u hu
  obtain ⟨rfl, rfl⟩ := h
  obtain ⟨e1, e2, e3⟩ := nrmT_spec _ _ hu
  refine ((inlF_ok hΓ n f args _ 0 v hw ob' h1 ho).2 E0 w ha (fun m C hm => by cases hm) (fun m m' k hm => by cases hm) (fun m k hm => by cases hm) (fun m _ => rfl)).mono ?_
  rintro e w' ⟨x, rfl, hx, ht, hh⟩
  refine ⟨?_, ht.below⟩
  have : valT E0 v = x := by
    cases v <;> first
      | exact hx.2
      | simp [pfT, pf] at e1
  rw [← this, e3]

/-- A slice with elements: its block, what lies ahead and behind. -/
structure SlD (e : Sh) where
  b : Nat
  len : Nat
  cap : Nat
  pre : List Value
  post : List Value
  T : TypeId
  fz : Nat × Nat
  els : Nat → e.T
def SlD.arr {e : Sh} (d : SlD e) : AV := (Sh.arr d.len e).enc d.els
def SlD.blk {e : Sh} (d : SlD e) : Blk := ⟨d.T, .raw d.pre d.arr d.post d.fz⟩
def SlD.slc {e : Sh} (d : SlD e) : AV := .slc 0 [.win d.pre.length] (.int .i64 fun _ => BitVec.ofNat 64 d.len) d.cap
def SlD.value {e : Sh} (d : SlD e) : Value := .slice (some ⟨d.b, d.pre.length, none⟩) d.len d.cap
structure SlD.Ok {e : Sh} (d : SlD e) (w : World) : Prop where
  row : w.heap[d.b]? = some (.cells (cells E0 [] d.blk.v).toArray d.T d.fz)
  pos : 0 < d.len
  le : d.len ≤ d.cap
  big : d.cap < 2 ^ 63

variable {H : Type} {enc : TypeId × Value → H} {P : Program}

theorem add_spot {a : Addr} (h : a.spot = none) (n : Nat) : a.add n = ⟨a.block, a.off + n, none⟩ := by
  unfold Addr.add
  split
  · rename_i e; subst e; cases a; simp_all
  · rfl

theorem open_slice {tS te : TypeId} (ht : P.underlying tS = some (.slice te)) {e : Sh} (he : shB P e te = true) (hsz : P.cellsOf te = e.sz) (hpos : 0 < e.sz) (hfl : e.flat1 = true) {W : World} {r : Reach} {b0 : Nat} {v : Value} {d : DataW H} {ps : List MemPlace}
    (hv : Value.okWide P W r b0 tS v) (h : DataW.Trod enc P W 0 (fun _ => true) true tS v d ps) :
    (∃ ao cap, v = .slice ao 0 cap) ∨ ∃ D : SlD e, D.Ok W ∧ v = D.value := by
  obtain ⟨ao, len, cap, rfl⟩ := okWide_slice ht hv
  obtain ⟨fuel, hf⟩ := h
  by_cases hl : len = 0
  · subst hl; exact .inl ⟨ao, cap, rfl⟩
  right
  cases fuel with
  | zero => simp [DataW.trod] at hf
  | succ fuel =>
    simp only [Value.cells, DataW.trod, ht] at hf
    cases ao with
    | none => cases len <;> simp at hf hl
    | some a =>
      simp only at hf
      split at hf <;> try (simp at hf; done)
      rename_i hc
      obtain ⟨_, hle, hmax⟩ := hc
      cases hm : (List.range len).mapM (fun i => (W.cells? 0 (a.add (i * P.cellsOf te)) (P.cellsOf te)).bind (DataW.trod enc P W 0 (fun _ => true) true fuel te)) with
      | none => rw [hm] at hf; simp at hf
      | some elems =>
        obtain ⟨el, eg⟩ := mapM_some_get hm
        simp only [List.length_range] at el
        have each : ∀ i, i < len → ∃ cs, W.cells? 0 (a.add (i * e.sz)) e.sz = some cs ∧ ∃ y : e.T, cs = cells E0 [] (e.enc y) := by
          intro i hi
          have := eg i (by simpa using hi) (by omega)
          simp only [List.getElem_range] at this
          cases hcs : W.cells? 0 (a.add (i * P.cellsOf te)) (P.cellsOf te) with
          | none => rw [hcs] at this; simp at this
          | some cs =>
            rw [hcs] at this
            simp only [Option.bind_some] at this
            obtain ⟨_, hy, _⟩ := (read_all e).1 te he W 0 _ true fuel cs _ this
            rw [hsz] at hcs
            exact ⟨cs, hcs, hy⟩
        have cell : ∀ i, i < len → ∃ cs, (∃ y : e.T, cs = cells E0 [] (e.enc y)) ∧ cs.length = e.sz ∧ ∀ j, (hj : j < e.sz) → (hj' : j < cs.length) → W.cell? ((a.add (i * e.sz)).add j) = some cs[j] := by
          intro i hi
          obtain ⟨cs, h1, h2⟩ := each i hi
          simp only [World.cells?, Nat.zero_le, if_true] at h1
          obtain ⟨g1, g2⟩ := mapM_some_get h1
          simp only [List.length_range] at g1
          refine ⟨cs, h2, g1, fun j hj hj' => ?_⟩
          have := g2 j (by simpa using hj) hj'
          simpa using this
        -- the block
        obtain ⟨cs0, _, l0, c0⟩ := cell 0 (by omega)
        have h00 := c0 0 hpos (by omega)
        have ea : (a.add (0 * e.sz)).add 0 = a := by simp [Addr.add]
        rw [ea] at h00
        unfold World.cell? at h00
        split at h00 <;> try (simp at h00; done)
        rename_i c T fz hb
        split at h00 <;> try (simp at h00; done)
        rename_i hsp
        have hspot : a.spot = none := by simpa using hsp
        have at_ : ∀ i, i < len → ∃ cs, (∃ y : e.T, cs = cells E0 [] (e.enc y)) ∧ cs.length = e.sz ∧ ∀ j, (hj' : j < cs.length) → c[a.off + i * e.sz + j]? = some cs[j] := by
          intro i hi
          obtain ⟨cs, h1, h2, h3⟩ := cell i hi
          refine ⟨cs, h1, h2, fun j hj' => ?_⟩
          have := h3 j (by omega) hj'
          rw [add_spot hspot, add_spot rfl] at this
          simpa [World.cell?, hb] using this
        have hend : a.off + len * e.sz ≤ c.size := by
          obtain ⟨cs, _, h2, h3⟩ := at_ (len - 1) (by omega)
          have := h3 (e.sz - 1) (by omega)
          have hlt := (Array.getElem?_eq_some_iff.1 this).1
          have : (len - 1) * e.sz + e.sz = len * e.sz := by
            rw [← Nat.succ_mul]; congr 1; omega
          omega
        have choice : ∃ els : Nat → e.T, ∀ i, i < len → ∀ j, (hj : j < (cells E0 [] (e.enc (els i))).length) → c[a.off + i * e.sz + j]? = some (cells E0 [] (e.enc (els i)))[j] := by
          have : ∀ i, ∃ y : e.T, i < len → ∀ j, (hj : j < (cells E0 [] (e.enc y)).length) → c[a.off + i * e.sz + j]? = some (cells E0 [] (e.enc y))[j] := by
            intro i
            by_cases hi : i < len
            · obtain ⟨cs, ⟨y, rfl⟩, _, h3⟩ := at_ i hi
              exact ⟨y, fun _ => h3⟩
            · obtain ⟨cs, ⟨y, rfl⟩, _, h3⟩ := at_ 0 (by omega)
              exact ⟨y, fun h => absurd h hi⟩
          exact ⟨fun i => (this i).choose, fun i hi => (this i).choose_spec hi⟩
        obtain ⟨els, hels⟩ := choice
        have hlen : ∀ i, (cells E0 [] (e.enc (els i))).length = e.sz := fun i => Sh.enc_len e (shB_good P e |>.1 te he) (els i)
        have harr : cells E0 [] ((Sh.arr len e).enc els) = (List.range len).flatMap fun i => cells E0 [] (e.enc (els i)) := by
          show (List.range len).flatMap (fun i => cells E0 ([] ++ [i]) (e.body fun ix => els (ix.headD 0))) = _
          congr 1
          funext i
          rw [List.nil_append, Sh.body_cells i e hfl]
          rfl
        refine ⟨⟨a.block, len, cap, c.toList.take a.off, c.toList.drop (a.off + len * e.sz), T, fz, els⟩, ⟨?_, by show 0 < len; omega, hle, by show cap < 2 ^ 63; have : maxLen = 2 ^ 63 - 1 := rfl; omega⟩, ?_⟩
        · show W.heap[a.block]? = some (.cells (cells E0 [] (AV.raw (c.toList.take a.off) ((Sh.arr len e).enc els) (c.toList.drop (a.off + len * e.sz)) fz)).toArray T fz)
          rw [hb]
          congr 2
          apply Array.ext'
          simp only [cells, harr, List.toList_toArray]
          have mid : (List.range len).flatMap (fun i => cells E0 [] (e.enc (els i))) = (c.toList.drop a.off).take (len * e.sz) := by
            have hX : ((c.toList.drop a.off).take (len * e.sz)).length = len * e.sz := by simp; omega
            rw [flatMap_chunks e.sz len _ hX, List.flatMap_def, List.flatMap_def]
            congr 1
            refine List.map_congr_left fun i hi => ?_
            have hi' : i < len := by simpa using hi
            have hin : i * e.sz + e.sz ≤ len * e.sz := by rw [← Nat.succ_mul]; exact Nat.mul_le_mul_right _ hi'
            apply List.ext_getElem
            · simp [hlen]; omega
            · intro j h1 h2
              have := hels i hi' j h1
              rw [hlen] at h1
              simp only [List.getElem_take, List.getElem_drop]
              have e1 := Array.getElem?_eq_some_iff.1 this
              obtain ⟨e2, e3⟩ := e1
              rw [← e3]
              simp only [Array.getElem_toList]
              congr 1
              omega
          rw [mid, List.append_assoc]
          have e1 : c.toList.drop (a.off + len * e.sz) = (c.toList.drop a.off).drop (len * e.sz) := by rw [List.drop_drop]
          rw [e1, List.take_append_drop, List.take_append_drop]
        · show Value.slice (some a) len cap = .slice (some ⟨a.block, (c.toList.take a.off).length, none⟩) len cap
          have : (c.toList.take a.off).length = a.off := by simp; omega
          rw [this]
          cases a
          simp_all
end Go.Rf

/- Laws with one slice among their arguments. -/
namespace Go.Rf
open Go.ChangeShapes Go.WideShapes Go.ChangeAt Go.RowKit

theorem open_mix {H : Type} {enc : TypeId × Value → H} {P : Program} {W : World} {r : Reach} {b0 : Nat} {tS : TypeId} {ts2 : List TypeId} : ∀ (l1 : List Sh) (ts1 : List TypeId) (vs : List Value) (ds : List (DataW H)) (ps : List MemPlace), shAll P l1 ts1 = true →
    (∀ (j : Nat) t v, (ts1 ++ tS :: ts2)[j]? = some t → vs[j]? = some v → Value.okWide P W r b0 t v) → DataW.TrodAll enc P W 0 (fun _ => true) true (ts1 ++ tS :: ts2) vs ds ps →
    ∃ (xs : HL l1) (v : Value) (vs2 : List Value) (d : DataW H) (p : List MemPlace) (ds2 : List (DataW H)) (p2 : List MemPlace), vs = (encs l1 xs).map (val E0) ++ v :: vs2 ∧ Value.okWide P W r b0 tS v ∧ DataW.Trod enc P W 0 (fun _ => true) true tS v d p ∧
      (∀ (j : Nat) t v, ts2[j]? = some t → vs2[j]? = some v → Value.okWide P W r b0 t v) ∧ DataW.TrodAll enc P W 0 (fun _ => true) true ts2 vs2 ds2 p2
  | [], [], vs, ds, ps, _, hv, h => by
    cases vs with
    | nil => exact h.elim
    | cons v vs => cases ds with
      | nil => exact h.elim
      | cons d ds =>
        obtain ⟨p1, p2, h1, h2, rfl⟩ := h
        exact ⟨(), v, vs, d, p1, ds, p2, rfl, hv 0 tS v rfl rfl, h1, fun j t v e1 e2 => hv (j + 1) t v e1 e2, h2⟩
  | [], _ :: _, _, _, _, h, _, _ => by simp [shAll] at h
  | _ :: _, [], _, _, _, h, _, _ => by simp [shAll] at h
  | s :: l, t :: ts, vs, ds, ps, hs, hv, h => by
    simp only [shAll, Bool.and_eq_true] at hs
    cases vs with
    | nil => exact h.elim
    | cons v vs => cases ds with
      | nil => exact h.elim
      | cons d ds =>
        obtain ⟨p1, p2, h1, h2, rfl⟩ := h
        obtain ⟨x, rfl, rfl, _⟩ := open_sh hs.1 (hv 0 t v rfl rfl) h1
        obtain ⟨xs, v', vs2, d', p', ds2, p2', rfl, r1, r2, r3, r4⟩ := open_mix l ts vs ds p2 hs.2 (fun j t v e1 e2 => hv (j + 1) t v e1 e2) h2
        exact ⟨(x, xs), v', vs2, d', p', ds2, p2', rfl, r1, r2, r3, r4⟩

theorem law_liftS {H : Type} {enc : TypeId × Value → H} {C : Checked} {os : Os} {f : FuncId} {fn : Func} {s : ChangeSpec} {tb : TypeId} (l1 : List Sh) (e : Sh) (l2 : List Sh) (ts1 : List TypeId) (tS te : TypeId) (ts2 : List TypeId)
    (own : ownKnob C.prog.godebug = none) (started : os.Started) (noInit : C.prog.inits.idxOf? f = none) (hfn : C.prog.funcs[f]? = some fn)
    (witness : ∃ (w : World) (tape : Tape) (i : Input), w.os = os ∧ (w.forCall tape i).Shaped C.prog ∧ i.vars = [] ∧ Input.okWide C.prog (w.forCall tape i) .any w.heap.size f i ∧
      s.pre6 enc C.prog fn [] false (w.forCall tape i).memory i.args ∧ (({} : Assume)).holds C.prog (lone (Frame.enter C.prog f i.args .normal) [] (w.forCall tape i)))
    (hps : fn.params.toList = ts1 ++ tS :: ts2) (h1 : shAll C.prog l1 ts1 = true) (hS : C.prog.underlying tS = some (.slice te)) (he : (shB C.prog e te && C.prog.cellsOf te == e.sz && decide (0 < e.sz) && e.flat1) = true) (h2 : shAll C.prog l2 ts2 = true)
    (hres : fn.resultTypes = #[tb]) (htb : C.prog.underlying tb = some .bool) (hvars : s.vars = [])
    (hspec : ∀ ds : List (DataW H), ds.length = fn.params.toList.length → s.fn H (ds ++ []) = { results := [.lit (.bool true)], args := ds })
    (hlaid : laidOutB C.prog = true) (hread : (fn.params.toList.all fun t => C.prog.readableRec t && decide (t < C.prog.types.size)) = true)
    (hemp : ∀ (xs : HL l1) (ys : HL l2) (ao : Option Addr) (cap : Nat) (w : World), Calls C.prog f ((encs l1 xs).map (val E0) ++ .slice ao 0 cap :: (encs l2 ys).map (val E0)).toArray w fun e w' => e = .returned (.bool true) ∧ RowKit.Below w.heap.size w w')
    (hnon : ∀ (xs : HL l1) (ys : HL l2) (D : SlD e) (w : World), D.Ok w → Calls C.prog f ((encs l1 xs).map (val E0) ++ D.value :: (encs l2 ys).map (val E0)).toArray w fun e w' => e = .returned (.bool true) ∧ RowKit.Below w.heap.size w w') :
    ReturnsInHanded {} C os f .any (s.pre6 enc C.prog fn [] false) (s.post enc C.prog fn false true false false) := by
  refine law_liftG own started noInit hfn witness hres htb hvars hspec hlaid hread ?_
  intro W base args ds ps hv hA
  rw [hps] at hv hA
  simp only [Bool.and_eq_true, beq_iff_eq, decide_eq_true_eq] at he
  obtain ⟨xs, v, vs2, d, p, ds2, p2, rfl, r1, r2, r3, r4⟩ := open_mix l1 ts1 _ ds ps h1 hv hA
  obtain ⟨ys, rfl, _⟩ := open_all l2 ts2 vs2 ds2 p2 h2 r3 r4
  rcases open_slice hS he.1.1.1 he.1.1.2 he.1.2 he.2 r1 r2 with ⟨ao, cap, rfl⟩ | ⟨D, hD, rfl⟩
  · exact hemp xs ys ao cap W
  · exact hnon xs ys D W hD
end Go.Rf

/- Calls with a slice that came in, from what the evaluator says. -/
namespace Go.Rf
theorem fl_two {α : Type} {E : Option (α × Ob)} {R : α} {L : List Prop} (h1 : (Rf.fl E).map (fun y => y.1) = some R) (h2 : (Rf.fl E).map (fun y => y.2.2) = some L) (hL : ∀ p ∈ L, p) : ∃ ob, E = some (R, ob) ∧ ob.holds := by
  cases e : Rf.fl E with
  | none => rw [e] at h1; cases h1
  | some x =>
    obtain ⟨r', g, L'⟩ := x
    rw [e] at h1 h2
    simp only [Option.map_some, Option.some.injEq] at h1 h2
    subst h1 h2
    exact fl_ok e (fun _ => hL)
theorem fg_two {α : Type} {E : Option (α × Ob)} {R : α} {L : List (List Bool × Prop)} (h1 : (Rf.fl E).map (fun y => y.1) = some R) (h2 : (Rf.fg E).map (fun y => y.2) = some L) (hL : ∀ e ∈ L, (∀ g ∈ e.1, g = true) → e.2) : ∃ ob, E = some (R, ob) ∧ ob.holds := by
  cases e : E with
  | none => rw [e] at h1; cases h1
  | some x =>
    obtain ⟨r', o⟩ := x
    rw [e] at h1 h2
    simp only [Rf.fl, Rf.fg, Option.map_some, Option.some.injEq] at h1 h2
    subst h1 h2
    exact fg_ok (E := some (r', o)) rfl hL
theorem slc_val {e : Sh} {D : SlD e} {w : World} (hD : D.Ok w) : val (E1 D.b) D.slc = D.value := by
  unfold SlD.slc SlD.value
  have h1 : D.len < 2 ^ 63 := Nat.lt_of_le_of_lt hD.le hD.big
  have h2 : (lenZ [] (AV.int .i64 fun _ => BitVec.ofNat 64 D.len)).toNat = D.len := by
    show (toZ .i64 (BitVec.ofNat 64 D.len)).toNat = D.len
    rw [toZ_nat (by rw [ofNat_toNat (by omega)]; exact h1), ofNat_toNat (by omega)]
    omega
  simp [val, cells, h2, E1, offOf]
theorem nonS {P : Program} {Γ : Tab} (hΓ : TabOk P Γ) {Λ : FuncId → Hook} {n : Nat} {f : FuncId} {l1 l2 : List Sh} {e : Sh} {xs : HL l1} {ys : HL l2} {D : SlD e} {w : World} (hD : D.Ok w) (hg : (Sh.arr D.len e).good = true)
    {args1 args2 : List AV} (h1 : encs l1 xs = args1) (h2 : encs l2 ys = args2) (hp1 : ∀ v ∈ encs l1 xs, pf v = true) (hp2 : ∀ v ∈ encs l2 ys, pf v = true)
    (h : ∃ ob, evalNM P Γ Λ n f (args1 ++ D.slc :: args2) D.blk = some (.bool fun _ => true, ob) ∧ ob.holds) :
    Calls P f ((encs l1 xs).map (val E0) ++ D.value :: (encs l2 ys).map (val E0)).toArray w fun e w' => e = .returned (.bool true) ∧ RowKit.Below w.heap.size w w' := by
  subst h1 h2
  obtain ⟨ob, he, ho⟩ := h
  have hpf : pf D.arr = true := Sh.enc_pf _ hg _
  have hc : ∀ E, cells E [] D.blk.v = cells E0 [] D.blk.v := by
    intro E
    show D.pre ++ cells E [] D.arr ++ D.post = D.pre ++ cells E0 [] D.arr ++ D.post
    rw [cells_pf E E0 _ hpf]
  have key := evM_calls hΓ he ho (b := D.b) (w := w) (show ok (E1 D.b) D.arr from ok_of_pf _ _ hpf) (by rw [hc]; exact hD.row) (fun v hv => by
    simp only [List.mem_append, List.mem_cons] at hv
    rcases hv with hv | rfl | hv
    · exact ok_of_pf _ _ (hp1 v hv)
    · show ((E1 D.b) 0).isSome = true
      rfl
    · exact ok_of_pf _ _ (hp2 v hv))
  have ea : (encs l1 xs ++ D.slc :: encs l2 ys).map (val (E1 D.b)) = (encs l1 xs).map (val E0) ++ D.value :: (encs l2 ys).map (val E0) := by
    rw [List.map_append, List.map_cons, slc_val hD]
    congr 1
    · exact List.map_congr_left fun v hv => val_pf (hp1 v hv) _ _
    · congr 1
      exact List.map_congr_left fun v hv => val_pf (hp2 v hv) _ _
  rw [ea] at key
  exact key
theorem empS {P : Program} {Γ : Tab} (hΓ : TabOk P Γ) {Λ : FuncId → Hook} {n : Nat} {f : FuncId} {l1 l2 : List Sh} {xs : HL l1} {ys : HL l2} {ao : Option Addr} {cap : Nat} {w : World}
    {args1 args2 : List AV} (h1 : encs l1 xs = args1) (h2 : encs l2 ys = args2) (hp1 : ∀ v ∈ encs l1 xs, pf v = true) (hp2 : ∀ v ∈ encs l2 ys, pf v = true)
    (h : ∃ ob, evalN0 P Γ Λ n f (args1 ++ .vsl ao cap :: args2) = some (.bool fun _ => true, ob) ∧ ob.holds) :
    Calls P f ((encs l1 xs).map (val E0) ++ .slice ao 0 cap :: (encs l2 ys).map (val E0)).toArray w fun e w' => e = .returned (.bool true) ∧ RowKit.Below w.heap.size w w' := by
  subst h1 h2
  obtain ⟨ob, he, ho⟩ := h
  have key := ev0_calls hΓ he ho (w := w) (fun v hv => by
    simp only [List.mem_append, List.mem_cons] at hv
    rcases hv with hv | rfl | hv
    · exact ok_of_pf _ _ (hp1 v hv)
    · trivial
    · exact ok_of_pf _ _ (hp2 v hv))
  have ea : (encs l1 xs ++ .vsl ao cap :: encs l2 ys).map (val E0) = (encs l1 xs).map (val E0) ++ .slice ao 0 cap :: (encs l2 ys).map (val E0) := by
    rw [List.map_append, List.map_cons]
    rfl
  rw [ea] at key
  exact key
end Go.Rf
