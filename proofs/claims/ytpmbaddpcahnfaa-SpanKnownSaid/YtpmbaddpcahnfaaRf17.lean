/- Arguments that come in: numbers, truth values, structs and arrays of them. -/
import Derived.Test.YtpmbaddpcahnfaaRf16
import Derived.ProofKit
set_option linter.unusedVariables false
set_option linter.unusedSimpArgs false
namespace Go.Rf
open Go.ChangeShapes Go.WideShapes Go.ChangeAt Go.RowKit

inductive Sh where
  | int (k : IntKind)
  | bool
  | nil
  | cons (a t : Sh)
  | agg (fs : Sh)
  | arr (n : Nat) (e : Sh)

def Sh.T : Sh → Type
  | .int k => BitVec k.bits
  | .bool => Bool
  | .nil => Unit
  | .cons a t => a.T × t.T
  | .agg fs => fs.T
  | .arr _ e => Nat → e.T

def Sh.sz : Sh → Nat
  | .int _ => 1
  | .bool => 1
  | .nil => 0
  | .cons a t => a.sz + t.sz
  | .agg fs => fs.sz
  | .arr n e => n * e.sz

/-- Inside an array. -/
def Sh.body : (s : Sh) → (Ix → s.T) → AV
  | .int k, f => .int k f
  | .bool, f => .bool f
  | .nil, _ => .nil
  | .cons a t, f => .cons (a.body fun ix => (f ix).1) (t.body fun ix => (f ix).2)
  | .agg fs, f => .agg (fs.body f)
  | .arr n e, f => .arr n (e.body fun ix => f [ix.headD 0] (ix.tail.headD 0))

def Sh.enc : (s : Sh) → s.T → AV
  | .int k, x => .int k fun _ => x
  | .bool, x => .bool fun _ => x
  | .nil, _ => .nil
  | .cons a t, x => .cons (a.enc x.1) (t.enc x.2)
  | .agg fs, x => .agg (fs.enc x)
  | .arr n e, f => .arr n (e.body fun ix => f (ix.headD 0))

/-- No array. -/
def Sh.flat : Sh → Bool
  | .int _ | .bool | .nil => true
  | .cons a t => a.flat && t.flat
  | .agg fs => fs.flat
  | .arr _ _ => false

/-- No array in an array. -/
def Sh.flat1 : Sh → Bool
  | .int _ | .bool | .nil => true
  | .cons a t => a.flat1 && t.flat1
  | .agg fs => fs.flat1
  | .arr _ e => e.flat

theorem Sh.body_cells2 (i j : Nat) : ∀ (s : Sh), s.flat = true → ∀ f : Ix → s.T, cells E0 [i, j] (s.body f) = cells E0 [] (s.enc (f [i, j])) := by
  intro s
  induction s with
  | int k => intro _ f; rfl
  | bool => intro _ f; rfl
  | nil => intro _ f; rfl
  | cons a t iha iht =>
    intro h f
    simp only [Sh.flat, Bool.and_eq_true] at h
    simp only [Sh.body, Sh.enc, cells, iha h.1, iht h.2]
  | agg fs ih => intro h f; simp only [Sh.body, Sh.enc, cells]; exact ih h f
  | arr n e ih => intro h; simp [Sh.flat] at h

theorem Sh.body_cells1 (i : Nat) : ∀ (s : Sh), s.flat = true → ∀ f : Ix → s.T, cells E0 [i] (s.body f) = cells E0 [] (s.enc (f [i])) := by
  intro s
  induction s with
  | int k => intro _ f; rfl
  | bool => intro _ f; rfl
  | nil => intro _ f; rfl
  | cons a t iha iht =>
    intro h f
    simp only [Sh.flat, Bool.and_eq_true] at h
    simp only [Sh.body, Sh.enc, cells, iha h.1, iht h.2]
  | agg fs ih => intro h f; simp only [Sh.body, Sh.enc, cells]; exact ih h f
  | arr n e ih => intro h; simp [Sh.flat] at h

theorem Sh.body_cells (i : Nat) : ∀ (s : Sh), s.flat1 = true → ∀ f : Ix → s.T, cells E0 [i] (s.body f) = cells E0 [] (s.enc (f [i])) := by
  intro s
  induction s with
  | int k => intro _ f; rfl
  | bool => intro _ f; rfl
  | nil => intro _ f; rfl
  | cons a t iha iht =>
    intro h f
    simp only [Sh.flat1, Bool.and_eq_true] at h
    simp only [Sh.body, Sh.enc, cells, iha h.1, iht h.2]
  | agg fs ih => intro h f; simp only [Sh.body, Sh.enc, cells]; exact ih h f
  | arr n e ih =>
    intro h f
    simp only [Sh.flat1] at h
    simp only [Sh.body, Sh.enc, cells, List.cons_append, List.nil_append]
    refine congrArg (fun g => (List.range n).flatMap g) (funext fun j => ?_)
    rw [Sh.body_cells2 i j e h, Sh.body_cells1 j e h]
    rfl

def Sh.good : Sh → Bool
  | .int _ | .bool | .nil => true
  | .cons a t => a.good && t.good
  | .agg fs => fs.good
  | .arr _ e => e.flat1 && e.good

theorem Sh.enc_len : ∀ (s : Sh), s.good = true → ∀ (x : s.T), (cells E0 [] (s.enc x)).length = s.sz := by
  intro s
  induction s with
  | int k => intro _ x; rfl
  | bool => intro _ x; rfl
  | nil => intro _ x; rfl
  | cons a t iha iht =>
    intro h x
    simp only [Sh.good, Bool.and_eq_true] at h
    simp only [Sh.enc, cells, List.length_append, iha h.1, iht h.2, Sh.sz]
  | agg fs ih => intro h x; exact ih h x
  | arr n e ih =>
    intro h x
    simp only [Sh.good, Bool.and_eq_true] at h
    simp only [Sh.enc, cells, List.nil_append, Sh.sz]
    rw [flatMap_len _ e.sz]
    · simp
    · intro i
      rw [Sh.body_cells i e h.1]
      exact ih h.2 _

mutual
def shB (P : Program) : Sh → TypeId → Bool
  | .int k, T => match P.underlying T with
    | some (.int k') => k' == k
    | _ => false
  | .bool, T => match P.underlying T with
    | some .bool => true
    | _ => false
  | .agg fs, T => match P.underlying T with
    | some (.struct l) => chB P fs l.toList 0 && P.cellsOf T == fs.sz
    | _ => false
  | .arr n e, T => match P.underlying T with
    | some (.array m t) => m == n && shB P e t && P.cellsOf t == e.sz && P.cellsOf T == n * e.sz && e.flat1
    | _ => false
  | .nil, _ => false
  | .cons _ _, _ => false
def chB (P : Program) : Sh → List Field → Nat → Bool
  | .nil, [], _ => true
  | .cons a t, f :: fs, off => f.offset == off && P.cellsOf f.type == a.sz && shB P a f.type && chB P t fs (off + a.sz)
  | _, _, _ => false
end

variable {H : Type} {enc : TypeId × Value → H} {P : Program}

def ReadT (enc : TypeId × Value → H) (P : Program) (s : Sh) : Prop :=
  ∀ (T : TypeId), shB P s T = true → ∀ (W : World) (b : Nat) (sp : Nat → Bool) (hd : Bool) (fuel : Nat) (cs : List Value) (x : DataW H × List MemPlace), DataW.trod enc P W b sp hd fuel T cs = some x →
    x.2 = [] ∧ (∃ y : s.T, cs = cells E0 [] (s.enc y)) ∧ ∀ W' b' sp' hd', DataW.trod enc P W' b' sp' hd' fuel T cs = some x

def ReadC (enc : TypeId × Value → H) (P : Program) (s : Sh) : Prop :=
  ∀ (l : List Field) (off : Nat), chB P s l off = true → ∀ (W : World) (b : Nat) (sp : Nat → Bool) (hd : Bool) (m : Nat) (cs : List Value) (xs : List (DataW H × List MemPlace)),
    (cs.drop off).length = s.sz → l.mapM (fun f => DataW.trod enc P W b sp hd m f.type ((cs.drop f.offset).take (P.cellsOf f.type))) = some xs →
    (∀ x ∈ xs, x.2 = []) ∧ (∃ y : s.T, cs.drop off = cells E0 [] (s.enc y)) ∧ ∀ W' b' sp' hd', l.mapM (fun f => DataW.trod enc P W' b' sp' hd' m f.type ((cs.drop f.offset).take (P.cellsOf f.type))) = some xs

theorem mapM_cons_some {α β : Type} {f : α → Option β} {a : α} {l : List α} {ys : List β} : (a :: l).mapM f = some ys ↔ ∃ y ys', f a = some y ∧ l.mapM f = some ys' ∧ ys = y :: ys' := by
  rw [List.mapM_cons]
  cases f a with
  | none => simp
  | some y => cases l.mapM f with
    | none => simp
    | some z => simp [eq_comm]

theorem wf_bits {k : IntKind} {n : Int} (h : (Lit.int k n).wf = true) : ∃ x : BitVec k.bits, n = toZ k x := by
  refine ⟨BitVec.ofInt k.bits n, ?_⟩
  rw [← wrap_toZ]
  simp only [Lit.wf, Bool.and_eq_true, decide_eq_true_eq] at h
  cases k <;> simp [IntKind.wrap, IntKind.signed, IntKind.bits, IntKind.min, IntKind.max] at h ⊢ <;> omega

theorem shB_good (P : Program) : ∀ s : Sh, (∀ T, shB P s T = true → s.good = true) ∧ (∀ l off, chB P s l off = true → s.good = true) := by
  intro s
  induction s with
  | int k => exact ⟨fun _ _ => rfl, fun _ _ _ => rfl⟩
  | bool => exact ⟨fun _ _ => rfl, fun _ _ _ => rfl⟩
  | nil => exact ⟨fun _ _ => rfl, fun _ _ _ => rfl⟩
  | cons a t iha iht =>
    refine ⟨fun T h => by simp [shB] at h, fun l off h => ?_⟩
    cases l with
    | nil => simp [chB] at h
    | cons f fs =>
      simp only [chB, Bool.and_eq_true] at h
      simp only [Sh.good, iha.1 _ h.1.2, iht.2 _ _ h.2, Bool.and_self]
  | agg fs ih =>
    refine ⟨fun T h => ?_, fun l off h => by cases l <;> simp [chB] at h⟩
    simp only [shB] at h
    split at h <;> simp at h
    exact ih.2 _ _ h.1
  | arr n e ih =>
    refine ⟨fun T h => ?_, fun l off h => by cases l <;> simp [chB] at h⟩
    simp only [shB] at h
    split at h <;> simp at h
    obtain ⟨⟨⟨⟨h1, h2⟩, h3⟩, h4⟩, h5⟩ := h
    simp only [Sh.good, h5, ih.1 _ h2, Bool.and_self]

theorem mapM_some_get {α β : Type} {f : α → Option β} : ∀ {l : List α} {ys : List β}, l.mapM f = some ys → ys.length = l.length ∧ ∀ i (h : i < l.length) (h' : i < ys.length), f l[i] = some ys[i]
  | [], ys, h => by simp at h; subst h; simp
  | a :: l, ys, h => by
    rw [mapM_cons_some] at h
    obtain ⟨y, ys', h1, h2, rfl⟩ := h
    obtain ⟨e1, e2⟩ := mapM_some_get h2
    refine ⟨by simp [e1], fun i hi hi' => ?_⟩
    cases i with
    | zero => exact h1
    | succ i => exact e2 i (by simpa using hi) (by simpa using hi')

theorem mapM_some_of {α β : Type} {f : α → Option β} : ∀ {l : List α} {ys : List β}, ys.length = l.length → (∀ i (h : i < l.length) (h' : i < ys.length), f l[i] = some ys[i]) → l.mapM f = some ys
  | [], ys, h, _ => by
    simp at h; subst h; rfl
  | a :: l, [], h, _ => by simp at h
  | a :: l, y :: ys, h, hh => by
    rw [mapM_cons_some]
    refine ⟨y, ys, hh 0 (by simp) (by simp), mapM_some_of (by simpa using h) fun i hi hi' => hh (i + 1) (by simpa using hi) (by simpa using hi'), rfl⟩

theorem flatMap_nil {α β : Type} {l : List (α × List β)} (h : ∀ x ∈ l, x.2 = []) : l.flatMap (·.2) = [] := by
  simp only [List.flatMap_eq_nil_iff]
  exact h

theorem flatMap_chunks {α : Type} (m : Nat) : ∀ (n : Nat) (cs : List α), cs.length = n * m → cs = (List.range n).flatMap fun i => (cs.drop (i * m)).take m
  | 0, cs, h => by simp at h; subst h; rfl
  | n + 1, cs, h => by
    rw [List.range_succ_eq_map, List.flatMap_cons, List.flatMap_map]
    have e : cs.length = n * m + m := by rw [h, Nat.succ_mul]
    have ih := flatMap_chunks m n (cs.drop m) (by simp [e])
    have e2 : ∀ i, ((cs.drop m).drop (i * m)).take m = (cs.drop (i.succ * m)).take m := by
      intro i
      rw [List.drop_drop, Nat.succ_mul]
      congr 2; omega
    simp only [e2] at ih
    rw [← ih]
    simp

theorem read_all : ∀ s : Sh, ReadT enc P s ∧ ReadC enc P s := by
  intro s
  induction s with
  | int k =>
    refine ⟨fun T hT W b sp hd fuel cs x hx => ?_, fun l off h => by cases l <;> simp [chB] at h⟩
    simp only [shB] at hT
    split at hT <;> simp at hT
    rename_i k' hu
    subst hT
    obtain ⟨n, rfl, rfl, hw⟩ := DataW.trod_int hu hx
    obtain ⟨y, rfl⟩ := wf_bits hw
    refine ⟨rfl, ⟨y, rfl⟩, fun W' b' sp' hd' => ?_⟩
    cases fuel with
    | zero => simp [DataW.trod] at hx
    | succ m => simp [DataW.trod, hu, hw]
  | bool =>
    refine ⟨fun T hT W b sp hd fuel cs x hx => ?_, fun l off h => by cases l <;> simp [chB] at h⟩
    simp only [shB] at hT
    split at hT <;> simp at hT
    rename_i hu
    obtain ⟨y, rfl, rfl⟩ := DataW.trod_bool hu hx
    refine ⟨rfl, ⟨y, rfl⟩, fun W' b' sp' hd' => ?_⟩
    cases fuel with
    | zero => simp [DataW.trod] at hx
    | succ m => simp [DataW.trod, hu]
  | nil =>
    refine ⟨fun T hT => by simp [shB] at hT, fun l off h W b sp hd m cs xs hl hx => ?_⟩
    cases l with
    | cons f fs => simp [chB] at h
    | nil =>
      simp at hx
      subst hx
      refine ⟨by simp, ⟨(), ?_⟩, fun _ _ _ _ => rfl⟩
      simp only [Sh.sz] at hl
      simp only [Sh.enc, cells]
      exact List.eq_nil_of_length_eq_zero hl
  | cons a t iha iht =>
    refine ⟨fun T hT => by simp [shB] at hT, fun l off h W b sp hd m cs xs hl hx => ?_⟩
    cases l with
    | nil => simp [chB] at h
    | cons f fs =>
      simp only [chB, Bool.and_eq_true, beq_iff_eq] at h
      obtain ⟨⟨⟨h1, h2⟩, h3⟩, h4⟩ := h
      rw [mapM_cons_some] at hx
      obtain ⟨x, xs', e1, e2, rfl⟩ := hx
      simp only [Sh.sz] at hl
      obtain ⟨a1, ⟨y, a2⟩, a3⟩ := iha.1 _ h3 W b sp hd m _ x e1
      obtain ⟨b1, ⟨z, b2⟩, b3⟩ := iht.2 _ _ h4 W b sp hd m cs xs' (by simp at hl ⊢; omega) e2
      refine ⟨?_, ⟨(y, z), ?_⟩, fun W' b' sp' hd' => ?_⟩
      · intro v hv
        simp at hv
        rcases hv with rfl | hv
        · exact a1
        · exact b1 v hv
      · simp only [Sh.enc, cells]
        rw [← a2, ← b2, h1, h2, ← List.drop_drop, List.take_append_drop]
      · rw [mapM_cons_some]
        exact ⟨x, xs', a3 W' b' sp' hd', b3 W' b' sp' hd', rfl⟩
  | agg fs ih =>
    refine ⟨fun T hT W b sp hd fuel cs x hx => ?_, fun l off h => by cases l <;> simp [chB] at h⟩
    simp only [shB] at hT
    split at hT <;> simp at hT
    rename_i l hu
    cases fuel with
    | zero => simp [DataW.trod] at hx
    | succ m =>
      have step : ∀ W b sp hd, DataW.trod enc P W b sp hd (m + 1) T cs = if cs.length = P.cellsOf T then (l.toList.mapM fun f => DataW.trod enc P W b sp hd m f.type ((cs.drop f.offset).take (P.cellsOf f.type))).map fun xs => (.agg (xs.map (·.1)), xs.flatMap (·.2)) else none := by
        intro W b sp hd
        conv => lhs; unfold DataW.trod
        rw [hu]
      rw [step] at hx
      split at hx
      · rename_i hl
        simp only [Option.map_eq_some_iff] at hx
        obtain ⟨xs, h1, rfl⟩ := hx
        obtain ⟨c1, ⟨y, c2⟩, c3⟩ := ih.2 _ _ hT.1 W b sp hd m cs xs (by simp [hl, hT.2]) h1
        refine ⟨flatMap_nil c1, ⟨y, by simpa [Sh.enc, cells] using c2⟩, fun W' b' sp' hd' => ?_⟩
        rw [step, if_pos hl, c3 W' b' sp' hd']
        rfl
      · simp at hx
  | arr n e ih =>
    refine ⟨fun T hT W b sp hd fuel cs x hx => ?_, fun l off h => by cases l <;> simp [chB] at h⟩
    simp only [shB] at hT
    split at hT <;> simp at hT
    rename_i m0 t hu
    obtain ⟨⟨⟨⟨rfl, h2⟩, h3⟩, h4⟩, h5⟩ := hT
    cases fuel with
    | zero => simp [DataW.trod] at hx
    | succ m =>
      have step : ∀ W b sp hd, DataW.trod enc P W b sp hd (m + 1) T cs = if cs.length = P.cellsOf T then ((List.range m0).mapM fun i => DataW.trod enc P W b sp hd m t ((cs.drop (i * P.cellsOf t)).take (P.cellsOf t))).map fun xs => (.agg (xs.map (·.1)), xs.flatMap (·.2)) else none := by
        intro W b sp hd
        conv => lhs; unfold DataW.trod
        rw [hu]
      rw [step] at hx
      split at hx
      · rename_i hl
        simp only [Option.map_eq_some_iff] at hx
        obtain ⟨xs, h1, rfl⟩ := hx
        obtain ⟨g1, g2⟩ := mapM_some_get h1
        simp only [List.length_range] at g1
        have each : ∀ i (hi : i < xs.length), xs[i].2 = [] ∧ (∃ y : e.T, (cs.drop (i * P.cellsOf t)).take (P.cellsOf t) = cells E0 [] (e.enc y)) ∧ ∀ W' b' sp' hd', DataW.trod enc P W' b' sp' hd' m t ((cs.drop (i * P.cellsOf t)).take (P.cellsOf t)) = some xs[i] := by
          intro i hi
          have := g2 i (by simp; omega) hi
          simp only [List.getElem_range] at this
          exact ih.1 _ h2 W b sp hd m _ _ this
        have hy : ∀ i, ∃ y : e.T, i < m0 → (cs.drop (i * P.cellsOf t)).take (P.cellsOf t) = cells E0 [] (e.enc y) := by
          intro i
          by_cases hi : i < xs.length
          · obtain ⟨y, hy⟩ := (each i hi).2.1
            exact ⟨y, fun _ => hy⟩
          · by_cases h0 : 0 < xs.length
            · obtain ⟨y, _⟩ := (each 0 h0).2.1
              exact ⟨y, fun h => by omega⟩
            · have dflt : ∀ s : Sh, Nonempty s.T := by
                intro s
                induction s with
                | int k => exact ⟨(0 : BitVec k.bits)⟩
                | bool => exact ⟨false⟩
                | nil => exact ⟨()⟩
                | cons a t iha iht => obtain ⟨x⟩ := iha; obtain ⟨y⟩ := iht; exact ⟨(x, y)⟩
                | agg fs ih => exact ih
                | arr n e ih => obtain ⟨x⟩ := ih; exact ⟨fun _ => x⟩
              obtain ⟨y⟩ := dflt e
              exact ⟨y, fun h => by omega⟩
        obtain ⟨g, hg⟩ := Classical.axiomOfChoice hy
        refine ⟨flatMap_nil (fun v hv => ?_), ⟨g, ?_⟩, fun W' b' sp' hd' => ?_⟩
        · obtain ⟨i, hi, rfl⟩ := List.mem_iff_getElem.1 hv
          exact (each i hi).1
        · simp only [Sh.enc, cells, List.nil_append]
          have hlen : ∀ (f g : Nat → List Value), (∀ i, i < m0 → f i = g i) → (List.range m0).flatMap f = (List.range m0).flatMap g := by
            intro f g h
            rw [List.flatMap_def, List.flatMap_def]
            congr 1
            exact List.map_congr_left fun i hi => h i (by simpa using hi)
          refine (flatMap_chunks (P.cellsOf t) m0 cs (by rw [hl, h4, h3])).trans (hlen _ _ fun i hi => ?_)
          rw [Sh.body_cells i e h5]
          exact hg i hi
        · rw [step, if_pos hl]
          have : (List.range m0).mapM (fun i => DataW.trod enc P W' b' sp' hd' m t ((cs.drop (i * P.cellsOf t)).take (P.cellsOf t))) = some xs := by
            refine mapM_some_of (by simp [g1]) fun i hi hi' => ?_
            simp only [List.getElem_range]
            exact (each i hi').2.2 W' b' sp' hd'
          rw [this]
          rfl
      · simp at hx

/-- An argument of a plain kind: what it is; and it reads so in any world. -/
theorem open_sh {s : Sh} {T : TypeId} (hT : shB P s T = true) {W : World} {b b0 : Nat} {sp : Nat → Bool} {hd : Bool} {r : Reach} {v : Value} {d : DataW H} {ps : List MemPlace} (hv : Value.okWide P W r b0 T v) (h : DataW.Trod enc P W b sp hd T v d ps) :
    ∃ x : s.T, v = val E0 (s.enc x) ∧ ps = [] ∧ ∀ W' b' sp' hd', DataW.Trod enc P W' b' sp' hd' T v d [] := by
  obtain ⟨fuel, hf⟩ := h
  obtain ⟨h1, ⟨y, h2⟩, h3⟩ := (read_all s).1 T hT W b sp hd fuel _ _ hf
  simp only at h1
  subst h1
  refine ⟨y, ?_, rfl, fun W' b' sp' hd' => ⟨fuel, h3 W' b' sp' hd'⟩⟩
  cases s with
  | int k =>
    simp only [shB] at hT
    split at hT <;> simp at hT
    rename_i k' hu
    obtain ⟨n, rfl⟩ := okWide_int hu hv
    simpa [Value.cells, Sh.enc, cells, val] using h2
  | bool =>
    simp only [shB] at hT
    split at hT <;> simp at hT
    rename_i hu
    obtain ⟨n, rfl⟩ := okWide_bool hu hv
    simpa [Value.cells, Sh.enc, cells, val] using h2
  | agg fs =>
    simp only [shB] at hT
    split at hT <;> simp at hT
    rename_i l hu
    obtain ⟨cs, rfl, _⟩ := okWide_struct hu hv
    simp only [Value.cells] at h2
    rw [val_big rfl]
    rw [← h2]
  | arr n e =>
    simp only [shB] at hT
    split at hT <;> simp at hT
    rename_i m t hu
    simp only [Value.okWide, hu] at hv
    obtain ⟨cs, rfl, _⟩ := hv
    simp only [Value.cells] at h2
    rw [val_big rfl]
    rw [← h2]
  | nil => simp [shB] at hT
  | cons a t => simp [shB] at hT

/-- Arguments, all of plain kinds. -/
def HL : List Sh → Type
  | [] => Unit
  | s :: l => s.T × HL l

def encs : (l : List Sh) → HL l → List AV
  | [], _ => []
  | s :: l, x => s.enc x.1 :: encs l x.2

def shAll (P : Program) : List Sh → List TypeId → Bool
  | [], [] => true
  | s :: l, t :: ts => shB P s t && shAll P l ts
  | _, _ => false

theorem Sh.enc_pf : ∀ (s : Sh), s.good = true → ∀ x, Rf.pf (s.enc x) = true := by
  have body : ∀ (s : Sh), ∀ f : Ix → s.T, Rf.pf (s.body f) = true := by
    intro s
    induction s with
    | int k => intro f; rfl
    | bool => intro f; rfl
    | nil => intro f; rfl
    | cons a t iha iht =>
      intro f
      simp only [Sh.body, Rf.pf, iha, iht, Bool.and_self]
    | agg fs ih => intro f; exact ih f
    | arr n e ih => intro f; exact ih _
  intro s
  induction s with
  | int k => intro _ x; rfl
  | bool => intro _ x; rfl
  | nil => intro _ x; rfl
  | cons a t iha iht =>
    intro h x
    simp only [Sh.good, Bool.and_eq_true] at h
    simp only [Sh.enc, Rf.pf, iha h.1, iht h.2, Bool.and_self]
  | agg fs ih => intro h x; exact ih h x
  | arr n e ih =>
    intro h x
    simp only [Sh.good, Bool.and_eq_true] at h
    exact body e _

theorem encs_pf : ∀ (l : List Sh) (ts : List TypeId), shAll P l ts = true → ∀ xs, ∀ v ∈ encs l xs, pf v = true
  | [], _, _, xs, v, hv => by simp [encs] at hv
  | s :: l, [], h, xs, v, hv => by simp [shAll] at h
  | s :: l, t :: ts, h, xs, v, hv => by
    simp only [shAll, Bool.and_eq_true] at h
    simp only [encs, List.mem_cons] at hv
    rcases hv with rfl | hv
    · exact Sh.enc_pf s ((shB_good P s).1 t h.1) _
    · exact encs_pf l ts h.2 xs.2 v hv

theorem open_all {W : World} {b b0 : Nat} {sp : Nat → Bool} {hd : Bool} {r : Reach} : ∀ (l : List Sh) (ts : List TypeId) (vs : List Value) (ds : List (DataW H)) (ps : List MemPlace), shAll P l ts = true →
    (∀ (j : Nat) t v, ts[j]? = some t → vs[j]? = some v → Value.okWide P W r b0 t v) → DataW.TrodAll enc P W b sp hd ts vs ds ps →
    ∃ xs : HL l, vs = (encs l xs).map (val E0) ∧ ps = [] ∧ ds.length = l.length ∧ ∀ W' b' sp' hd', DataW.TrodAll enc P W' b' sp' hd' ts vs ds []
  | [], [], vs, ds, ps, h, hv, ht => by
    match vs, ds, ht with
    | [], [], ht =>
      have : ps = [] := ht
      subst this
      exact ⟨(), rfl, rfl, rfl, fun _ _ _ _ => rfl⟩
  | [], t :: ts, vs, ds, ps, h, hv, ht => by simp [shAll] at h
  | s :: l, [], vs, ds, ps, h, hv, ht => by simp [shAll] at h
  | s :: l, t :: ts, vs, ds, ps, h, hv, ht => by
    simp only [shAll, Bool.and_eq_true] at h
    match vs, ds, ht with
    | v :: vs, d :: ds, ht =>
      obtain ⟨p, q, h1, h2, rfl⟩ := ht
      obtain ⟨x, rfl, rfl, h3⟩ := open_sh h.1 (hv 0 t v rfl rfl) h1
      obtain ⟨xs, rfl, rfl, h4, h5⟩ := open_all l ts vs ds q h.2 (fun j t v e1 e2 => hv (j + 1) t v e1 e2) h2
      exact ⟨(x, xs), rfl, rfl, by simp [h4], fun W' b' sp' hd' => ⟨[], [], h3 W' b' sp' hd', h5 W' b' sp' hd', rfl⟩⟩

/-- A law: whatever comes in, it answers true. -/
theorem law_lift {C : Checked} {os : Os} {f : FuncId} {fn : Func} {s : ChangeSpec} {tb : TypeId} (l : List Sh) (own : ownKnob C.prog.godebug = none) (started : os.Started) (noInit : C.prog.inits.idxOf? f = none) (hfn : C.prog.funcs[f]? = some fn)
    (witness : ∃ (w : World) (tape : Tape) (i : Input), w.os = os ∧ (w.forCall tape i).Shaped C.prog ∧ i.vars = [] ∧ Input.okWide C.prog (w.forCall tape i) .any w.heap.size f i ∧
      s.pre6 enc C.prog fn [] false (w.forCall tape i).memory i.args ∧ (({} : Assume)).holds C.prog (lone (Frame.enter C.prog f i.args .normal) [] (w.forCall tape i)))
    (hps : shAll C.prog l fn.params.toList = true) (hres : fn.resultTypes = #[tb]) (htb : C.prog.underlying tb = some .bool) (hvars : s.vars = [])
    (hspec : ∀ ds : List (DataW H), ds.length = l.length → s.fn H (ds ++ []) = { results := [.lit (.bool true)], args := ds })
    (hcalls : ∀ xs : HL l, ∀ w, Calls C.prog f ((encs l xs).map (val E0)).toArray w fun e w' => e = .returned (.bool true) ∧ RowKit.Below w.heap.size w w') :
    ReturnsInHanded {} C os f .any (s.pre6 enc C.prog fn [] false) (s.post enc C.prog fn false true false false) := by
  refine returnsInHanded_of_change (C := C) own started noInit hfn witness ?_
  intro W base args ds gs before hval0 hW hcnd _
  have hval : ∀ (j : Nat) t v, fn.params.toList[j]? = some t → args.toList[j]? = some v → Value.okWide C.prog W .any base t v := fun j t v h1 h2 => hval0 j t v (by simpa using h1) (by simpa using h2)
  have hW' := hW
  obtain ⟨p, q, hA, hV, rfl, hfz, hnd⟩ := hW
  rw [hvars] at hV
  obtain ⟨rfl, rfl⟩ := trodVars_none hV
  obtain ⟨xs, hx, rfl, hlen, hread⟩ := open_all l fn.params.toList args.toList ds p hps hval hA
  have hargs : args = ((encs l xs).map (val E0)).toArray := by rw [← hx]
  rw [hargs]
  refine (hcalls xs W).mono ?_
  rintro e W' ⟨rfl, hB⟩
  rw [← hargs]
  refine ⟨_, rfl, ?_⟩
  have hsp := hspec ds hlen
  have hr : ∀ (b : Nat) (sp : Nat → Bool) (hd : Bool), DataW.TrodAll enc C.prog W' b sp hd fn.resultTypes.toList ((Value.bool true).resultList fn.resultTypes.size) (s.fn H (ds ++ [])).results [] := by
    intro b sp hd
    rw [hres, hsp]
    exact trodAll_mk1 ⟨1, by simp [DataW.trod, Value.cells, htb]⟩
  have ha : ∀ (sp : Nat → Bool), DataW.TrodAll enc C.prog W' 0 sp true fn.params.toList args.toList (s.fn H (ds ++ [])).args [] := by
    intro sp
    rw [hsp]
    exact hread W' 0 sp true
  have hv : ∀ (sp : Nat → Bool), DataW.TrodVars enc C.prog W' sp s.vars (s.fn H (ds ++ [])).vars [] := by
    intro sp
    rw [hsp, hvars]
    exact rfl
  simp only [List.append_nil] at hW'
  refine ⟨ds, [], [], [], [], [], hW', hr _ _ _, ha _, hv _, hB.frame _, fun _ => ?_⟩
  refine ⟨ok_one hres rfl (okWide_bool_mk htb _), _, _, ([] ++ []) ++ [], ⟨[] ++ [], [], trodAll_append (ha _) (hr _ _ _), hv _, rfl, ?_, ?_⟩, ?_⟩
  · intro b off hp
    simp at hp
  · intro h; simp at h
  · intro p hp _
    simp at hp

end Go.Rf
