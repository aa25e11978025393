/- Several texts as one: Rf17 Rf23 Rf20 Rf21 Rf22. -/
import Derived.Test.YtkfgohhmicfnhaaRfF
import Derived.ProofKit
import Derived.Handed
import Derived.WideWitness
import Derived.Test.YtkfgohhmicfnhaaUt
set_option linter.unusedVariables false
set_option linter.unusedSimpArgs false

/- Arguments that come in: numbers, truth values, structs and arrays of them. -/
namespace Go.Rf
open Go.ChangeShapes Go.WideShapes Go.ChangeAt Go.RowKit

inductive Sh where
  | int (k : IntKind)
  | bool
  | nil
  | cons (a t : Sh)
  | agg (fs : Sh)
  | arr (n : Nat) (e : Sh)

def Sh.T : Sh → Type
  | .int k => BitVec k.bits
  | .bool => Bool
  | .nil => Unit
  | .cons a t => a.T × t.T
  | .agg fs => fs.T
  | .arr _ e => Nat → e.T

def Sh.sz : Sh → Nat
  | .int _ => 1
  | .bool => 1
  | .nil => 0
  | .cons a t => a.sz + t.sz
  | .agg fs => fs.sz
  | .arr n e => n * e.sz

/-- Inside an array. -/
def Sh.body : (s : Sh) → (Ix → s.T) → AV
  | .int k, f => .int k f
  | .bool, f => .bool f
  | .nil, _ => .nil
  | .cons a t, f => .cons (a.body fun ix => (f ix).1) (t.body fun ix => (f ix).2)
  | .agg fs, f => .agg (fs.body f)
  | .arr n e, f => .arr n (e.body fun ix => f [ix.headD 0] (ix.tail.headD 0))

def Sh.enc : (s : Sh) → s.T → AV
  | .int k, x => .int k fun _ => x
  | .bool, x => .bool fun _ => x
  | .nil, _ => .nil
  | .cons a t, x => .cons (a.enc x.1) (t.enc x.2)
  | .agg fs, x => .agg (fs.enc x)
  | .arr n e, f => .arr n (e.body fun ix => f (ix.headD 0))

/-- No array. -/
def Sh.flat : Sh → Bool
  | .int _ | .bool | .nil => true
  | .cons a t => a.flat && t.flat
  | .agg fs => fs.flat
  | .arr _ _ => false

/-- No array in an array. -/
def Sh.flat1 : Sh → Bool
  | .int _ | .bool | .nil => true
  | .cons a t => a.flat1 && t.flat1
  | .agg fs => fs.flat1
  | .arr _ e => e.flat

theorem Sh.body_cells2 (i j : Nat) : ∀ (s : Sh), s.flat = true → ∀ f : Ix → s.T, cells E0 [i, j] (s.body f) = cells E0 [] (s.enc (f [i, j])) := by
  intro s
  induction s with
  | int k => intro _ f; rfl
  | bool => intro _ f; rfl
  | nil => intro _ f; rfl
  | cons a t iha iht =>
    intro h f
    simp only [Sh.flat, Bool.and_eq_true] at h
    simp only [Sh.body, Sh.enc, cells, iha h.1, iht h.2]
  | agg fs ih => intro h f; simp only [Sh.body, Sh.enc, cells]; exact ih h f
  | arr n e ih => intro h; simp [Sh.flat] at h

theorem Sh.body_cells1 (i : Nat) : ∀ (s : Sh), s.flat = true → ∀ f : Ix → s.T, cells E0 [i] (s.body f) = cells E0 [] (s.enc (f [i])) := by
  intro s
  induction s with
  | int k => intro _ f; rfl
  | bool => intro _ f; rfl
  | nil => intro _ f; rfl
  | cons a t iha iht =>
    intro h f
    simp only [Sh.flat, Bool.and_eq_true] at h
    simp only [Sh.body, Sh.enc, cells, iha h.1, iht h.2]
  | agg fs ih => intro h f; simp only [Sh.body, Sh.enc, cells]; exact ih h f
  | arr n e ih => intro h; simp [Sh.flat] at h

theorem Sh.body_cells (i : Nat) : ∀ (s : Sh), s.flat1 = true → ∀ f : Ix → s.T, cells E0 [i] (s.body f) = cells E0 [] (s.enc (f [i])) := by
  intro s
  induction s with
  | int k => intro _ f; rfl
  | bool => intro _ f; rfl
  | nil => intro _ f; rfl
  | cons a t iha iht =>
    intro h f
    simp only [Sh.flat1, Bool.and_eq_true] at h
    simp only [Sh.body, Sh.enc, cells, iha h.1, iht h.2]
  | agg fs ih => intro h f; simp only [Sh.body, Sh.enc, cells]; exact ih h f
  | arr n e ih =>
    intro h f
    simp only [Sh.flat1] at h
    simp only [Sh.body, Sh.enc, cells, List.cons_append, List.nil_append]
    refine congrArg (fun g => (List.range n).flatMap g) (funext fun j => ?_)
    rw [Sh.body_cells2 i j e h, Sh.body_cells1 j e h]
    rfl

def Sh.good : Sh → Bool
  | .int _ | .bool | .nil => true
  | .cons a t => a.good && t.good
  | .agg fs => fs.good
  | .arr _ e => e.flat1 && e.good

theorem Sh.enc_len : ∀ (s : Sh), s.good = true → ∀ (x : s.T), (cells E0 [] (s.enc x)).length = s.sz := by
  intro s
  induction s with
  | int k => intro _ x; rfl
  | bool => intro _ x; rfl
  | nil => intro _ x; rfl
  | cons a t iha iht =>
    intro h x
    simp only [Sh.good, Bool.and_eq_true] at h
    simp only [Sh.enc, cells, List.length_append, iha h.1, iht h.2, Sh.sz]
  | agg fs ih => intro h x; exact ih h x
  | arr n e ih =>
    intro h x
    simp only [Sh.good, Bool.and_eq_true] at h
    simp only [Sh.enc, cells, List.nil_append, Sh.sz]
    rw [flatMap_len _ e.sz]
    · simp
    · intro i
      rw [Sh.body_cells i e h.1]
      exact ih h.2 _

mutual
def shB (P : Program) : Sh → TypeId → Bool
  | .int k, T => match P.underlying T with
    | some (.int k') => k' == k
    | _ => false
  | .bool, T => match P.underlying T with
    | some .bool => true
    | _ => false
  | .agg fs, T => match P.underlying T with
    | some (.struct l) => chB P fs l.toList 0 && P.cellsOf T == fs.sz
    | _ => false
  | .arr n e, T => match P.underlying T with
    | some (.array m t) => m == n && shB P e t && P.cellsOf t == e.sz && P.cellsOf T == n * e.sz && e.flat1
    | _ => false
  | .nil, _ => false
  | .cons _ _, _ => false
def chB (P : Program) : Sh → List Field → Nat → Bool
  | .nil, [], _ => true
  | .cons a t, f :: fs, off => f.offset == off && P.cellsOf f.type == a.sz && shB P a f.type && chB P t fs (off + a.sz)
  | _, _, _ => false
end

variable {H : Type} {enc : TypeId × Value → H} {P : Program}

def ReadT (enc : TypeId × Value → H) (P : Program) (s : Sh) : Prop :=
  ∀ (T : TypeId), shB P s T = true → ∀ (W : World) (b : Nat) (sp : Nat → Bool) (hd : Bool) (fuel : Nat) (cs : List Value) (x : DataW H × List MemPlace), DataW.trod enc P W b sp hd fuel T cs = some x →
    x.2 = [] ∧ (∃ y : s.T, cs = cells E0 [] (s.enc y)) ∧ ∀ W' b' sp' hd', DataW.trod enc P W' b' sp' hd' fuel T cs = some x

def ReadC (enc : TypeId × Value → H) (P : Program) (s : Sh) : Prop :=
  ∀ (l : List Field) (off : Nat), chB P s l off = true → ∀ (W : World) (b : Nat) (sp : Nat → Bool) (hd : Bool) (m : Nat) (cs : List Value) (xs : List (DataW H × List MemPlace)),
    (cs.drop off).length = s.sz → l.mapM (fun f => DataW.trod enc P W b sp hd m f.type ((cs.drop f.offset).take (P.cellsOf f.type))) = some xs →
    (∀ x ∈ xs, x.2 = []) ∧ (∃ y : s.T, cs.drop off = cells E0 [] (s.enc y)) ∧ ∀ W' b' sp' hd', l.mapM (fun f => DataW.trod enc P W' b' sp' hd' m f.type ((cs.drop f.offset).take (P.cellsOf f.type))) = some xs

theorem mapM_cons_some {α β : Type} {f : α → Option β} {a : α} {l : List α} {ys : List β} : (a :: l).mapM f = some ys ↔ ∃ y ys', f a = some y ∧ l.mapM f = some ys' ∧ ys = y :: ys' := by
  rw [List.mapM_cons]
  cases f a with
  | none => simp
  | some y => cases l.mapM f with
    | none => simp
    | some z => simp [eq_comm]

theorem wf_bits {k : IntKind} {n : Int} (h : (Lit.int k n).wf = true) : ∃ x : BitVec k.bits, n = toZ k x := by
  refine ⟨BitVec.ofInt k.bits n, ?_⟩
  rw [← wrap_toZ]
  simp only [Lit.wf, Bool.and_eq_true, decide_eq_true_eq] at h
  cases k <;> simp [IntKind.wrap, IntKind.signed, IntKind.bits, IntKind.min, IntKind.max] at h ⊢ <;> omega

theorem shB_good (P : Program) : ∀ s : Sh, (∀ T, shB P s T = true → s.good = true) ∧ (∀ l off, chB P s l off = true → s.good = true) := by
  intro s
  induction s with
  | int k => exact ⟨fun _ _ => rfl, fun _ _ _ => rfl⟩
  | bool => exact ⟨fun _ _ => rfl, fun _ _ _ => rfl⟩
  | nil => exact ⟨fun _ _ => rfl, fun _ _ _ => rfl⟩
  | cons a t iha iht =>
    refine ⟨fun T h => by simp [shB] at h, fun l off h => ?_⟩
    cases l with
    | nil => simp [chB] at h
    | cons f fs =>
      simp only [chB, Bool.and_eq_true] at h
      simp only [Sh.good, iha.1 _ h.1.2, iht.2 _ _ h.2, Bool.and_self]
  | agg fs ih =>
    refine ⟨fun T h => ?_, fun l off h => by cases l <;> simp [chB] at h⟩
    simp only [shB] at h
    split at h <;> simp at h
    exact ih.2 _ _ h.1
  | arr n e ih =>
    refine ⟨fun T h => ?_, fun l off h => by cases l <;> simp [chB] at h⟩
    simp only [shB] at h
    split at h <;> simp at h
    obtain ⟨⟨⟨⟨h1, h2⟩, h3⟩, h4⟩, h5⟩ := h
    simp only [Sh.good, h5, ih.1 _ h2, Bool.and_self]

theorem mapM_some_get {α β : Type} {f : α → Option β} : ∀ {l : List α} {ys : List β}, l.mapM f = some ys → ys.length = l.length ∧ ∀ i (h : i < l.length) (h' : i < ys.length), f l[i] = some ys[i]
  | [], ys, h => by simp at h; subst h; simp
  | a :: l, ys, h => by
    rw [mapM_cons_some] at h
    obtain ⟨y, ys', h1, h2, rfl⟩ := h
    obtain ⟨e1, e2⟩ := mapM_some_get h2
    refine ⟨by simp [e1], fun i hi hi' => ?_⟩
    cases i with
    | zero => exact h1
    | succ i => exact e2 i (by simpa using hi) (by simpa using hi')

theorem mapM_some_of {α β : Type} {f : α → Option β} : ∀ {l : List α} {ys : List β}, ys.length = l.length → (∀ i (h : i < l.length) (h' : i < ys.length), f l[i] = some ys[i]) → l.mapM f = some ys
  | [], ys, h, _ => by
    simp at h; subst h; rfl
  | a :: l, [], h, _ => by simp at h
  | a :: l, y :: ys, h, hh => by
    rw [mapM_cons_some]
    refine ⟨y, ys, hh 0 (by simp) (by simp), mapM_some_of (by simpa using h) fun i hi hi' => hh (i + 1) (by simpa using hi) (by simpa using hi'), rfl⟩

theorem flatMap_nil {α β : Type} {l : List (α × List β)} (h : ∀ x ∈ l, x.2 = []) : l.flatMap (·.2) = [] := by
  simp only [List.flatMap_eq_nil_iff]
  exact h

theorem flatMap_chunks {α : Type} (m : Nat) : ∀ (n : Nat) (cs : List α), cs.length = n * m → cs = (List.range n).flatMap fun i => (cs.drop (i * m)).take m
  | 0, cs, h => by simp at h; subst h; rfl
  | n + 1, cs, h => by
    rw [List.range_succ_eq_map, List.flatMap_cons, List.flatMap_map]
    have e : cs.length = n * m + m := by rw [h, Nat.succ_mul]
    have ih := flatMap_chunks m n (cs.drop m) (by simp [e])
    have e2 : ∀ i, ((cs.drop m).drop (i * m)).take m = (cs.drop (i.succ * m)).take m := by
      intro i
      rw [List.drop_drop, Nat.succ_mul]
      congr 2; omega
    simp only [e2] at ih
    rw [← ih]
    simp

theorem read_all : ∀ s : Sh, ReadT enc P s ∧ ReadC enc P s := by
  intro s
  induction s with
  | int k =>
    refine ⟨fun T hT W b sp hd fuel cs x hx => ?_, fun l off h => by cases l <;> simp [chB] at h⟩
    simp only [shB] at hT
    split at hT <;> simp at hT
    rename_i k' hu
    subst hT
    obtain ⟨n, rfl, rfl, hw⟩ := DataW.trod_int hu hx
    obtain ⟨y, rfl⟩ := wf_bits hw
    refine ⟨rfl, ⟨y, rfl⟩, fun W' b' sp' hd' => ?_⟩
    cases fuel with
    | zero => simp [DataW.trod] at hx
    | succ m => simp [DataW.trod, hu, hw]
  | bool =>
    refine ⟨fun T hT W b sp hd fuel cs x hx => ?_, fun l off h => by cases l <;> simp [chB] at h⟩
    simp only [shB] at hT
    split at hT <;> simp at hT
    rename_i hu
    obtain ⟨y, rfl, rfl⟩ := DataW.trod_bool hu hx
    refine ⟨rfl, ⟨y, rfl⟩, fun W' b' sp' hd' => ?_⟩
    cases fuel with
    | zero => simp [DataW.trod] at hx
    | succ m => simp [DataW.trod, hu]
  | nil =>
    refine ⟨fun T hT => by simp [shB] at hT, fun l off h W b sp hd m cs xs hl hx => ?_⟩
    cases l with
    | cons f fs => simp [chB] at h
    | nil =>
      simp at hx
      subst hx
      refine ⟨by simp, ⟨(), ?_⟩, fun _ _ _ _ => rfl⟩
      simp only [Sh.sz] at hl
      simp only [Sh.enc, cells]
      exact List.eq_nil_of_length_eq_zero hl
  | cons a t iha iht =>
    refine ⟨fun T hT => by simp [shB] at hT, fun l off h W b sp hd m cs xs hl hx => ?_⟩
    cases l with
    | nil => simp [chB] at h
    | cons f fs =>
      simp only [chB, Bool.and_eq_true, beq_iff_eq] at h
      obtain ⟨⟨⟨h1, h2⟩, h3⟩, h4⟩ := h
      rw [mapM_cons_some] at hx
      obtain ⟨x, xs', e1, e2, rfl⟩ := hx
      simp only [Sh.sz] at hl
      obtain ⟨a1, ⟨y, a2⟩, a3⟩ := iha.1 _ h3 W b sp hd m _ x e1
      obtain ⟨b1, ⟨z, b2⟩, b3⟩ := iht.2 _ _ h4 W b sp hd m cs xs' (by simp at hl ⊢; omega) e2
      refine ⟨?_, ⟨(y, z), ?_⟩, fun W' b' sp' hd' => ?_⟩
      · intro v hv
        simp at hv
        rcases hv with rfl | hv
        · exact a1
        · exact b1 v hv
      · simp only [Sh.enc, cells]
        rw [← a2, ← b2, h1, h2, ← List.drop_drop, List.take_append_drop]
      · rw [mapM_cons_some]
        exact ⟨x, xs', a3 W' b' sp' hd', b3 W' b' sp' hd', rfl⟩
  | agg fs ih =>
    refine ⟨fun T hT W b sp hd fuel cs x hx => ?_, fun l off h => by cases l <;> simp [chB] at h⟩
    simp only [shB] at hT
    split at hT <;> simp at hT
    rename_i l hu
    cases fuel with
    | zero => simp [DataW.trod] at hx
    | succ m =>
      have step : ∀ W b sp hd, DataW.trod enc P W b sp hd (m + 1) T cs = if cs.length = P.cellsOf T then (l.toList.mapM fun f => DataW.trod enc P W b sp hd m f.type ((cs.drop f.offset).take (P.cellsOf f.type))).map fun xs => (.agg (xs.map (·.1)), xs.flatMap (·.2)) else none := by
        intro W b sp hd
        conv => lhs; unfold DataW.trod
        rw [hu]
      rw [step] at hx
      split at hx
      · rename_i hl
        simp only [Option.map_eq_some_iff] at hx
        obtain ⟨xs, h1, rfl⟩ := hx
        obtain ⟨c1, ⟨y, c2⟩, c3⟩ := ih.2 _ _ hT.1 W b sp hd m cs xs (by simp [hl, hT.2]) h1
        refine ⟨flatMap_nil c1, ⟨y, by simpa [Sh.enc, cells] using c2⟩, fun W' b' sp' hd' => ?_⟩
        rw [step, if_pos hl, c3 W' b' sp' hd']
        rfl
      · simp at hx
  | arr n e ih =>
    refine ⟨fun T hT W b sp hd fuel cs x hx => ?_, fun l off h => by cases l <;> simp [chB] at h⟩
    simp only [shB] at hT
    split at hT <;> simp at hT
    rename_i m0 t hu
    obtain ⟨⟨⟨⟨rfl, h2⟩, h3⟩, h4⟩, h5⟩ := hT
    cases fuel with
    | zero => simp [DataW.trod] at hx
    | succ m =>
      have step : ∀ W b sp hd, DataW.trod enc P W b sp hd (m + 1) T cs = if cs.length = P.cellsOf T then ((List.range m0).mapM fun i => DataW.trod enc P W b sp hd m t ((cs.drop (i * P.cellsOf t)).take (P.cellsOf t))).map fun xs => (.agg (xs.map (·.1)), xs.flatMap (·.2)) else none := by
        intro W b sp hd
        conv => lhs; unfold DataW.trod
        rw [hu]
      rw [step] at hx
      split at hx
      · rename_i hl
        simp only [Option.map_eq_some_iff] at hx
        obtain ⟨xs, h1, rfl⟩ := hx
        obtain ⟨g1, g2⟩ := mapM_some_get h1
        simp only [List.length_range] at g1
        have each : ∀ i (hi : i < xs.length), xs[i].2 = [] ∧ (∃ y : e.T, (cs.drop (i * P.cellsOf t)).take (P.cellsOf t) = cells E0 [] (e.enc y)) ∧ ∀ W' b' sp' hd', DataW.trod enc P W' b' sp' hd' m t ((cs.drop (i * P.cellsOf t)).take (P.cellsOf t)) = some xs[i] := by
          intro i hi
          have := g2 i (by simp; omega) hi
          simp only [List.getElem_range] at this
          exact ih.1 _ h2 W b sp hd m _ _ this
        have hy : ∀ i, ∃ y : e.T, i < m0 → (cs.drop (i * P.cellsOf t)).take (P.cellsOf t) = cells E0 [] (e.enc y) := by
          intro i
          by_cases hi : i < xs.length
          · obtain ⟨y, hy⟩ := (each i hi).2.1
            exact ⟨y, fun _ => hy⟩
          · by_cases h0 : 0 < xs.length
            · obtain ⟨y, _⟩ := (each 0 h0).2.1
              exact ⟨y, fun h => by omega⟩
            · have dflt : ∀ s : Sh, Nonempty s.T := by
                intro s
                induction s with
                | int k => exact ⟨(0 : BitVec k.bits)⟩
                | bool => exact ⟨false⟩
                | nil => exact ⟨()⟩
                | cons a t iha iht => obtain ⟨x⟩ := iha; obtain ⟨y⟩ := iht; exact ⟨(x, y)⟩
                | agg fs ih => exact ih
                | arr n e ih => obtain ⟨x⟩ := ih; exact ⟨fun _ => x⟩
              obtain ⟨y⟩ := dflt e
              exact ⟨y, fun h => by omega⟩
        obtain ⟨g, hg⟩ := Classical.axiomOfChoice hy
        refine ⟨flatMap_nil (fun v hv => ?_), ⟨g, ?_⟩, fun W' b' sp' hd' => ?_⟩
        · obtain ⟨i, hi, rfl⟩ := List.mem_iff_getElem.1 hv
          exact (each i hi).1
        · simp only [Sh.enc, cells, List.nil_append]
          have hlen : ∀ (f g : Nat → List Value), (∀ i, i < m0 → f i = g i) → (List.range m0).flatMap f = (List.range m0).flatMap g := by
            intro f g h
            rw [List.flatMap_def, List.flatMap_def]
            congr 1
            exact List.map_congr_left fun i hi => h i (by simpa using hi)
          refine (flatMap_chunks (P.cellsOf t) m0 cs (by rw [hl, h4, h3])).trans (hlen _ _ fun i hi => ?_)
          rw [Sh.body_cells i e h5]
          exact hg i hi
        · rw [step, if_pos hl]
          have : (List.range m0).mapM (fun i => DataW.trod enc P W' b' sp' hd' m t ((cs.drop (i * P.cellsOf t)).take (P.cellsOf t))) = some xs := by
            refine mapM_some_of (by simp [g1]) fun i hi hi' => ?_
            simp only [List.getElem_range]
            exact (each i hi').2.2 W' b' sp' hd'
          rw [this]
          rfl
      · simp at hx

/-- An argument of a plain kind: what it is; and it reads so in any world. -/
theorem open_sh {s : Sh} {T : TypeId} (hT : shB P s T = true) {W : World} {b b0 : Nat} {sp : Nat → Bool} {hd : Bool} {r : Reach} {v : Value} {d : DataW H} {ps : List MemPlace} (hv : Value.okWide P W r b0 T v) (h : DataW.Trod enc P W b sp hd T v d ps) :
    ∃ x : s.T, v = val E0 (s.enc x) ∧ ps = [] ∧ ∀ W' b' sp' hd', DataW.Trod enc P W' b' sp' hd' T v d [] := by
  obtain ⟨fuel, hf⟩ := h
  obtain ⟨h1, ⟨y, h2⟩, h3⟩ := (read_all s).1 T hT W b sp hd fuel _ _ hf
  simp only at h1
  subst h1
  refine ⟨y, ?_, rfl, fun W' b' sp' hd' => ⟨fuel, h3 W' b' sp' hd'⟩⟩
  cases s with
  | int k =>
    simp only [shB] at hT
    split at hT <;> simp at hT
    rename_i k' hu
    obtain ⟨n, rfl⟩ := okWide_int hu hv
    simpa [Value.cells, Sh.enc, cells, val] using h2
  | bool =>
    simp only [shB] at hT
    split at hT <;> simp at hT
    rename_i hu
    obtain ⟨n, rfl⟩ := okWide_bool hu hv
    simpa [Value.cells, Sh.enc, cells, val] using h2
  | agg fs =>
    simp only [shB] at hT
    split at hT <;> simp at hT
    rename_i l hu
    obtain ⟨cs, rfl, _⟩ := okWide_struct hu hv
    simp only [Value.cells] at h2
    rw [val_big rfl]
    rw [← h2]
  | arr n e =>
    simp only [shB] at hT
    split at hT <;> simp at hT
    rename_i m t hu
    simp only [Value.okWide, hu] at hv
    obtain ⟨cs, rfl, _⟩ := hv
    simp only [Value.cells] at h2
    rw [val_big rfl]
    rw [← h2]
  | nil => simp [shB] at hT
  | cons a t => simp [shB] at hT

/-- Arguments, all of plain kinds. -/
def HL : List Sh → Type
  | [] => Unit
  | s :: l => s.T × HL l

def encs : (l : List Sh) → HL l → List AV
  | [], _ => []
  | s :: l, x => s.enc x.1 :: encs l x.2

def shAll (P : Program) : List Sh → List TypeId → Bool
  | [], [] => true
  | s :: l, t :: ts => shB P s t && shAll P l ts
  | _, _ => false

theorem Sh.enc_pf : ∀ (s : Sh), s.good = true → ∀ x, Rf.pf (s.enc x) = true := by
  have body : ∀ (s : Sh), ∀ f : Ix → s.T, Rf.pf (s.body f) = true := by
    intro s
    induction s with
    | int k => intro f; rfl
    | bool => intro f; rfl
    | nil => intro f; rfl
    | cons a t iha iht =>
      intro f
      simp only [Sh.body, Rf.pf, iha, iht, Bool.and_self]
    | agg fs ih => intro f; exact ih f
    | arr n e ih => intro f; exact ih _
  intro s
  induction s with
  | int k => intro _ x; rfl
  | bool => intro _ x; rfl
  | nil => intro _ x; rfl
  | cons a t iha iht =>
    intro h x
    simp only [Sh.good, Bool.and_eq_true] at h
    simp only [Sh.enc, Rf.pf, iha h.1, iht h.2, Bool.and_self]
  | agg fs ih => intro h x; exact ih h x
  | arr n e ih =>
    intro h x
    simp only [Sh.good, Bool.and_eq_true] at h
    exact body e _

theorem encs_pf : ∀ (l : List Sh) (ts : List TypeId), shAll P l ts = true → ∀ xs, ∀ v ∈ encs l xs, pf v = true
  | [], _, _, xs, v, hv => by simp [encs] at hv
  | s :: l, [], h, xs, v, hv => by simp [shAll] at h
  | s :: l, t :: ts, h, xs, v, hv => by
    simp only [shAll, Bool.and_eq_true] at h
    simp only [encs, List.mem_cons] at hv
    rcases hv with rfl | hv
    · exact Sh.enc_pf s ((shB_good P s).1 t h.1) _
    · exact encs_pf l ts h.2 xs.2 v hv

theorem open_all {W : World} {b b0 : Nat} {sp : Nat → Bool} {hd : Bool} {r : Reach} : ∀ (l : List Sh) (ts : List TypeId) (vs : List Value) (ds : List (DataW H)) (ps : List MemPlace), shAll P l ts = true →
    (∀ (j : Nat) t v, ts[j]? = some t → vs[j]? = some v → Value.okWide P W r b0 t v) → DataW.TrodAll enc P W b sp hd ts vs ds ps →
    ∃ xs : HL l, vs = (encs l xs).map (val E0) ∧ ps = [] ∧ ds.length = l.length ∧ ∀ W' b' sp' hd', DataW.TrodAll enc P W' b' sp' hd' ts vs ds []
  | [], [], vs, ds, ps, h, hv, ht => by
    match vs, ds, ht with
    | [], [], ht =>
      have : ps = [] := ht
      subst this
      exact ⟨(), rfl, rfl, rfl, fun _ _ _ _ => rfl⟩
  | [], t :: ts, vs, ds, ps, h, hv, ht => by simp [shAll] at h
  | s :: l, [], vs, ds, ps, h, hv, ht => by simp [shAll] at h
  | s :: l, t :: ts, vs, ds, ps, h, hv, ht => by
    simp only [shAll, Bool.and_eq_true] at h
    match vs, ds, ht with
    | v :: vs, d :: ds, ht =>
      obtain ⟨p, q, h1, h2, rfl⟩ := ht
      obtain ⟨x, rfl, rfl, h3⟩ := open_sh h.1 (hv 0 t v rfl rfl) h1
      obtain ⟨xs, rfl, rfl, h4, h5⟩ := open_all l ts vs ds q h.2 (fun j t v e1 e2 => hv (j + 1) t v e1 e2) h2
      exact ⟨(x, xs), rfl, rfl, by simp [h4], fun W' b' sp' hd' => ⟨[], [], h3 W' b' sp' hd', h5 W' b' sp' hd', rfl⟩⟩

/-- A law: whatever comes in, it answers true. -/
theorem law_lift {C : Checked} {os : Os} {f : FuncId} {fn : Func} {s : ChangeSpec} {tb : TypeId} (l : List Sh) (own : ownKnob C.prog.godebug = none) (started : os.Started) (noInit : C.prog.inits.idxOf? f = none) (hfn : C.prog.funcs[f]? = some fn)
    (witness : ∃ (w : World) (tape : Tape) (i : Input), w.os = os ∧ (w.forCall tape i).Shaped C.prog ∧ i.vars = [] ∧ Input.okWide C.prog (w.forCall tape i) .any w.heap.size f i ∧
      s.pre6 enc C.prog fn [] false (w.forCall tape i).memory i.args ∧ (({} : Assume)).holds C.prog (lone (Frame.enter C.prog f i.args .normal) [] (w.forCall tape i)))
    (hps : shAll C.prog l fn.params.toList = true) (hres : fn.resultTypes = #[tb]) (htb : C.prog.underlying tb = some .bool) (hvars : s.vars = [])
    (hspec : ∀ ds : List (DataW H), ds.length = l.length → s.fn H (ds ++ []) = { results := [.lit (.bool true)], args := ds })
    (hcalls : ∀ xs : HL l, ∀ w, Calls C.prog f ((encs l xs).map (val E0)).toArray w fun e w' => e = .returned (.bool true) ∧ RowKit.Below w.heap.size w w') :
    ReturnsInHanded {} C os f .any (s.pre6 enc C.prog fn [] false) (s.post enc C.prog fn false true false false) := by
  refine returnsInHanded_of_change (C := C) own started noInit hfn witness ?_
  intro W base args ds gs before hval0 hW hcnd _
  have hval : ∀ (j : Nat) t v, fn.params.toList[j]? = some t → args.toList[j]? = some v → Value.okWide C.prog W .any base t v := fun j t v h1 h2 => hval0 j t v (by simpa using h1) (by simpa using h2)
  have hW' := hW
  obtain ⟨p, q, hA, hV, rfl, hfz, hnd⟩ := hW
  rw [hvars] at hV
  obtain ⟨rfl, rfl⟩ := trodVars_none hV
  obtain ⟨xs, hx, rfl, hlen, hread⟩ := open_all l fn.params.toList args.toList ds p hps hval hA
  have hargs : args = ((encs l xs).map (val E0)).toArray := by rw [← hx]
  rw [hargs]
  refine (hcalls xs W).mono ?_
  rintro e W' ⟨rfl, hB⟩
  rw [← hargs]
  refine ⟨_, rfl, ?_⟩
  have hsp := hspec ds hlen
  have hr : ∀ (b : Nat) (sp : Nat → Bool) (hd : Bool), DataW.TrodAll enc C.prog W' b sp hd fn.resultTypes.toList ((Value.bool true).resultList fn.resultTypes.size) (s.fn H (ds ++ [])).results [] := by
    intro b sp hd
    rw [hres, hsp]
    exact trodAll_mk1 ⟨1, by simp [DataW.trod, Value.cells, htb]⟩
  have ha : ∀ (sp : Nat → Bool), DataW.TrodAll enc C.prog W' 0 sp true fn.params.toList args.toList (s.fn H (ds ++ [])).args [] := by
    intro sp
    rw [hsp]
    exact hread W' 0 sp true
  have hv : ∀ (sp : Nat → Bool), DataW.TrodVars enc C.prog W' sp s.vars (s.fn H (ds ++ [])).vars [] := by
    intro sp
    rw [hsp, hvars]
    exact rfl
  simp only [List.append_nil] at hW'
  refine ⟨ds, [], [], [], [], [], hW', hr _ _ _, ha _, hv _, hB.frame _, fun _ => ?_⟩
  refine ⟨ok_one hres rfl (okWide_bool_mk htb _), _, _, ([] ++ []) ++ [], ⟨[] ++ [], [], trodAll_append (ha _) (hr _ _ _), hv _, rfl, ?_, ?_⟩, ?_⟩
  · intro b off hp
    simp at hp
  · intro h; simp at h
  · intro p hp _
    simp at hp

end Go.Rf

/- A row's witness, its arguments looked through once. -/
namespace Go.Rf
open Go.ChangeShapes Go.WideShapes Go.ChangeAt Go.RowKit

def okZ (P : Program) (w : World) : List TypeId → List Value → Bool
  | [], [] => true
  | u :: ts, v :: vs => Cell.okWideB P w u v && okZ P w ts vs
  | _, _ => false
def valZ (P : Program) (w : World) (t : TypeId) (v : Value) : Bool :=
  match P.underlying t with
  | some (.struct _) | some (.array _ _) => match v with
    | .agg cs => cs.size == P.cellsOf t && (match P.cellTypes P.depth t with
      | some ts => okZ P w ts cs.toList
      | none => false)
    | _ => false
  | _ => Cell.okWideB P w t v
def argsZ (P : Program) (w : World) : List TypeId → List Value → Bool
  | [], [] => true
  | t :: ts, v :: vs => valZ P w t v && argsZ P w ts vs
  | _, _ => false

theorem okZ_row {P : Program} {w : World} : ∀ {ts : List TypeId} {vs : List Value}, okZ P w ts vs = true → ts.length = vs.length ∧ ∀ (i : Nat) v, vs[i]? = some v → ∃ u, ts[i]? = some u ∧ Cell.okWideB P w u v = true
  | [], [], _ => ⟨rfl, fun i v h => by simp at h⟩
  | [], _ :: _, h => by simp [okZ] at h
  | _ :: _, [], h => by simp [okZ] at h
  | u :: ts, v :: vs, h => by
    simp only [okZ, Bool.and_eq_true] at h
    obtain ⟨h1, h2⟩ := okZ_row h.2
    refine ⟨by simp [h1], fun i x hx => ?_⟩
    cases i with
    | zero => simp at hx; subst hx; exact ⟨u, rfl, h.1⟩
    | succ i => simpa using h2 i x (by simpa using hx)
theorem valZ_ok {P : Program} {w : World} {base : Nat} {t : TypeId} {v : Value} (h : valZ P w t v = true) : Value.okWide P w .any base t v := by
  have row : ∀ cs : Array Value, (match P.cellTypes P.depth t with
      | some ts => okZ P w ts cs.toList
      | none => false) = true → Row.okWide P w .any base t cs := by
    intro cs h
    split at h
    · rename_i ts hts
      obtain ⟨h1, h2⟩ := okZ_row h
      refine ⟨ts, hts, ⟨1, by rw [Nat.one_mul, h1]; simp⟩, fun i v hv => ?_⟩
      obtain ⟨u, hu, ho⟩ := h2 i v (by simpa using hv)
      have hlt : i < ts.length := (List.getElem?_eq_some_iff.1 hu).1
      exact ⟨u, by rw [Nat.mod_eq_of_lt hlt]; exact hu, Cell.okWide_of_okWideB ho⟩
    · cases h
  unfold valZ at h
  unfold Value.okWide
  split at h
  · rename_i fs hu
    simp only [hu]
    split at h <;> try (cases h; done)
    rename_i cs
    simp only [Bool.and_eq_true, beq_iff_eq] at h
    exact ⟨_, rfl, h.1, row _ h.2⟩
  · rename_i n e hu
    simp only [hu]
    split at h <;> try (cases h; done)
    rename_i cs
    simp only [Bool.and_eq_true, beq_iff_eq] at h
    exact ⟨_, rfl, h.1, row _ h.2⟩
  · rename_i h1 h2
    split
    · rename_i fs hu; exact absurd hu (h1 fs)
    · rename_i n e hu; exact absurd hu (h2 n e)
    · exact Cell.okWide_of_okWideB h
theorem argsZ_ok {P : Program} {w : World} {base : Nat} : ∀ {ts : List TypeId} {vs : List Value}, argsZ P w ts vs = true → ts.length = vs.length ∧ ∀ (j : Nat) t v, ts[j]? = some t → vs[j]? = some v → Value.okWide P w .any base t v
  | [], [], _ => ⟨rfl, fun j t v h => by simp at h⟩
  | [], _ :: _, h => by simp [argsZ] at h
  | _ :: _, [], h => by simp [argsZ] at h
  | u :: ts, x :: vs, h => by
    simp only [argsZ, Bool.and_eq_true] at h
    obtain ⟨h1, h2⟩ := argsZ_ok (base := base) h.2
    refine ⟨by simp [h1], fun j t v ht hv => ?_⟩
    cases j with
    | zero => simp at ht hv; subst ht hv; exact valZ_ok h.1
    | succ j => exact h2 j t v (by simpa using ht) (by simpa using hv)

theorem witZ {H : Type} {enc : TypeId × Value → H} {C : Checked} {os : Os} {f : FuncId} {fn : Func} {s : ChangeSpec} {conds : List PathCond} {apart : Bool} (args : List Value) (fuel : Nat)
    (hfn : C.prog.funcs[f]? = some fn) (hf : (fn.body.isSome && !fn.ours && fn.nfree == 0) = true) (hi : C.prog.inits.idxOf? f = none)
    (hv : (World.plainHolding C.prog os ⟨#[], args.toArray, []⟩).variablesB C.prog = true)
    (hr : ((World.plainHolding C.prog os ⟨#[], args.toArray, []⟩).heap.toList.drop C.prog.globals.size).take ((begin C.prog (fun _ _ => 0) default).world.heap.size - C.prog.globals.size) =
      (begin C.prog (fun _ _ => 0) default).world.heap.toList.drop C.prog.globals.size)
    (hok : argsZ C.prog (World.plainHolding C.prog os ⟨#[], args.toArray, []⟩) fn.params.toList args = true)
    (hpre : s.preB enc C.prog fn conds apart (World.plainHolding C.prog os ⟨#[], args.toArray, []⟩).memory args.toArray fuel = true)
    (hsz : s.sizedB enc C.prog fn apart (World.plainHolding C.prog os ⟨#[], args.toArray, []⟩).memory args.toArray fuel = true) :
    ∃ (w : World) (tape : Tape) (i : Input), w.os = os ∧ (w.forCall tape i).Shaped C.prog ∧ i.vars = [] ∧ Input.okWide C.prog (w.forCall tape i) .any w.heap.size f i ∧
      s.pre6 enc C.prog fn conds apart (w.forCall tape i).memory i.args ∧ (({} : Assume)).holds C.prog (lone (Frame.enter C.prog f i.args .normal) [] (w.forCall tape i)) := by
  refine ⟨World.holding C.prog os ⟨#[], args.toArray, []⟩, fun _ _ => 0, ⟨#[], args.toArray, []⟩, rfl, World.shaped_of_B hv hr, rfl, ?_, ⟨ChangeSpec.pre_of_preB hpre, sizedMet_of_sizedB hsz⟩, ?_⟩
  · simp only [Bool.and_eq_true, Bool.not_eq_true', beq_iff_eq] at hf
    refine ⟨fun o ho => by simp at ho, fun gv hg => by simp at hg, hi, fn, hfn, hf.1.1, hf.1.2, hf.2, ?_, fun j t v hj hx => ?_⟩
    · have := (argsZ_ok (base := 0) hok).1
      simpa using this.symm
    · exact (argsZ_ok hok).2 j t v (by simpa using hj) (by simpa using hx)
  · simp only [Assume.holds]
    exact ⟨by simp, by simp, fun h => by simp at h, by simp, by simp⟩
end Go.Rf

/- A contract of a function at some values of its first two arguments. -/
namespace Go.Rf

def con4c {α β γ δ : Type} (p : α → β → Bool) (ca : Cod α) (cb : Cod β) (cc : Cod γ) (cd : Cod δ) (g : α → β → γ → δ → AV) : Con
  | [a, b, c, d] => match ca.dec a, cb.dec b, cc.dec c, cd.dec d with
    | some x, some y, some z, some t => if p x y then some (g x y z t, .tt) else none
    | _, _, _, _ => none
  | _ => none

theorem con4c_ok {P : Program} {Γ : Tab} (hΓ : TabOk P Γ) {Λ : FuncId → Hook} (n : Nat) {f : FuncId} {α β γ δ : Type} {p : α → β → Bool} {ca : Cod α} {cb : Cod β} {cc : Cod γ} {cd : Cod δ} {g : α → β → γ → δ → AV} (hg : ∀ x y z t, pfT (g x y z t) = true) (h : ∀ x y z t, p x y = true → Ev P Γ Λ n f [ca.enc x, cb.enc y, cc.enc z, cd.enc t] (g x y z t)) : ConOk P f (con4c p ca cb cc cd g) := by
  intro args r ob hK hob ha
  unfold con4c at hK
  split at hK <;> try (simp at hK; done)
  split at hK <;> try (simp at hK; done)
  split at hK <;> simp at hK
  rename_i a b c d x y z t e1 e2 e3 e4 hp
  obtain ⟨rfl, rfl⟩ := hK
  refine ⟨hg _ _ _ _, fun w => ?_⟩
  have := (h x y z t hp).calls hΓ (by simp [ca.pf, cb.pf, cc.pf, cd.pf]) w
  simp only [List.map_cons, List.map_nil, ← ca.val e1, ← cb.val e2, ← cc.val e3, ← cd.val e4] at this ⊢
  exact this

/-- As con4c; the first two arguments as they are written. -/
theorem con4l_ok {P : Program} {Γ : Tab} (hΓ : TabOk P Γ) {Λ : FuncId → Hook} (n : Nat) {f : FuncId} {α β γ δ : Type} {p : α → β → Bool} {ca : Cod α} {cb : Cod β} {cc : Cod γ} {cd : Cod δ} {g : α → β → γ → δ → AV} (lu lv : AV) (hu : pf lu = true) (hv : pf lv = true) (hg : ∀ x y z t, pfT (g x y z t) = true)
    (hl : ∀ x y, p x y = true → val E0 (ca.enc x) = val E0 lu ∧ val E0 (cb.enc y) = val E0 lv)
    (h : ∀ x y z t, p x y = true → Ev P Γ Λ n f [lu, lv, cc.enc z, cd.enc t] (g x y z t)) : ConOk P f (con4c p ca cb cc cd g) := by
  intro args r ob hK hob ha
  unfold con4c at hK
  split at hK <;> try (simp at hK; done)
  split at hK <;> try (simp at hK; done)
  split at hK <;> simp at hK
  rename_i a b c d x y z t e1 e2 e3 e4 hp
  obtain ⟨rfl, rfl⟩ := hK
  refine ⟨hg _ _ _ _, fun w => ?_⟩
  have := (h x y z t hp).calls hΓ (by simp [hu, hv, cc.pf, cd.pf]) w
  obtain ⟨q1, q2⟩ := hl x y hp
  simp only [List.map_cons, List.map_nil, ← q1, ← q2, ← ca.val e1, ← cb.val e2, ← cc.val e3, ← cd.val e4] at this ⊢
  exact this

/-- Numbers as they are written: of closed data. -/
def lz : AV → AV
  | .int k x => .lit k (toZ k (x []))
  | .bool b => .blit (b [])
  | .cons h t => .cons (lz h) (lz t)
  | .agg fs => .agg (lz fs)
  | v => v
theorem lz_cells (E : Env) : ∀ v : AV, cells E [] (lz v) = cells E [] v := by
  intro v
  induction v with
  | cons h t ih1 ih2 => simp only [lz, cells, ih1, ih2]
  | agg fs ih => simp only [lz, cells, ih]
  | _ => rfl
theorem lz_val (E : Env) (v : AV) : val E (lz v) = val E v := by
  have h := lz_cells E v
  cases v with
  | agg fs => simp only [lz, val]; simp only [lz, cells] at h; rw [h]
  | cons a b => exact congrArg (fun l => l.headD undef) h
  | _ => rfl
theorem lz_pf : ∀ v : AV, pf v = true → pf (lz v) = true := by
  intro v
  induction v with
  | cons h t ih1 ih2 => intro hp; simp only [pf, Bool.and_eq_true] at hp; simp only [lz, pf, ih1 hp.1, ih2 hp.2]; rfl
  | agg fs ih => intro hp; exact ih hp
  | _ => intro hp; first | rfl | exact hp

/-- A function that is called with plain values: what the evaluator makes of it. -/
def selfCon (P : Program) (Γ : Tab) (n : Nat) (f : FuncId) : Con := fun args => match evalFlat P Γ noHooks n f (args.map lz) with
  | some (r, ob) => if pfT r then some (r, ob) else none
  | none => none
theorem selfCon_ok {P : Program} {Γ : Tab} (hΓ : TabOk P Γ) (n : Nat) (f : FuncId) : ConOk P f (selfCon P Γ n f) := by
  intro args r ob h hob ha
  unfold selfCon at h
  split at h <;> try (simp at h; done)
  rename_i r' ob' he
  split at h <;> simp at h
  rename_i hp
  obtain ⟨rfl, rfl⟩ := h
  obtain ⟨_, h6⟩ := evalFlat_calls hΓ he hob (fun v hv => by
    obtain ⟨u, hu, rfl⟩ := List.mem_map.1 hv
    exact lz_pf u (ha u hu)) hp
  refine ⟨hp, fun w => ?_⟩
  have e : (args.map lz).map (val E0) = args.map (val E0) := by
    rw [List.map_map]
    exact List.map_congr_left fun v _ => lz_val E0 v
  rw [← e]
  exact h6 w
/-- So of several functions. -/
def selfs (P : Program) (Γ : Tab) (n : Nat) : List FuncId → List (FuncId × Con) → List (FuncId × Con)
  | [], l => l
  | f :: fs, l => (f, selfCon P Γ n f) :: selfs P Γ n fs l
theorem selfs_ok {P : Program} {Γ : Tab} (hΓ : TabOk P Γ) (n : Nat) {l : List (FuncId × Con)} (hl : TabOk P (tabOf l)) : ∀ fs, TabOk P (tabOf (selfs P Γ n fs l))
  | [] => hl
  | f :: fs => tabOf_cons (selfs_ok hΓ n hl fs) (selfCon_ok hΓ n f)
end Go.Rf

/- Codes of structs with any number of fields. -/
namespace Go.Rf

def FCod.nilR : FCod Unit where
  dec v := match v with
    | .nil => some fun _ => ()
    | _ => none
  enc _ := .nil
  pf _ := rfl
  dp _ := true
  spec v x h := by
    split at h <;> simp at h
    exact ⟨rfl, fun _ _ _ => rfl⟩
  bg _ _ := rfl
  loc _ _ _ _ _ _ := rfl

def FCod.consR {α β : Type} (ca : FCod α) (cb : FCod β) : FCod (α × β) where
  dec v := match v with
    | .cons a b => match ca.dec a, cb.dec b with
      | some x, some y => some fun ix => (x ix, y ix)
      | _, _ => none
    | _ => none
  enc g := .cons (ca.enc fun ix => (g ix).1) (cb.enc fun ix => (g ix).2)
  pf g := by simp [Rf.pf, ca.pf, cb.pf]
  dp d := ca.dp d && cb.dp d
  spec v x h := by
    split at h <;> try (simp at h; done)
    split at h <;> simp at h
    rename_i a b x1 y1 e1 e2
    subst h
    refine ⟨rfl, fun E ix hd => ?_⟩
    simp only [Bool.and_eq_true] at hd
    simp only [cells, (ca.spec _ _ e1).2 E ix hd.1, (cb.spec _ _ e2).2 E ix hd.2]
  bg _ _ := rfl
  loc E x y ix hd h := by
    simp only [Bool.and_eq_true] at hd
    simp only [cells]
    rw [ca.loc E _ (fun ix => (y ix).1) ix hd.1 (by simp only [h]), cb.loc E _ (fun ix => (y ix).2) ix hd.2 (by simp only [h])]

def FCod.aggR {ρ γ : Type} (r : FCod ρ) (mk : ρ → γ) (un : γ → ρ) (hu : ∀ x, un (mk x) = x) : FCod γ where
  dec v := match v with
    | .agg fs => match r.dec fs with
      | some x => some fun ix => mk (x ix)
      | none => none
    | _ => none
  enc g := .agg (r.enc fun ix => un (g ix))
  pf g := r.pf _
  dp := r.dp
  spec v x h := by
    split at h <;> try (simp at h; done)
    split at h <;> simp at h
    rename_i fs y e
    subst h
    refine ⟨rfl, fun E ix hd => ?_⟩
    simp only [cells, (r.spec _ _ e).2 E ix hd, hu]
  bg _ _ := rfl
  loc E x y ix hd h := by
    simp only [cells]
    exact r.loc E _ _ ix hd (by simp only [h])
end Go.Rf

/- Loops over i below n: that stop at the first bad one; that gather a truth. -/
namespace Go.Rf

def allN (p : Nat → Bool) : Nat → Bool
  | 0 => true
  | n + 1 => allN p n && p n
theorem allN_iff {p : Nat → Bool} : ∀ {n : Nat}, allN p n = true ↔ ∀ i, i < n → p i = true
  | 0 => ⟨fun _ i h => absurd h (Nat.not_lt_zero i), fun _ => rfl⟩
  | n + 1 => by
    simp only [allN, Bool.and_eq_true, allN_iff (n := n)]
    constructor
    · intro h i hi
      by_cases e : i = n
      · rw [e]; exact h.2
      · exact h.1 i (by omega)
    · intro h
      exact ⟨fun i hi => h i (by omega), h n (by omega)⟩
theorem allN_congr {p q : Nat → Bool} {n : Nat} (h : ∀ i, i < n → p i = q i) : allN p n = allN q n := by
  rw [Bool.eq_iff_iff, allN_iff, allN_iff]
  exact ⟨fun a i hi => by rw [← h i hi]; exact a i hi, fun a i hi => by rw [h i hi]; exact a i hi⟩

structure AL (δ : Type) where
  d : δ
  i : W
section
variable {δ : Type} (n : Nat) (bad : δ → W → Bool)
def AL.lt (s : AL δ) : Bool := ltB .i64 s.i (BitVec.ofNat 64 n)
def AL.bd (s : AL δ) : Bool := bad s.d s.i
def AL.go (s : AL δ) : Bool := s.lt n && !s.bd bad
def AL.nxt (s : AL δ) : AL δ := ⟨s.d, s.i + 1#64⟩
def AL.inv (s : AL δ) : Prop := n < 2 ^ 63 ∧ s.i.toNat ≤ n
def AL.mu (s : AL δ) : Nat := n - s.i.toNat
def AL.step (id : Nat) (s : AL δ) : Rd (AL δ) := .br (s.lt n) (.br (s.bd bad) (.ret s) (.norm s.nxt)) (.exit id s)
def AL.run (s : AL δ) : AL δ := runN (AL.go n bad) AL.nxt n s
def AL.hit (s : AL δ) : Bool := (s.run n bad).lt n
def AL.at_ (s : AL δ) : W := (s.run n bad).i
def AL.T (id : Nat) (s : AL δ) : Rd (AL δ) := .br (s.hit n bad) (.ret ⟨s.d, s.at_ n bad⟩) (.exit id ⟨s.d, s.at_ n bad⟩)
theorem AL.T_eq (id : Nat) : AL.T n bad id = fun s => .br ((s.run n bad).lt n) (.ret (s.run n bad)) (.exit id (s.run n bad)) := by
  funext s
  have h : (s.run n bad).d = s.d := runN_inv (go := AL.go n bad) (next := AL.nxt) (fun t => t.d = s.d) (fun t h _ => h) n s rfl
  unfold AL.T AL.hit AL.at_
  rw [← h]
theorem AL.lt_iff {s : AL δ} (h : s.inv n) : s.lt n = decide (s.i.toNat < n) := by
  obtain ⟨h1, h2⟩ := h
  unfold AL.lt
  rw [ltB_nat (by omega) (by rw [ofNat_toNat (by omega)]; exact h1), ofNat_toNat (by omega)]
theorem AL.dec (s : AL δ) (h : s.inv n) (hg : s.go n bad = true) : s.nxt.inv n ∧ s.nxt.mu n < s.mu n := by
  rw [AL.go, AL.lt_iff n h, Bool.and_eq_true, decide_eq_true_eq] at hg
  have e : (s.i + 1#64).toNat = s.i.toNat + 1 := succ_nat (by have := h.1; omega)
  refine ⟨⟨h.1, ?_⟩, ?_⟩
  · show (s.i + 1#64).toNat ≤ n; omega
  · show n - (s.i + 1#64).toNat < n - s.i.toNat; omega
theorem AL.good (id : Nat) : ∀ s : AL δ, s.inv n → Good (AL.inv n) (AL.mu n) (AL.T n bad id) s (s.step n bad id).sel := by
  rw [AL.T_eq]
  refine good_ret (go := AL.go n bad) (next := AL.nxt) (out := AL.lt n) (rt := fun s => s) (AL.dec n bad) (fun s h => by simp only [AL.mu]; omega) ?_ ?_ ?_
  · intro s hi hg
    simp only [AL.go, Bool.and_eq_true, Bool.not_eq_true'] at hg
    simp only [AL.step, Rd.sel, hg.1, hg.2, if_true, Bool.false_eq_true, if_false]
  · intro s hi hg ho
    simp only [AL.go, ho, Bool.true_and, Bool.not_eq_false'] at hg
    simp only [AL.step, Rd.sel, ho, hg, if_true]
  · intro s hi hg ho
    simp only [AL.step, Rd.sel, ho, Bool.false_eq_true, if_false]
theorem AL.ixs {s : AL δ} (h : s.inv n) (hg : s.lt n = true) (k : Nat) : ∀ p ∈ Rf.ixs s.i n k, p := by
  rw [AL.lt_iff n h, decide_eq_true_eq] at hg
  exact ixs_hold h.1 hg k
theorem AL.ix1 {s : AL δ} (h : s.inv n) (hg : s.lt n = true) : ∀ p ∈ [0 ≤ toZ .i64 s.i ∧ toZ .i64 s.i < (n : Int)], p := by
  rw [AL.lt_iff n h, decide_eq_true_eq] at hg
  intro p hp
  simp only [List.mem_singleton] at hp
  subst hp
  have := h.1
  rw [toZ_nat (by omega)]
  omega
theorem AL.init (hn : n < 2 ^ 63) (d : δ) : AL.inv n (⟨d, 0#64⟩ : AL δ) := ⟨hn, by show (0#64 : W).toNat ≤ n; exact Nat.zero_le _⟩
/-- It ends at a bad one, if there is one. -/
theorem AL.all (hn : n < 2 ^ 63) (d : δ) : AL.hit n bad ⟨d, 0#64⟩ = !allN (fun i => !bad d (BitVec.ofNat 64 i)) n := by
  have hgo : ∀ i, i ≤ n → AL.go n bad (⟨d, BitVec.ofNat 64 i⟩ : AL δ) = (decide (i < n) && !bad d (BitVec.ofNat 64 i)) := by
    intro i hi
    unfold AL.go AL.bd
    rw [AL.lt_iff n ⟨hn, by show (BitVec.ofNat 64 i).toNat ≤ n; rw [ofNat_toNat (by omega)]; exact hi⟩]
    show (decide ((BitVec.ofNat 64 i).toNat < n) && !bad d (BitVec.ofNat 64 i)) = _
    rw [ofNat_toNat (by omega)]
  have hltt : ∀ j, j ≤ n → AL.lt n (⟨d, BitVec.ofNat 64 j⟩ : AL δ) = decide (j < n) := by
    intro j hj
    rw [AL.lt_iff n ⟨hn, by show (BitVec.ofNat 64 j).toNat ≤ n; rw [ofNat_toNat (by omega)]; exact hj⟩]
    show decide ((BitVec.ofNat 64 j).toNat < n) = _
    rw [ofNat_toNat (by omega)]
  rcases runN_find (go := AL.go n bad) (next := AL.nxt) (fun i => (⟨d, BitVec.ofNat 64 i⟩ : AL δ)) (fun i => bad d (BitVec.ofNat 64 i)) n hgo (fun i _ _ => by simp only [AL.nxt, ofNat_succ]) n 0 (by omega) with ⟨j, _, hj, hb, e⟩ | ⟨hb, e⟩
  · have e' : AL.run n bad ⟨d, 0#64⟩ = ⟨d, BitVec.ofNat 64 j⟩ := e
    unfold AL.hit
    rw [e', hltt j (by omega), decide_eq_true hj]
    have : allN (fun i => !bad d (BitVec.ofNat 64 i)) n = false := by
      rw [Bool.eq_false_iff]
      intro h
      have := allN_iff.1 h j hj
      rw [hb] at this
      cases this
    rw [this]; rfl
  · have e' : AL.run n bad ⟨d, 0#64⟩ = ⟨d, BitVec.ofNat 64 n⟩ := e
    unfold AL.hit
    rw [e', hltt n (Nat.le_refl _), decide_eq_false (by omega)]
    have : allN (fun i => !bad d (BitVec.ofNat 64 i)) n = true := allN_iff.2 fun i hi => by rw [hb i (Nat.zero_le _) hi]; rfl
    rw [this]; rfl
end

structure AC (δ : Type) where
  d : δ
  i : W
  ok : Bool
section
variable {δ : Type} (n : Nat) (p : δ → W → Bool)
def AC.lt (s : AC δ) : Bool := ltB .i64 s.i (BitVec.ofNat 64 n)
def AC.nxt (s : AC δ) : AC δ := ⟨s.d, s.i + 1#64, s.ok && p s.d s.i⟩
def AC.inv (s : AC δ) : Prop := n < 2 ^ 63 ∧ s.i.toNat ≤ n
def AC.mu (s : AC δ) : Nat := n - s.i.toNat
def AC.step (id : Nat) (s : AC δ) : Rd (AC δ) := .br (s.lt n) (.norm (s.nxt p)) (.exit id s)
def AC.run (s : AC δ) : AC δ := runN (AC.lt n) (AC.nxt p) n s
def AC.res (s : AC δ) : Bool := (s.run n p).ok
def AC.at_ (s : AC δ) : W := (s.run n p).i
def AC.T (id : Nat) (s : AC δ) : Rd (AC δ) := .exit id ⟨s.d, s.at_ n p, s.res n p⟩
theorem AC.T_eq (id : Nat) : AC.T n p id = fun s => .exit id (s.run n p) := by
  funext s
  have h : (s.run n p).d = s.d := runN_inv (go := AC.lt n) (next := AC.nxt p) (fun t => t.d = s.d) (fun t h _ => h) n s rfl
  unfold AC.T AC.res AC.at_
  rw [← h]
theorem AC.lt_iff {s : AC δ} (h : s.inv n) : s.lt n = decide (s.i.toNat < n) := by
  obtain ⟨h1, h2⟩ := h
  unfold AC.lt
  rw [ltB_nat (by omega) (by rw [ofNat_toNat (by omega)]; exact h1), ofNat_toNat (by omega)]
theorem AC.dec (s : AC δ) (h : s.inv n) (hg : s.lt n = true) : (s.nxt p).inv n ∧ (s.nxt p).mu n < s.mu n := by
  rw [AC.lt_iff n h, decide_eq_true_eq] at hg
  have e : (s.i + 1#64).toNat = s.i.toNat + 1 := succ_nat (by have := h.1; omega)
  refine ⟨⟨h.1, ?_⟩, ?_⟩
  · show (s.i + 1#64).toNat ≤ n; omega
  · show n - (s.i + 1#64).toNat < n - s.i.toNat; omega
theorem AC.good (id : Nat) : ∀ s : AC δ, s.inv n → Good (AC.inv n) (AC.mu n) (AC.T n p id) s (s.step n p id).sel := by
  rw [AC.T_eq]
  refine good_run (go := AC.lt n) (next := AC.nxt p) (AC.dec n p) (fun s h => by simp only [AC.mu]; omega) ?_ ?_
  · intro s hi hg
    simp only [AC.step, Rd.sel, hg, if_true]
  · intro s hi hg
    simp only [AC.step, Rd.sel, hg, Bool.false_eq_true, if_false]
theorem AC.ixs {s : AC δ} (h : s.inv n) (hg : s.lt n = true) (k : Nat) : ∀ q ∈ Rf.ixs s.i n k, q := by
  rw [AC.lt_iff n h, decide_eq_true_eq] at hg
  exact ixs_hold h.1 hg k
theorem AC.init (hn : n < 2 ^ 63) (d : δ) (ok : Bool) : AC.inv n (⟨d, 0#64, ok⟩ : AC δ) := ⟨hn, by show (0#64 : W).toNat ≤ n; exact Nat.zero_le _⟩
theorem AC.all (hn : n < 2 ^ 63) (d : δ) (ok : Bool) : AC.res n p ⟨d, 0#64, ok⟩ = (ok && allN (fun i => p d (BitVec.ofNat 64 i)) n) := by
  have := runN_count (go := AC.lt n) (next := AC.nxt p) (fun i => (⟨d, BitVec.ofNat 64 i, ok && allN (fun i => p d (BitVec.ofNat 64 i)) i⟩ : AC δ)) n
    (fun i hi => by
      rw [AC.lt_iff n ⟨hn, by show (BitVec.ofNat 64 i).toNat ≤ n; rw [ofNat_toNat (by omega)]; exact hi⟩]
      show decide ((BitVec.ofNat 64 i).toNat < n) = _
      rw [ofNat_toNat (by omega)])
    (fun i hi => by
      simp only [AC.nxt, ofNat_succ, allN, Bool.and_assoc])
  have e0 : (⟨d, BitVec.ofNat 64 0, ok && allN (fun i => p d (BitVec.ofNat 64 i)) 0⟩ : AC δ) = ⟨d, 0#64, ok⟩ := by simp [allN]
  rw [e0] at this
  have h2 : AC.run n p ⟨d, 0#64, ok⟩ = _ := this
  unfold AC.res
  rw [h2]
end
end Go.Rf
namespace Go.Rf
/-- A contract that asks something of its arguments. -/
def con2o {α β : Type} (ca : Cod α) (cb : Cod β) (g : α → β → AV) (o : α → β → Prop) : Con
  | [a, b] => match ca.dec a, cb.dec b with
    | some x, some y => some (g x y, .pr (o x y))
    | _, _ => none
  | _ => none
theorem con2o_ok {P : Program} {Γ : Tab} (hΓ : TabOk P Γ) {Λ : FuncId → Hook} (n : Nat) {f : FuncId} {α β : Type} {ca : Cod α} {cb : Cod β} {g : α → β → AV} {o : α → β → Prop} (hg : ∀ x y, pfT (g x y) = true) (h : ∀ x y, o x y → Ev P Γ Λ n f [ca.enc x, cb.enc y] (g x y)) : ConOk P f (con2o ca cb g o) := by
  intro args r ob hK hob ha
  unfold con2o at hK
  split at hK <;> try (simp at hK; done)
  split at hK <;> simp at hK
  rename_i a b x y e1 e2
  obtain ⟨rfl, rfl⟩ := hK
  refine ⟨hg _ _, fun w => ?_⟩
  have := (h x y hob).calls hΓ (by simp [ca.pf, cb.pf]) w
  simp only [List.map_cons, List.map_nil, ← ca.val e1, ← cb.val e2] at this ⊢
  exact this
end Go.Rf

namespace Go.Rf
theorem Ev.fg2 {P : Program} {Γ : Tab} {Λ : FuncId → Hook} {n : Nat} {f : FuncId} {args : List AV} {r : AV} {L : List (List Bool × Prop)} (h1 : (Rf.fg (evalN P Γ Λ n f args)).map (·.1) = some r) (h2 : (Rf.fg (evalN P Γ Λ n f args)).map (·.2) = some L) (hL : ∀ e ∈ L, (∀ g ∈ e.1, g = true) → e.2) : Ev P Γ Λ n f args r := by
  cases e : Rf.fg (evalN P Γ Λ n f args) with
  | none => rw [e] at h1; cases h1
  | some x =>
    obtain ⟨r', L'⟩ := x
    rw [e] at h1 h2
    simp only [Option.map_some, Option.some.injEq] at h1 h2
    subst h1; subst h2
    exact Ev.fg e hL
end Go.Rf

namespace Go.Rf
/-- A loop that is come to with its blocks named in one way or in another. -/
def hkTwo (sel : List (Nat × AV) → Bool) (a b : Hk) : Hk where
  keys := a.keys
  names kv := if sel kv then a.names kv else b.names kv
  out kv hb := if sel kv then a.out kv hb else b.out kv hb
def isPtr (t n : Nat) : List (Nat × AV) → Bool
  | [] => false
  | (k, .ptr m _) :: l => (k == t && m == n) || isPtr t n l
  | _ :: l => isPtr t n l
end Go.Rf
