/- Several texts as one: Rf31 Rf32 Rf33 Rf34 Rf35 Rf37. -/
import Derived.Test.YtadkiiaagdhhlaaRfH
import Derived.Laws.MakeOwn
import Derived.Laws.CopyOwn
import Derived.Laws.Slices
set_option linter.unusedVariables false
set_option linter.unusedSimpArgs false

/- Slices made: append to none; make. -/
namespace Go.Rf

variable {e : Sh} {P : Program}

/-- Some elements appended to none. -/
theorem step_append_nil (F : Flat e) {Es : Env} {ws : World} {st : St} {a : Act} {w : World} (hs : SRel Es ws st a w) {o : Oper} {rest : List Oper} {Q : Exit → Act → World → Prop} (hgd : o.guard = none) {sO : Operand} {x : Nat} {t te : TypeId}
    (ho : o.op = .call { callee := .builtin .append, args := #[sO, .tmp x], argTypes := #[t, t] }) {dst : Nat} (hd : o.dst = some dst) (hdst : dst < st.nt)
    (hsv : a.eval sO = .slice none 0 0)
    {m k c : Nat} {B2 : Blk} {ys : Nat → e.T} (hxv : st.look x = .slc m [] (.lit .i64 k) c) (hB2 : st.hp m = some B2) (hnr : noRaw B2.v = true) (hc : ∀ E, cells E [] B2.v = flatN e k ys)
    {ents : List (Nat × AV)} {hbs : List (Nat × Option Blk)} (hk : Kept st st.next ents hbs)
    (i : TypeInfo) (z : Value) (ht : P.underlying t = some (.slice te)) (hi : P.info? te = some i) (hz : i.zero = some z) (hsize : i.size = e.sz) (hzs : z.cells.size = e.sz) (hsmall : k * i.bytes ≤ 140737488355328) (hlen : k ≤ 140737488355328) (hpos : 0 < k)
    (hK : ∀ (D' : SlD e) a' w', D'.Fix te → D'.len = k → D'.els = ys → SRel Es ws (slSt D' st.next dst ents hbs st.nt st.lo) a' w' → wpList P #[] Q rest a' w') :
    wpList P #[] Q (o :: rest) a w := by
  obtain ⟨E, h1, h2, h3, h4, h5, h6, h7, h8, h9, h10⟩ := hs
  refine wpList_plain hgd fun K hKK => ?_
  obtain ⟨bx, x1, x2, x3⟩ := h4 m B2 hB2
  have hfx : fzOf B2.v = (0, 0) := fz_notRaw (by
    cases hv : B2.v <;> first
      | rfl
      | (rw [hv] at hnr; simp [noRaw] at hnr))
  have hrowx : w.heap[bx]? = some (.cells (flatN e k ys).toArray B2.T (0, 0)) := by rw [x3, hc, hfx]
  have hnl := flatN_len F.len k ys
  have hxval : a.eval (.tmp x) = .slice (some ⟨bx, 0, none⟩) k c := by
    have := h1 x
    rw [hxv] at this
    show a.tmps.getD x undef = _
    rw [← this.2]
    simp [valT, val, cells, lenZ, x1, offOf]
  have hnews : ∀ j v, (flatN e k ys)[j]? = some v → w.cell? ((⟨bx, 0, none⟩ : Addr).add j) = some v := by
    intro j v hj
    rw [add_spot rfl, cell_of_row w bx _ _ _ _ hrowx]
    simpa using hj
  have mlen : maxLen = 2 ^ 63 - 1 := rfl
  have fin : ∀ (D' : SlD e) (w' : World), D'.Own te w' → D'.len = k → D'.els = ys → w'.os = w.os → w'.tape = w.tape → w'.output = w.output → w.heap.size ≤ w'.heap.size →
      (∀ q, q < w.heap.size → w'.heap[q]? = w.heap[q]?) → w.heap.size ≤ D'.b → K (a.put o.dst D'.value) w' := by
    intro D' w' hD' e1 e2 g1 g2 g3 g4 g5 g6
    refine hKK _ _ (hK D' _ w' hD'.fix e1 e2 ?_)
    rw [hd]
    exact slice_in h1 h2 h3 h4 h5 h6 h8 h9 hk hdst hD' (F.good _) g1 g2 g3 g4 (fun q hq _ _ => g5 q hq) (.inr g6)
  unfold Oper.wp execOp
  simp only [ho, resolve, invoke, builtin, Sem.run_bind, Sem.run_pure, Result.andThen_ok, List.map_toArray, List.map_cons, List.map_nil, hsv, hxval]
  have hr := run_append_nil (P := P) w t o.type te i z ht hi hz ⟨bx, 0, none⟩ k c (flatN e k ys) (by rw [hsize]; exact hnl) hnews hpos (by omega) (by omega)
  rw [hr]
  simp only [Result.andThen_ok, Oper.upon_value]
  have hge := grownCap_ge w k 0 te
  have hcm : grownCap w k 0 te ≤ maxLen := grownCap_le_maxLen w k 0 te (by omega)
  let zs := Builtin.zeroCells z.cells (grownCap w k 0 te - k)
  let D' : SlD e := ⟨w.heap.size, k, grownCap w k 0 te, [], zs.toList, te, (0, 0), ys⟩
  have hcells : (cells E0 [] D'.blk.v).toArray = (flatN e k ys).toArray ++ zs := by
    rw [blk_row F rfl]
    apply Array.ext'
    show flatN e k ys ++ zs.toList = _
    simp
  refine fin D' _ ⟨?_, hge, rfl, rfl, rfl, ?_, hcm⟩ rfl rfl rfl rfl rfl (by simp) ?_ (Nat.le_refl _)
  · show (w.drew.alloc _).heap[w.heap.size]? = _
    rw [hcells]
    exact heap_alloc_new w.drew _
  · show zs.toList.length = (grownCap w k 0 te - k) * e.sz
    rw [Array.length_toList, size_zeroCells, hzs]
  · intro q hq
    exact heap_alloc_old w.drew _ q hq

/-- A slice of so many zero values. -/
theorem step_make (F : Flat e) {Es : Env} {ws : World} {st : St} {a : Act} {w : World} (hs : SRel Es ws st a w) {o : Oper} {rest : List Oper} {Q : Exit → Act → World → Prop} (hgd : o.guard = none) {lO cO : Operand} {t te : TypeId}
    (ho : o.op = .makeSlice t lO cO) {dst : Nat} (hd : o.dst = some dst) (hdst : dst < st.nt) {k : Nat} {kl kc : IntKind}
    (hl : a.eval lO = .int kl k) (hcv : a.eval cO = .int kc k)
    {ents : List (Nat × AV)} {hbs : List (Nat × Option Blk)} (hk : Kept st st.next ents hbs)
    (i : TypeInfo) (z : Value) (zero : e.T) (ht : P.underlying t = some (.slice te)) (hi : P.info? te = some i) (hz : i.zero = some z) (hsize : i.size = e.sz) (hzs : z.cells.toList = cells E0 [] (e.enc zero)) (hsmall : i.bytes * k ≤ 281474976710656) (hlen : k ≤ maxLen)
    (hK : ∀ (D' : SlD e) a' w', D'.Fix te → D'.len = k → D'.els = (fun _ => zero) → D'.cap = k → SRel Es ws (slSt D' st.next dst ents hbs st.nt st.lo) a' w' → wpList P #[] Q rest a' w') :
    wpList P #[] Q (o :: rest) a w := by
  obtain ⟨E, h1, h2, h3, h4, h5, h6, h7, h8, h9, h10⟩ := hs
  refine wpList_plain hgd fun K hKK => ?_
  unfold Oper.wp execOp
  have mlen : maxLen = 2 ^ 63 - 1 := rfl
  have hb : (i.bytes : Int) * (k : Int) ≤ 281474976710656 := by
    have h : ((i.bytes * k : Nat) : Int) ≤ 281474976710656 := by omega
    rwa [Int.natCast_mul] at h
  have hr := run_make (P := P) w t te i z ht hi hz kl kc k k (by omega) (Int.le_refl _) hb (by omega)
  simp only [Int.toNat_natCast] at hr
  simp only [ho, hl, hcv]
  rw [Sem.run_bind, hr]
  simp only [Result.andThen_ok, Sem.run_pure, Oper.upon_value]
  have hzl : z.cells.size = e.sz := by
    have := congrArg List.length hzs
    rw [F.len] at this
    simpa using this
  have hcells : (madeCells z.cells (k * i.size)).toList = flatN e k fun _ => zero := by
    rw [hsize]
    have key : ∀ n, (madeCells z.cells (n * e.sz)).toList = flatN e n fun _ => zero := by
      intro n
      induction n with
      | zero => simp [madeCells, flatN]
      | succ n ih =>
        rw [flatN_add n 1, ← ih]
        unfold madeCells
        rw [Nat.succ_mul]
        apply List.ext_getElem?
        intro j
        simp only [Array.toList_map, Array.toList_range, List.getElem?_map]
        by_cases hj : j < n * e.sz
        · rw [List.getElem?_append_left (by simpa using hj), List.getElem?_map]
          simp [List.getElem?_range, hj, Nat.lt_of_lt_of_le hj (Nat.le_add_right _ _)]
        · rw [List.getElem?_append_right (by simpa using hj)]
          simp only [List.length_map, List.length_range]
          have e1 : flatN e 1 (fun i => zero) = z.cells.toList := by rw [hzs]; simp [flatN]
          rw [e1]
          by_cases hj2 : j < n * e.sz + e.sz
          · rw [List.getElem?_range hj2]
            have hm : j % z.cells.size = j - n * e.sz := by
              rw [hzl]
              have : j = (j - n * e.sz) + n * e.sz := by omega
              rw [this, Nat.add_mul_mod_self_right, Nat.mod_eq_of_lt (by omega)]
              omega
            have hlt : j - n * e.sz < z.cells.size := by omega
            simp only [Option.map_some, hm, Array.getElem?_toList]
            rw [getElem!_pos z.cells _ hlt, Array.getElem?_eq_getElem hlt]
          · rw [List.getElem?_eq_none (by simp; omega), List.getElem?_eq_none (by simp; omega)]
            rfl
    exact key k
  let D' : SlD e := ⟨w.heap.size, k, k, [], [], te, (0, 0), fun _ => zero⟩
  have hrow : (cells E0 [] D'.blk.v).toArray = madeCells z.cells (k * i.size) := by
    rw [blk_row F rfl]
    apply Array.ext'
    show flatN e k (fun _ => zero) ++ [] = _
    rw [hcells]; simp
  have hD : D'.Own te (w.alloc (.cells (madeCells z.cells (k * i.size)) te)) := ⟨by
    show (w.alloc _).heap[w.heap.size]? = _
    rw [hrow]
    exact heap_alloc_new w _, Nat.le_refl _, rfl, rfl, rfl, by simp [D'], hlen⟩
  refine hKK _ _ (hK D' _ _ hD.fix rfl rfl rfl ?_)
  rw [hd]
  exact slice_in h1 h2 h3 h4 h5 h6 h8 h9 hk hdst hD (F.good _) rfl rfl rfl (by simp) (fun q hq _ _ => heap_alloc_old w _ q hq) (.inr (Nat.le_refl _))
end Go.Rf

/- Blocks that come in by any value; what is known, said otherwise; calls that give a block. -/
namespace Go.Rf

variable {e : Sh} {P : Program}

/-- What is known of a state, said otherwise and held fast: these temporaries and blocks, all named below n. -/
structure KeptR (st : St) (n : Nat) (ents : List (Nat × AV)) (hbs : List (Nat × Option Blk)) : Prop where
  ent : ∀ x ∈ ents, (∀ E y, TRel E (st.look x.1) y → TRel E x.2 y) ∧ nlt n x.2
  blk : ∀ x ∈ hbs, x.1 < n ∧ ∀ B', x.2 = some B' → nlt n B'.v ∧ ∃ B, st.hp x.1 = some B ∧ B.T = B'.T ∧ fzOf B.v = fzOf B'.v ∧ ∀ E, ok E B.v → ok E B'.v ∧ cells E [] B.v = cells E [] B'.v
  lo : st.lo ≤ n
theorem Kept.toR {st : St} {n : Nat} {ents : List (Nat × AV)} {hbs : List (Nat × Option Blk)} (h : Kept st n ents hbs) : KeptR st n ents hbs :=
  ⟨h.ent, fun x hx => by
    obtain ⟨h1, h2, h3⟩ := h.blk x hx
    refine ⟨h1, fun B' hB => ⟨h3 B' hB, B', by rw [h2, hB], rfl, rfl, fun E hE => ⟨hE, rfl⟩⟩⟩, h.lo⟩

/-- A state of so much and a block with the name n, and what is put for it. -/
def bkSt (X : AV) (B : Blk) (n : Nat) (dst : Nat) (ents : List (Nat × AV)) (hbs : List (Nat × Option Blk)) (nt lo : Nat) : St :=
  ⟨(dst, X) :: ents, fun _ => .un, (n, some B) :: hbs, fun _ => none, n + 1, nt, lo⟩

theorem block_in {Es : Env} {ws : World} {st : St} {a : Act} {w : World} {E : Env} (h1 : ∀ t, TRel E (st.look t) (a.tmps.getD t undef)) (h2 : a.tmps.size = st.nt) (h3 : a.defers = []) (h4 : HRel E st.hp w) (h5 : Inj E) (h6 : Bd E w)
    (h8 : Tr Es ws E w) (h9 : ∀ n, st.lo ≤ n → Es n = none) {n dst : Nat} {ents : List (Nat × AV)} {hbs : List (Nat × Option Blk)} (hk : KeptR st n ents hbs) (hdst : dst < st.nt)
    {B : Blk} {b0 : Nat} {X : AV} {x : Value} {w' : World} (hB : ∀ E', ok E' B.v ∧ w'.heap[b0]? = some (.cells (cells E' [] B.v).toArray B.T (fzOf B.v))) (hX : ∀ E', E' n = some b0 → TRel E' X x)
    (os : w'.os = w.os) (tape : w'.tape = w.tape) (output : w'.output = w.output) (size : w.heap.size ≤ w'.heap.size) (block : ∀ k, k < w.heap.size → k ≠ b0 → E n ≠ some k → w'.heap[k]? = w.heap[k]?)
    (hb : E n = some b0 ∨ w.heap.size ≤ b0) :
    SRel Es ws (bkSt X B n dst ents hbs st.nt st.lo) (a.put (some dst) x) w' := by
  let E' : Env := fun m => if m < n then E m else if m = n then some b0 else none
  have hn : E' n = some b0 := by simp [E']
  have hlow : ∀ m, m < n → E' m = E m := fun m hm => by simp [E', hm]
  have hsub : Sub (cut n E) E' := by
    intro m b hm
    simp only [cut] at hm
    split at hm
    · rename_i hmn; rw [hlow m hmn]; exact hm
    · simp at hm
  have hrow : b0 < w'.heap.size := (Array.getElem?_eq_some_iff.1 (hB E').2).1
  have hne : ∀ m b, m < n → E m = some b → b ≠ b0 := by
    intro m b hm hmb e
    subst e
    rcases hb with h | h
    · have := h5 m n _ hmb h
      omega
    · have := h6 m _ hmb
      omega
  refine ⟨E', ?_, by rw [put_size]; exact h2, by rw [put_df]; exact h3, ?_, ?_, ?_, ?_, ?_, h9, Nat.le_succ_of_le hk.lo⟩
  · intro t
    rw [put_getD a (some dst) x t (fun k hk => by cases hk; rw [h2]; exact hdst)]
    show TRel E' (match lookL ((dst, X) :: ents) t with | some v => v | none => .un) _
    simp only [lookL, Option.some.injEq]
    by_cases hd : dst = t
    · subst hd
      simp only [beq_self_eq_true, if_true]
      exact hX E' hn
    · have hd' : (dst == t) = false := by simpa using hd
      simp only [hd', Bool.false_eq_true, if_false, hd]
      cases hl : lookL ents t with
      | none => trivial
      | some v =>
        obtain ⟨k1, k2⟩ := hk.ent _ (lookL_mem hl)
        exact TRel_mono hsub (TRel_cut (k1 E _ (h1 t)) k2)
  · intro m C hC
    have hB' : (match hwL ((n, some B) :: hbs) m with | some b => b | none => none) = some C := hC
    simp only [hwL] at hB'
    by_cases hm : n = m
    · subst hm
      simp only [beq_self_eq_true, if_true, Option.some.injEq] at hB'
      subst hB'
      exact ⟨b0, hn, (hB E').1, (hB E').2⟩
    · have hm' : (n == m) = false := by simpa using hm
      simp only [hm', Bool.false_eq_true, if_false] at hB'
      cases hl : hwL hbs m with
      | none => rw [hl] at hB'; cases hB'
      | some v =>
        rw [hl] at hB'
        simp only at hB'
        subst hB'
        obtain ⟨k1, k2⟩ := hk.blk _ (hwL_mem2 hl)
        obtain ⟨k3, B1, q1, q2, q3, q4⟩ := k2 C rfl
        simp only at k1 q1
        obtain ⟨b, b1, b2, b3⟩ := h4 m B1 q1
        obtain ⟨o1, o2⟩ := q4 E b2
        refine ⟨b, by rw [hlow m k1]; exact b1, ok_mono hsub (ok_cut o1 k3), ?_⟩
        have hcut : ok (cut n E) C.v := ok_cut o1 k3
        rw [cells_mono hsub hcut, ← cells_mono (cut_sub n E) hcut]
        rw [block b (h6 m b b1) (hne m b k1 b1) (fun h => by have := h5 m n b b1 h; omega)]
        rw [b3, o2, q2, q3]
  · intro m m' b hm hm'
    simp only [E'] at hm hm'
    split at hm <;> split at hm'
    · exact h5 m m' b hm hm'
    · rename_i q1 q2
      split at hm' <;> simp at hm'
      exact absurd hm'.symm (hne m b q1 hm)
    · rename_i q1 q2
      split at hm <;> simp at hm
      exact absurd hm.symm (hne m' b q2 hm')
    · split at hm <;> simp at hm
      split at hm' <;> simp at hm'
      omega
  · intro m b hm
    simp only [E'] at hm
    split at hm
    · exact Nat.lt_of_lt_of_le (h6 m b hm) size
    · split at hm <;> simp at hm
      omega
  · intro m hm
    have : n + 1 ≤ m := hm
    simp only [E']
    rw [if_neg (by omega), if_neg (by omega)]
  · have hEs : ∀ m, n ≤ m → Es m = none := fun m hm => h9 m (Nat.le_trans hk.lo hm)
    refine ⟨?_, ?_, os.trans h8.os, tape.trans h8.tape, output.trans h8.output, Nat.le_trans h8.size size, ?_⟩
    · intro m b hm
      have : m < n := Classical.byContradiction fun hne => by rw [hEs m (by omega)] at hm; cases hm
      rw [hlow m this]
      exact h8.sub m b hm
    · intro m b hm
      simp only [E'] at hm
      split at hm
      · exact h8.new m b hm
      · split at hm <;> simp at hm
        subst hm
        right
        rcases hb with h | h
        · rcases h8.new n _ h with h' | h'
          · rw [hEs n (Nat.le_refl n)] at h'; cases h'
          · exact h'
        · exact Nat.le_trans h8.size h
    · intro k hk1 hk2
      rw [block k (Nat.lt_of_lt_of_le hk1 h8.size) ?_ ?_, h8.keep k hk1 hk2]
      · intro hkb
        rcases hb with h | h
        · rcases h8.new n _ h with h' | h'
          · rw [hEs n (Nat.le_refl n)] at h'; cases h'
          · omega
        · have := h8.size
          omega
      · intro h
        rcases h8.new n _ h with h' | h'
        · rw [hEs n (Nat.le_refl n)] at h'; cases h'
        · omega

/-- What is kept alone, said otherwise. -/
theorem KeptR.rel {Es : Env} {ws : World} {st : St} {a : Act} {w : World} (hs : SRel Es ws st a w) {n : Nat} {ents : List (Nat × AV)} {hbs : List (Nat × Option Blk)} (hk : KeptR st n ents hbs) :
    SRel Es ws ⟨ents, fun _ => .un, hbs, fun _ => none, n, st.nt, st.lo⟩ a w := by
  obtain ⟨E, h1, h2, h3, h4, h5, h6, h7, h8, h9, h10⟩ := hs
  refine ⟨cut n E, ?_, h2, h3, ?_, ?_, ?_, ?_, ?_, h9, hk.lo⟩
  · intro t
    show TRel (cut n E) (match lookL ents t with | some v => v | none => .un) _
    cases hl : lookL ents t with
    | none => trivial
    | some v =>
      obtain ⟨k1, k2⟩ := hk.ent _ (lookL_mem hl)
      exact TRel_cut (k1 E _ (h1 t)) k2
  · intro m B hB
    have hB' : (match hwL hbs m with | some b => b | none => none) = some B := hB
    cases hl : hwL hbs m with
    | none => rw [hl] at hB'; cases hB'
    | some v =>
      rw [hl] at hB'
      simp only at hB'
      subst hB'
      obtain ⟨k1, k2⟩ := hk.blk _ (hwL_mem2 hl)
      obtain ⟨k3, B1, q1, q2, q3, q4⟩ := k2 B rfl
      simp only at k1 q1
      obtain ⟨b, b1, b2, b3⟩ := h4 m B1 q1
      obtain ⟨o1, o2⟩ := q4 E b2
      have hcut : ok (cut n E) B.v := ok_cut o1 k3
      refine ⟨b, by simp [cut, k1, b1], hcut, ?_⟩
      rw [← cells_mono (cut_sub n E) hcut, ← o2, ← q2, ← q3]
      exact b3
  · intro m m' b hm hm'
    exact h5 m m' b (cut_sub n E m b hm) (cut_sub n E m' b hm')
  · intro m b hm
    exact h6 m b (cut_sub n E m b hm)
  · intro m hm
    have : n ≤ m := hm
    simp only [cut]
    rw [if_neg (by omega)]
  · refine ⟨?_, ?_, h8.os, h8.tape, h8.output, h8.size, h8.keep⟩
    · intro m b hm
      have : m < n := Classical.byContradiction fun hne => by rw [h9 m (Nat.le_trans hk.lo (by omega))] at hm; cases hm
      simp only [cut, this, if_true]
      exact h8.sub m b hm
    · intro m b hm
      exact h8.new m b (cut_sub n E m b hm)

/-- A call that gives a block: what is put for it, the block's value, told by some data. -/
theorem step_callB {Δ : Type} {Es : Env} {ws : World} {st : St} {a : Act} {w : World} (hs : SRel Es ws st a w) {o : Oper} {rest : List Oper} {f : FuncId} {args : List AV} {Q : Exit → Act → World → Prop}
    (hgd : o.guard = none) (hev : eff P (opd st.look) o.op = some (.call f args)) (X : Δ → AV) (B : Δ → Blk) (Φ : Δ → Prop)
    (hm : ∀ E, HRel E st.hp w → (∀ v ∈ args, ok E v) → Calls P f (args.map (val E)).toArray w fun x w' => ∃ (δ : Δ) (v : Value) (b : Nat), x = .returned v ∧ Φ δ ∧ (∀ E', E' st.next = some b → TRel E' (X δ) v) ∧
      (∀ E', ok E' (B δ).v ∧ w'.heap[b]? = some (.cells (cells E' [] (B δ).v).toArray (B δ).T (fzOf (B δ).v))) ∧ w.heap.size ≤ b ∧ RowKit.Below w.heap.size w w')
    {dst : Nat} (hd : o.dst = some dst) (hdst : dst < st.nt) {ents : List (Nat × AV)} {hbs : List (Nat × Option Blk)} (hk : KeptR st st.next ents hbs)
    (hK : ∀ (δ : Δ) a' w', Φ δ → SRel Es ws (bkSt (X δ) (B δ) st.next dst ents hbs st.nt st.lo) a' w' → wpList P #[] Q rest a' w') :
    wpList P #[] Q (o :: rest) a w := by
  obtain ⟨E, h1, h2, h3, h4, h5, h6, h7, h8, h9, h10⟩ := hs
  refine wpList_plain hgd fun K hKK => ?_
  obtain ⟨ha, hr⟩ := eff_run hev E a (fun x _ => opd_st h1 x)
  unfold Oper.wp
  rw [hr w, Oper.upon_enter]
  refine (hm E h4 ha).mono ?_
  rintro x w' ⟨δ, v, b, rfl, hΦ, hX, hB, hb, hbel⟩
  refine hKK _ _ (hK δ _ w' hΦ ?_)
  rw [hd]
  exact block_in h1 h2 h3 h4 h5 h6 h8 h9 hk hdst hB hX hbel.os hbel.tape hbel.output hbel.size (fun k hk _ _ => hbel.block k hk) (.inr hb)
end Go.Rf

/- A region that draws its order, whose last operations wait for all ahead of them. -/
namespace Go.Rf

/-- From n on each operation waits for all ahead of it. -/
def waitAll (ops : Array Oper) (n : Nat) : Bool :=
  (List.range ops.size).all fun i => i < n || (List.range i).all fun j => ((masks ops.toList []).getD i 0).testBit j

section
variable {P : Program} {ops A : Array Oper} {Q : Exit → Act → World → Prop}

theorem mem_ready_iff {listed : Array Bool} {i : Nat} : i ∈ Region.ready .any ops listed ↔ listed.getD i true = false ∧ ∃ o, ops[i]? = some o ∧ ∀ e ∈ o.after, Region.binds .any e = true → listed.getD e.on false = true := mem_ready

theorem DC.put {listed : Array Bool} (hd : DC ops (fun j => listed.getD j false)) {i : Nat} (hi : i ∈ Region.ready .any ops listed) : DC ops (fun j => (listed.setIfInBounds i true).getD j false) := by
  obtain ⟨h0, o, ho, hall⟩ := mem_ready_iff.1 hi
  have hready := hd.ready ho hall
  intro j hj k hk
  by_cases hji : j = i
  · subst hji
    exact getD_set_true (hready k hk)
  · have hj' : listed.getD j false = true := by
      have : (listed.setIfInBounds i true).getD j false = true := hj
      rwa [getD_set_ne false (Ne.symm hji)] at this
    exact getD_set_true (hd j hj' k hk)

/-- The last ones, in their order. -/
theorem any_tail (hback : backOk ops = true) (hg : noGd ops.toList = true) {n : Nat} (hw : waitAll ops n = true) : ∀ (m k : Nat), k + m = ops.size → n ≤ k → ∀ (listed : Array Bool) (a : Act) (w : World), listed.size = ops.size →
    (∀ j, j < ops.size → listed.getD j false = decide (j < k)) → DC ops (fun j => listed.getD j false) → wpList P #[] Q (ops.toList.drop k) a w → wpAny P .any ops Q m listed a w := by
  have hgo := noGd_spec hg
  intro m
  induction m with
  | zero =>
    intro k hk hn listed a w hsz hl hd h
    obtain rfl : k = ops.size := by omega
    have hr : Region.ready .any ops listed = [] := by
      refine List.eq_nil_iff_forall_not_mem.2 fun j hj => ?_
      obtain ⟨h0, o, ho, _⟩ := mem_ready_iff.1 hj
      have hlt : j < ops.size := (Array.getElem?_eq_some_iff.1 ho).1
      have h1 := hl j hlt
      have : j < listed.size := by omega
      simp [this] at h0 h1
      rw [h0] at h1
      simp at h1
      omega
    have : ops.toList.drop ops.size = [] := by simp
    rw [this] at h
    exact ⟨hr, h⟩
  | succ m ih =>
    intro k hk hn listed a w hsz hl hd h
    have hklt : k < ops.size := by omega
    have hkl : k < listed.size := by omega
    have hko : ops[k]? = some ops[k] := Array.getElem?_eq_getElem hklt
    -- k is ready
    have hkr : k ∈ Region.ready .any ops listed := by
      refine mem_ready_iff.2 ⟨?_, ops[k], hko, ?_⟩
      · have := hl k hklt
        simp [hkl] at this ⊢
        exact this
      · intro e he hb
        unfold backOk at hback
        rw [List.all_eq_true] at hback
        have h1 := hback k (by simpa using hklt)
        simp only [hko, List.all_eq_true] at h1
        have h2 := h1 e (by simpa using he)
        simp only [hb, Bool.not_true, Bool.false_or, decide_eq_true_eq] at h2
        rw [hl e.on (by omega)]
        simpa using h2
    have honly : ∀ i, i ∈ Region.ready .any ops listed → i = k := by
      intro i hi
      obtain ⟨h0, o, ho, hall⟩ := mem_ready_iff.1 hi
      have hilt : i < ops.size := (Array.getElem?_eq_some_iff.1 ho).1
      have hil : i < listed.size := by omega
      have h1 := hl i hilt
      simp [hil] at h0 h1
      rw [h0] at h1
      simp at h1
      by_cases hik : i = k
      · exact hik
      · exfalso
        have hm : ((masks ops.toList []).getD i 0).testBit k = true := by
          unfold waitAll at hw
          rw [List.all_eq_true] at hw
          have := hw i (by simpa using hilt)
          simp only [Bool.or_eq_true, decide_eq_true_eq, List.all_eq_true, List.mem_range] at this
          rcases this with h | h
          · omega
          · exact h k (by omega)
        have hk1 : listed.getD k false = true := hd.ready ho hall k hm
        have h3 := hl k hklt
        rw [hk1] at h3
        simp at h3
    refine ⟨fun h0 => (by rw [h0] at hkr; cases hkr), fun i hi => ?_⟩
    obtain rfl := honly i hi
    have hdrop : ops.toList.drop i = ops[i] :: ops.toList.drop (i + 1) := by
      rw [List.drop_eq_getElem_cons (by simpa using hklt)]; simp
    rw [hdrop] at h
    have ho := hgo ops[i] (by simp)
    have hwt : ∀ ys, Region.wanted ops[i] ys = true := fun ys => by simp [Region.wanted, ho]
    unfold wpList at h
    rw [if_pos (hwt _)] at h
    unfold wpOp
    simp only [hko, hwt, if_true]
    refine h.imp (Oper.wp_mono (fun a' w' hh => ?_)) id
    refine ih (i + 1) (by omega) (by omega) (listed.setIfInBounds i true) a' w' (by simpa using hsz) ?_ (hd.put hi) hh
    intro j hj
    by_cases hji : j = i
    · subst hji
      simp [hkl]
    · rw [getD_set_ne false (Ne.symm hji), hl j hj]
      congr 1
      simp only [eq_iff_iff]
      omega

theorem pre_get {T : List Oper} (hops : ops.toList = A.toList ++ T) {i : Nat} (hi : i < A.size) : ops[i]? = A[i]? := by
  rw [← Array.getElem?_toList, hops, List.getElem?_append_left (by simpa using hi), Array.getElem?_toList]

theorem any_split {T : List Oper} (hops : ops.toList = A.toList ++ T) (hback : backOk ops = true) (hg : noGd ops.toList = true) (hw : waitAll ops A.size = true) :
    ∀ (fuel : Nat) (listed la : Array Bool) (a : Act) (w : World), listed.size = ops.size → la.size = A.size → (∀ j, listed.getD j false = la.getD j false) → DC ops (fun j => listed.getD j false) →
      wpAny P .any A (fun e a w => e = .normal ∧ wpList P #[] Q T a w) fuel la a w → wpAny P .any ops Q (fuel + T.length) listed a w := by
  have hgo := noGd_spec hg
  have hsz2 : ops.size = A.size + T.length := by
    have := congrArg List.length hops
    simpa using this
  have rdy : ∀ (listed la : Array Bool), listed.size = ops.size → la.size = A.size → (∀ j, listed.getD j false = la.getD j false) → ∀ i, i < A.size → (i ∈ Region.ready .any ops listed ↔ i ∈ Region.ready .any A la) := by
    intro listed la h1 h2 h3 i hi
    rw [mem_ready_iff, mem_ready_iff, pre_get hops hi]
    have e1 : listed.getD i true = la.getD i true := by
      have := h3 i
      have a1 : i < listed.size := by omega
      have a2 : i < la.size := by omega
      simp [a1, a2] at this ⊢
      exact this
    rw [e1]
    simp only [h3]
  -- all of A are done when nothing of it is ready
  have full : ∀ (listed la : Array Bool), listed.size = ops.size → la.size = A.size → (∀ j, listed.getD j false = la.getD j false) → Region.ready .any A la = [] → ∀ j, j < A.size → listed.getD j false = true := by
    intro listed la h1 h2 h3 hr j
    induction j using Nat.strongRecOn with
    | _ j ih =>
      intro hj
      refine Classical.byContradiction fun hne => ?_
      have hjo : j < ops.size := by omega
      have hmem : j ∈ Region.ready .any ops listed := by
        rw [mem_ready_iff]
        refine ⟨?_, ops[j], by simp [hjo], ?_⟩
        · have : j < listed.size := by omega
          simp [this] at hne ⊢
          exact hne
        · intro e he hb
          unfold backOk at hback
          rw [List.all_eq_true] at hback
          have q1 := hback j (by simpa using hjo)
          simp only [Array.getElem?_eq_getElem hjo, List.all_eq_true] at q1
          have q2 := q1 e (by simpa using he)
          simp only [hb, Bool.not_true, Bool.false_or, decide_eq_true_eq] at q2
          exact ih e.on q2 (by omega)
      have := (rdy listed la h1 h2 h3 j hj).1 hmem
      rw [hr] at this
      cases this
  have fin : ∀ (listed la : Array Bool) (a : Act) (w : World), listed.size = ops.size → la.size = A.size → (∀ j, listed.getD j false = la.getD j false) → DC ops (fun j => listed.getD j false) → Region.ready .any A la = [] → wpList P #[] Q T a w → ∀ fuel, T.length ≤ fuel → wpAny P .any ops Q fuel listed a w := by
    intro listed la a w h1 h2 h3 hd hr h fuel hf
    have hdrop : ops.toList.drop A.size = T := by rw [hops]; simp
    have := any_tail (P := P) (Q := Q) hback hg hw T.length A.size (by omega) (Nat.le_refl _) listed a w h1 (fun j hj => by
      by_cases hja : j < A.size
      · rw [full listed la h1 h2 h3 hr j hja]; simp [hja]
      · rw [h3 j]
        have : ¬ j < la.size := by omega
        simp [this, hja]) hd (by rw [hdrop]; exact h)
    exact wpAny_more this hf
  intro fuel
  induction fuel with
  | zero =>
    intro listed la a w h1 h2 h3 hd h
    exact fin listed la a w h1 h2 h3 hd h.1 h.2.2 _ (by omega)
  | succ fuel ih =>
    intro listed la a w h1 h2 h3 hd h
    by_cases hr : Region.ready .any A la = []
    · exact fin listed la a w h1 h2 h3 hd hr (h.1 hr).2 _ (by omega)
    · have hsome : ∃ i, i ∈ Region.ready .any A la := List.exists_mem_of_ne_nil _ hr
      have hltA : ∀ i, i ∈ Region.ready .any A la → i < A.size := fun i hi => by
        obtain ⟨_, o, ho, _⟩ := mem_ready_iff.1 hi
        exact (Array.getElem?_eq_some_iff.1 ho).1
      have e : fuel + 1 + T.length = (fuel + T.length) + 1 := by omega
      rw [e]
      refine ⟨fun h0 => ?_, fun i hi => ?_⟩
      · obtain ⟨i, hi⟩ := hsome
        have := (rdy listed la h1 h2 h3 i (hltA i hi)).2 hi
        rw [h0] at this
        cases this
      · obtain ⟨h0, o, ho, hall⟩ := mem_ready_iff.1 hi
        have hio : i < ops.size := (Array.getElem?_eq_some_iff.1 ho).1
        have hiA : i < A.size := by
          refine Classical.byContradiction fun hne => ?_
          obtain ⟨k, hk⟩ := hsome
          have hkA := hltA k hk
          have hm : ((masks ops.toList []).getD i 0).testBit k = true := by
            unfold waitAll at hw
            rw [List.all_eq_true] at hw
            have := hw i (by simpa using hio)
            simp only [Bool.or_eq_true, decide_eq_true_eq, List.all_eq_true, List.mem_range] at this
            rcases this with h | h
            · omega
            · exact h k (by omega)
          have hk1 : listed.getD k false = true := hd.ready ho hall k hm
          have hk2 := (mem_ready_iff.1 hk).1
          rw [h3 k] at hk1
          have : k < la.size := by omega
          simp [this] at hk1 hk2
          rw [hk1] at hk2
          cases hk2
        have hA := (rdy listed la h1 h2 h3 i hiA).1 hi
        have hh := h.2 i hA
        have hoA : A[i]? = some o := by rw [← pre_get hops hiA]; exact ho
        have hgi := hgo o (by
          have := Array.mem_of_getElem? ho
          simpa using this)
        have hwt : ∀ ys, Region.wanted o ys = true := fun ys => by simp [Region.wanted, hgi]
        unfold wpOp at hh ⊢
        simp only [hoA, hwt, if_true] at hh
        simp only [ho, hwt, if_true]
        rcases hh with hh | hh
        · left
          refine wp_mono2 (fun a' w' hx => ?_) (fun e a w hne hq => absurd hq.1 hne) hh
          refine ih (listed.setIfInBounds i true) (la.setIfInBounds i true) a' w' (by simpa using h1) (by simpa using h2) ?_ (hd.put hi) hx
          intro j
          by_cases hji : j = i
          · subst hji
            have q1 : j < listed.size := by omega
            have q2 : j < la.size := by omega
            simp [q1, q2]
          · rw [getD_set_ne false (Ne.symm hji), getD_set_ne false (Ne.symm hji), h3 j]
        · obtain ⟨_, a', w', h', _⟩ := hh
          cases h'
where
  wpAny_more {P : Program} {ops : Array Oper} {Q : Exit → Act → World → Prop} : ∀ {m : Nat} {listed : Array Bool} {a : Act} {w : World}, wpAny P .any ops Q m listed a w → ∀ {k : Nat}, m ≤ k → wpAny P .any ops Q k listed a w
  | 0, listed, a, w, h, k, _ => wpAny_done h.1 h.2 k
  | m + 1, listed, a, w, h, k, hk => by
    obtain ⟨k, rfl⟩ : ∃ k', k = k' + 1 := ⟨k - 1, by omega⟩
    exact ⟨h.1, fun i hi => wpOp_mono (fun a w hx => wpAny_more hx (by omega)) (h.2 i hi)⟩

/-- A region in any order, of its first operations the state is evaluated; the last ones follow in their order. -/
theorem region_split {cx : Cx} (hΓ : TabOk cx.P cx.Γ) (hI : InlOk cx.P cx.inl) {ops A : Array Oper} {T : List Oper} {st st' : St} {ob : Ob} (hops : ops.toList = A.toList ++ T) (hback : backOk ops = true) (hg : noGd ops.toList = true) (hw : waitAll ops A.size = true)
    (h : evalRegion cx A true st = some (st', ob)) (hob : ob.holds) {id : Nat}
    {Es : Env} {ws : World} {a : Act} {w : World} (hs : SRel Es ws st a w) {Q : Exit → Act → World → Prop} (hQ : ∀ a' w', SRel Es ws st' a' w' → wpList cx.P #[] Q T a' w') :
    (Code.region id ops true).wp cx.P Q a w := by
  unfold evalRegion at h
  split at h <;> try (simp at h; done)
  rename_i fin n ob' hev
  split at h <;> simp at h
  rename_i hd
  obtain ⟨rfl, rfl⟩ := h
  obtain ⟨l, nx, obs, e1, e2, e3, e4, e5, e6⟩ := evalOps_run _ _ _ _ _ _ hev
  simp only [List.append_nil] at e1 e5
  have R : Run cx A (fun t => clean (st.look t)) st.hp st.nt st.next l nx obs := ⟨by simpa using e2, fun i o r ho hr => e5 i o r (by simpa using ho) hr, e3⟩
  have hobs : ∀ i, i < A.size → (obs i).holds := fun i hi => e6 hob i (by simpa using hi)
  obtain ⟨E, h1, h2, h3, h4, h5, h6, h7, h8, h9, h10⟩ := hs
  have hfin : ∀ E' a' w', InvD l (fun t => clean (st.look t)) st.hp st.nt st.next Es ws (fun j => decide (j < A.size)) E' a' w' → wpList cx.P #[] Q T a' w' := by
    intro E' a' w' I
    have hmono0 := R.nx_mono (i := 0) (j := A.size) (by omega) (Nat.le_refl _)
    have e40 : nx A.size = n := by simpa using e4
    refine hQ a' w' ⟨E', ?_, I.sz, I.df, ?_, I.inj, I.bd, ?_, I.tr, h9, by rw [R.first] at hmono0; show st.lo ≤ n; omega⟩
    · intro t
      have ht := I.tm t
      rw [← R.len, verT_below _ l l.length (Nat.le_refl _) t, List.take_length] at ht
      have e := entOf_look (fun t => clean (st.look t)) (fun t => clean_clean _) t fin
      have : St.look { st with ent := entOf fin ++ st.ent, hent := hwOf fin ++ st.hent, next := n } t = (match lookL (entOf fin) t with | some v => v | none => st.look t) := by
        simp only [St.look, lookL_append]
        cases lookL (entOf fin) t <;> rfl
      rw [this]
      rw [e1] at e ⊢
      cases hl : lookL (entOf l.reverse) t with
      | some v =>
        simp only [hl] at e ⊢
        rw [e]
        exact GRel_clean ht
      | none =>
        simp only [hl] at e ⊢
        have hx : TRel E' (clean (st.look t)) (a'.tmps.getD t undef) := by rw [e]; exact GRel_clean ht
        cases hv : st.look t with
        | gd q u => trivial
        | _ => rw [hv] at hx; exact hx
    · intro m B hB
      refine I.hp m B ?_
      rw [← R.len, verH_below _ l l.length (Nat.le_refl _) m, List.take_length]
      rw [← hwOf_look, ← hB, ← e1]
      simp only [St.hp, hwL_append]
      cases hwL (hwOf fin) m <;> rfl
    · intro m hm
      refine Classical.byContradiction fun hne => ?_
      have e4' : nx A.size = n := by simpa using e4
      have hmono := R.nx_mono (i := 0) (j := A.size) (by omega) (Nat.le_refl _)
      simp only at hm
      obtain ⟨j, hj, hnj⟩ := I.nm m (by rw [R.first] at hmono; omega) hne
      obtain ⟨a1, a2, a3⟩ := R.nw_at hnj
      have := R.nx_mono (i := j + 1) (j := A.size) (by omega) (Nat.le_refl _)
      omega
  have start : ∀ (D : Nat → Bool) (w : World), (∀ j, D j = false) → HRel E st.hp w → Bd E w → Tr Es ws E w → InvD l (fun t => clean (st.look t)) st.hp st.nt st.next Es ws D E a w := by
    intro D w hD hh hb ht
    refine ⟨fun t => ?_, ?_, h5, hb, fun m hm hne => absurd (h7 m hm) hne, h2, h3, ht⟩
    · rw [verT_none l _ D hD t]
      exact GRel_of_clean (h1 t)
    · intro m B hB
      rw [verH_none l _ D hD m] at hB
      exact hh m B hB
  simp only [Bool.not_true, Bool.false_or] at hd
  have hm : cx.P.follows .mixedOrders = true := by
    simp only [drawOk, Bool.and_eq_true] at hd
    exact hd.1.1.1
  refine wp_region_any hm ?_
  rw [e1, List.reverse_reverse] at hd
  have hD : ∀ (k j : Nat), (fun j => (Array.replicate k false).getD j false) j = false := by
    intro k j
    simp only [Array.getD_eq_getD_getElem?, Array.getElem?_replicate]
    split <;> rfl
  have hsz2 : ops.size = A.size + T.length := by
    have := congrArg List.length hops
    simpa using this
  have key : wpAny cx.P .any A (fun e a w => e = .normal ∧ wpList cx.P #[] Q T a w) A.size (Array.replicate A.size false) a { w with drawn := w.drawn + 1 } := by
    refine R.any hΓ hI hobs hd (fun E' a' w' I => ⟨rfl, hfin E' a' w' I⟩) A.size _ E a _ (by simp) ?_ ?_ (start _ _ (hD _) h4 h6 (h8.trans (Tr.drew E w)))
    · exact Nat.le_trans (List.length_filter_le _ _) (by simp)
    · intro j hj
      rw [hD _ j] at hj
      simp at hj
  have := any_split (Q := Q) hops hback hg hw A.size (Array.replicate ops.size false) (Array.replicate A.size false) a { w with drawn := w.drawn + 1 } (by simp) (by simp) (fun j => (hD ops.size j).trans (hD A.size j).symm) (fun j hj => by rw [hD _ j] at hj; simp at hj) key
  rw [hsz2]
  rw [hsz2] at this
  exact this
end
end Go.Rf

/- Names turned. -/
namespace Go.Rf

/-- The names below n, by others. -/
def ren (ρ : Nat → Nat) (n : Nat) (E : Env) : Env := fun m => if m < n then E (ρ m) else none

structure KeptN (st : St) (ρ : Nat → Nat) (n : Nat) (ents : List (Nat × AV)) (hbs : List (Nat × Option Blk)) : Prop where
  inj : ∀ i j, i < n → j < n → ρ i = ρ j → i = j
  ent : ∀ x ∈ ents, ∀ E y, TRel E (st.look x.1) y → TRel (ren ρ n E) x.2 y
  blk : ∀ x ∈ hbs, x.1 < n ∧ ∀ B', x.2 = some B' → ∃ B, st.hp (ρ x.1) = some B ∧ B.T = B'.T ∧ fzOf B.v = fzOf B'.v ∧ ∀ E, ok E B.v → ok (ren ρ n E) B'.v ∧ cells E [] B.v = cells (ren ρ n E) [] B'.v

theorem TRel_pf {E E' : Env} {v : AV} {y : Value} (hp : pf v = true) (h : TRel E v y) : TRel E' v y := by
  have hok := ok_of_pf E' v hp
  have hv := val_pf hp E E'
  have hs : okT E' v ∧ valT E' v = y := by
    cases v <;> first
      | (simp [pf] at hp; done)
      | (obtain ⟨h1, h2⟩ := h; exact ⟨hok, by rw [← h2]; exact hv.symm⟩)
  cases v <;> first
    | trivial
    | exact hs

theorem KeptN.rel {ws : World} {st : St} {a : Act} {w : World} (hs : SRel E0 ws st a w) (hlo : st.lo = 0) {ρ : Nat → Nat} {n : Nat} {ents : List (Nat × AV)} {hbs : List (Nat × Option Blk)} (hk : KeptN st ρ n ents hbs) :
    SRel E0 ws ⟨ents, fun _ => .un, hbs, fun _ => none, n, st.nt, 0⟩ a w := by
  obtain ⟨E, h1, h2, h3, h4, h5, h6, h7, h8, h9, h10⟩ := hs
  refine ⟨ren ρ n E, ?_, h2, h3, ?_, ?_, ?_, ?_, ?_, fun _ _ => rfl, Nat.zero_le _⟩
  · intro t
    show TRel (ren ρ n E) (match lookL ents t with | some v => v | none => .un) _
    cases hl : lookL ents t with
    | none => trivial
    | some v => exact hk.ent _ (lookL_mem hl) E _ (h1 t)
  · intro m B hB
    have hB' : (match hwL hbs m with | some b => b | none => none) = some B := hB
    cases hl : hwL hbs m with
    | none => rw [hl] at hB'; cases hB'
    | some v =>
      rw [hl] at hB'
      simp only at hB'
      subst hB'
      obtain ⟨k1, k2⟩ := hk.blk _ (hwL_mem2 hl)
      obtain ⟨B1, q1, q2, q3, q4⟩ := k2 B rfl
      simp only at k1 q1
      obtain ⟨b, b1, b2, b3⟩ := h4 _ B1 q1
      obtain ⟨o1, o2⟩ := q4 E b2
      refine ⟨b, by simp [ren, k1, b1], o1, ?_⟩
      rw [← o2, ← q2, ← q3]
      exact b3
  · intro m m' b hm hm'
    simp only [ren] at hm hm'
    split at hm <;> try (simp at hm; done)
    split at hm' <;> try (simp at hm'; done)
    rename_i x1 x2
    exact hk.inj m m' x1 x2 (h5 _ _ b hm hm')
  · intro m b hm
    simp only [ren] at hm
    split at hm <;> try (simp at hm; done)
    exact h6 _ b hm
  · intro m hm
    have : n ≤ m := hm
    simp only [ren]
    rw [if_neg (by omega)]
  · refine ⟨fun m b hm => (by cases hm), ?_, h8.os, h8.tape, h8.output, h8.size, h8.keep⟩
    intro m b hm
    simp only [ren] at hm
    split at hm <;> try (simp at hm; done)
    rcases h8.new _ b hm with h | h
    · cases h
    · exact .inr h
end Go.Rf

/- Blocks of a slice written: copies, slices with three indexes, stores. -/
namespace Go.Rf

variable {e : Sh} {P : Program}

def St.setT (st : St) (t : Nat) (v : AV) : St := ⟨(t, v) :: st.ent, st.rest, st.hent, st.hrest, st.next, st.nt, st.lo⟩
def St.setB (st : St) (n : Nat) (B : Blk) : St := ⟨st.ent, st.rest, (n, some B) :: st.hent, st.hrest, st.next, st.nt, st.lo⟩
theorem St.setT_look (st : St) (t u : Nat) (v : AV) : (st.setT t v).look u = if t = u then v else st.look u := by
  unfold St.setT St.look
  simp only [lookL]
  by_cases h : t = u
  · subst h; simp
  · have : (t == u) = false := by simpa using h
    rw [this, if_neg h]; rfl
theorem St.setB_hp (st : St) (n m : Nat) (B : Blk) : (st.setB n B).hp m = if n = m then some B else st.hp m := by
  unfold St.setB St.hp
  simp only [hwL]
  by_cases h : n = m
  · subst h; simp
  · have : (n == m) = false := by simpa using h
    rw [this, if_neg h]; rfl
/-- Something is put. -/
theorem tmp_set {Es : Env} {ws : World} {st : St} {a : Act} {w : World} (hs : SRel Es ws st a w) {t : Nat} (ht : t < st.nt) (v : AV) (x : Value) (hv : ∀ E, (∀ t, TRel E (st.look t) (a.tmps.getD t undef)) → TRel E v x) : SRel Es ws (st.setT t v) (a.put (some t) x) w := by
  obtain ⟨E, h1, h2, h3, h4, h5, h6, h7, h8, h9, h10⟩ := hs
  refine ⟨E, fun u => ?_, by rw [put_size]; exact h2, by rw [put_df]; exact h3, h4, h5, h6, h7, h8, h9, h10⟩
  rw [put_getD a (some t) x u (fun k hk => by cases hk; rw [h2]; exact ht), St.setT_look]
  by_cases h : t = u
  · subst h; rw [if_pos rfl, if_pos rfl]; exact hv E h1
  · rw [if_neg h, if_neg (by simpa using h)]; exact h1 u
/-- A block becomes another. -/
theorem blk_set {Es : Env} {ws : World} {st : St} {a : Act} {w : World} (hs : SRel Es ws st a w) {n : Nat} {B : Blk} (hB : st.hp n = some B) (hfz : fzOf B.v = (0, 0)) :
    ∃ (E : Env) (b : Nat), E n = some b ∧ (∀ t, TRel E (st.look t) (a.tmps.getD t undef)) ∧ HRel E st.hp w ∧ Inj E ∧ w.heap[b]? = some (.cells (cells E [] B.v).toArray B.T (0, 0)) ∧
      ∀ (B' : Blk) (cs : Array Value), B'.T = B.T → fzOf B'.v = (0, 0) → ok E B'.v → cs = (cells E [] B'.v).toArray → SRel Es ws (st.setB n B') a (w.setRow b cs) := by
  obtain ⟨E, h1, h2, h3, h4, h5, h6, h7, h8, h9, h10⟩ := hs
  obtain ⟨b, b1, b2, b3⟩ := h4 n B hB
  rw [hfz] at b3
  refine ⟨E, b, b1, h1, h4, h5, b3, fun B' cs hT hf hok hcs => ?_⟩
  have hsz : (w.setRow b cs).heap.size = w.heap.size := by simp [World.setRow]
  refine ⟨E, h1, h2, h3, ?_, h5, fun m k hm => by rw [hsz]; exact h6 m k hm, h7, ?_, h9, h10⟩
  · intro m C hC
    rw [St.setB_hp] at hC
    by_cases h : n = m
    · subst h
      rw [if_pos rfl] at hC
      cases hC
      refine ⟨b, b1, hok, ?_⟩
      rw [hf, hT, ← hcs]
      exact setRow_heap w b _ cs _ _ b3
    · rw [if_neg h] at hC
      obtain ⟨c, c1, c2, c3⟩ := h4 m C hC
      refine ⟨c, c1, c2, ?_⟩
      rw [setRow_other w b c cs (fun ec => h (by subst ec; exact h5 n m _ b1 c1))]
      exact c3
  · refine ⟨h8.sub, h8.new, h8.os, h8.tape, h8.output, by rw [hsz]; exact h8.size, fun k hk hno => ?_⟩
    rw [setRow_other w b k cs (fun ek => ?_)]
    · exact h8.keep k hk hno
    · subst ek
      rcases h8.new n _ b1 with h | h
      · exact hno n h
      · omega

theorem blk_cells3 (F : Flat e) (D : SlD e) : cells E0 [] D.blk.v = D.pre ++ flatN e D.len D.els ++ D.post := by
  show D.pre ++ cells E0 [] D.arr ++ D.post = _
  rw [show cells E0 [] D.arr = flatN e D.len D.els from arr_cells F.fl D.len D.els]

/-- One slice is copied over another that is as long. -/
theorem step_copy (F : Flat e) (he1 : e.sz = 1) {Es : Env} {ws : World} {st : St} {a : Act} {w : World} (hs : SRel Es ws st a w) {o : Oper} {rest : List Oper} {Q : Exit → Act → World → Prop} (hgd : o.guard = none) {d s : Nat} {t te : TypeId}
    (ho : o.op = .call { callee := .builtin .copy, args := #[.tmp d, .tmp s], argTypes := #[t, t] }) {dst : Nat} (hd : o.dst = some dst) (hdst : dst < st.nt) (ht : P.underlying t = some (.slice te)) (hsz : (P.info? te).map (·.size) = some 1)
    {D D' : SlD e} {n n' : Nat} (hlD : st.look s = D.at n) (hlD' : st.look d = D'.at n') (hbD : st.hp n = some D.blk) (hbD' : st.hp n' = some D'.blk) (hne : n ≠ n') (hlen : D'.len = D.len) (hpre : D'.pre = []) (hpost : D'.post = []) (hfz : D'.fz = (0, 0)) (hb63 : D.len < 2 ^ 63)
    (h1c : ∀ v ∈ flatN e D.len D.els, v.oneCell' = true)
    (hK : ∀ a' w', SRel Es ws ((st.setB n' ({ D' with els := D.els } : SlD e).blk).setT dst .un) a' w' → wpList P #[] Q rest a' w') : wpList P #[] Q (o :: rest) a w := by
  obtain ⟨E, b', e1, h1, h4, h5, hrow, hset⟩ := blk_set hs hbD' (show fzOf D'.blk.v = (0, 0) from hfz)
  obtain ⟨b, b1, b2, b3⟩ := h4 n D.blk hbD
  have vd : a.eval (.tmp d) = .slice (some ⟨b', 0, none⟩) D'.len D'.cap := by
    have h := h1 d
    rw [hlD'] at h
    have hv := (at_val (D := { D' with b := b' }) (n := n') e1 (by show D'.len < 2 ^ 63; omega)).1
    have : a.tmps.getD d undef = ({ D' with b := b' } : SlD e).value := h.2.symm.trans hv
    show a.tmps.getD d undef = _
    rw [this]
    show Value.slice (some ⟨b', D'.pre.length, none⟩) D'.len D'.cap = _
    rw [hpre]; rfl
  have vs : a.eval (.tmp s) = .slice (some ⟨b, D.pre.length, none⟩) D.len D.cap := by
    have h := h1 s
    rw [hlD] at h
    have hv := (at_val (D := { D with b := b }) (n := n) b1 hb63).1
    exact h.2.symm.trans hv
  have hflen := flatN_len (fun y => F.len y) D.len D.els
  rw [he1, Nat.mul_one] at hflen
  have hcD : cells E [] D.blk.v = D.pre ++ flatN e D.len D.els ++ D.post := by rw [(blk_cells (F.good _) E).1, blk_cells3 F D]
  have hcD' : cells E [] D'.blk.v = flatN e D.len D'.els := by rw [(blk_cells (F.good _) E).1, blk_cells3 F D', hpre, hpost, hlen]; simp
  have hflen' := flatN_len (fun y => F.len y) D.len D'.els
  rw [he1, Nat.mul_one] at hflen'
  refine wpList_copy_own hgd (.tmp d) (.tmp s) t t ho te ht hsz b' 0 D'.len D'.cap ⟨b, D.pre.length, none⟩ D.len D.cap vd vs _ _ hrow (flatN e D.len D.els) (by rw [hflen, hlen]; simp) ?_ (by rw [hcD']; simp [hflen, hflen']) h1c ?_
  · intro j v hj
    have hjl : j < D.len := by
      have := (List.getElem?_eq_some_iff.1 hj).1
      omega
    rw [add_spot rfl]
    unfold World.cell?
    simp only [b3]
    rw [hcD]
    simp only [List.getElem?_toArray]
    rw [List.append_assoc, List.getElem?_append_right (by omega), Nat.add_sub_cancel_left, List.getElem?_append_left (by omega)]
    exact hj
  · have hnew : cells E [] ({ D' with els := D.els } : SlD e).blk.v = flatN e D.len D.els := by
      rw [(blk_cells (D := ({ D' with els := D.els } : SlD e)) (F.good _) E).1, blk_cells3 F ({ D' with els := D.els } : SlD e)]
      show D'.pre ++ flatN e D'.len D.els ++ D'.post = _
      rw [hpre, hpost, hlen]; simp
    have q := hset ({ D' with els := D.els } : SlD e).blk ((cells E [] D'.blk.v).toArray.toList.take 0 ++ (flatN e D.len D.els ++ (cells E [] D'.blk.v).toArray.toList.drop (0 + (flatN e D.len D.els).length))).toArray rfl hfz
      (blk_cells (D := ({ D' with els := D.els } : SlD e)) (F.good _) E).2 (by
        rw [hnew, hcD']
        congr 1
        simp [hflen, hflen'])
    rw [hd]
    exact hK _ _ (tmp_set q hdst .un _ (fun _ _ => trivial))
/-- A part of a slice, by three indexes. -/
theorem step_slice3 {Es : Env} {ws : World} {st : St} {a : Act} {w : World} (hs : SRel Es ws st a w) {o : Oper} {rest : List Oper} {Q : Exit → Act → World → Prop} (hgd : o.guard = none) {x l h m : Nat} {t : TypeId}
    (ho : o.op = .slice t (.tmp x) (some (.tmp l)) (some (.tmp h)) (some (.tmp m))) {dst : Nat} (hd : o.dst = some dst) (hdst : dst < st.nt) (ht : P.underlying t = some (.slice (P.elem t))) (hsz : szT P (P.elem t) = some 1)
    {n : Nat} {p : List Stp} {len : AV} {cap : Nat} (hx : st.look x = .slc n p len cap) {k : IntKind} {lo hi : BitVec k.bits} (hl : st.look l = .int k fun _ => lo) (hh : st.look h = .int k fun _ => hi) (hm : st.look m = .int k fun _ => hi)
    (c0 : 0 ≤ toZ k lo) (c1 : toZ k lo < toZ k hi) (c2 : toZ k hi ≤ cap) {q : List Stp} {len' : AV} {cap' : Nat} (hq : offOf q = offOf p + (toZ k lo).toNat) (hlen' : (lenZ [] len').toNat = (toZ k hi).toNat - (toZ k lo).toNat) (hcap' : cap' = (toZ k hi).toNat - (toZ k lo).toNat) (hok : ∀ E, (E n).isSome = true → ok E (.slc n q len' cap'))
    (hK : ∀ a' w', SRel Es ws (st.setT dst (.slc n q len' cap')) a' w' → wpList P #[] Q rest a' w') : wpList P #[] Q (o :: rest) a w := by
  refine wpList_plain hgd fun K hKK => ?_
  obtain ⟨E, h1, _⟩ := id hs
  obtain ⟨b, b1, b2⟩ := val_slc_run (by have := h1 x; rwa [hx] at this)
  have vl : a.eval (.tmp l) = .int k (toZ k lo) := by have := h1 l; rw [hl] at this; exact this.2.symm
  have vh : a.eval (.tmp h) = .int k (toZ k hi) := by have := h1 h; rw [hh] at this; exact this.2.symm
  have vm : a.eval (.tmp m) = .int k (toZ k hi) := by have := h1 m; rw [hm] at this; exact this.2.symm
  have vx : a.eval (.tmp x) = .slice (some ⟨b, offOf p, none⟩) (lenZ [] len).toNat cap := b2
  have hr := run_slice_lhm (P := P) w t (some ⟨b, offOf p, none⟩) (lenZ [] len).toNat cap ht k k k (toZ k lo) (toZ k hi) (toZ k hi) c0 (by omega) (by omega) c2
  unfold Oper.wp execOp
  simp only [ho, vl, vh, vm, vx, Option.map_some]
  rw [Sem.run_bind, run_sliceAt_slice w t _ _ _ _ ht, hr, run_sizeOf hsz w]
  simp only [Result.andThen_ok, Sem.run_pure, Oper.upon_value]
  refine hKK _ _ (hK _ _ ?_)
  rw [hd]
  refine tmp_set hs hdst _ _ fun E' h1' => ?_
  obtain ⟨b', b1', b2'⟩ := val_slc_run (by have := h1' x; rwa [hx] at this)
  have eb : b' = b := by
    rw [b2] at b2'
    simp only [Value.slice.injEq, Option.some.injEq, Addr.mk.injEq] at b2'
    exact b2'.1.1.symm
  subst eb
  refine ⟨hok E' (by rw [b1']; rfl), ?_⟩
  simp only [valT, val, cells, b1', sliced, Option.map_some, List.headD_cons]
  rw [if_neg (by omega), add_spot rfl, hq, hlen', hcap', Nat.mul_one]
/-- One of a slice's cells is written. -/
theorem step_store (F : Flat e) (he1 : e.sz = 1) {Es : Env} {ws : World} {st : St} {a : Act} {w : World} (hs : SRel Es ws st a w) {o : Oper} {rest : List Oper} {Q : Exit → Act → World → Prop} (hgd : o.guard = none) {n : Nat} {p : List Stp} {T : TypeId} {u : AV}
    (hev : eff P (opd st.look) o.op = some (.st n p T u)) (hd : o.dst = none) {D : SlD e} (hbD : st.hp n = some D.blk) (hfz : D.fz = (0, 0)) {j : Nat} (hj : j < D.len) (hp : offOf p = D.pre.length + j) (y : e.T) (hy : ∀ E, cells E [] u = cells E0 [] (e.enc y)) (hsz : szT P T = some 1) (hnr : noRaw u = true)
    (hK : ∀ a' w', SRel Es ws (st.setB n ({ D with els := fun i => if i = j then y else D.els i } : SlD e).blk) a' w' → wpList P #[] Q rest a' w') : wpList P #[] Q (o :: rest) a w := by
  refine wpList_plain hgd fun K hKK => ?_
  obtain ⟨E, b, e1, h1, h4, h5, hrow, hset⟩ := blk_set hs hbD (show fzOf D.blk.v = (0, 0) from hfz)
  obtain ⟨b2, c1, hu, hsb, hr⟩ := eff_run hev E a (fun x _ => opd_st h1 x)
  obtain rfl : b2 = b := by rw [e1] at c1; exact (Option.some.inj c1).symm
  have hcD : cells E [] D.blk.v = D.pre ++ flatN e D.len D.els ++ D.post := by rw [(blk_cells (F.good _) E).1, blk_cells3 F D]
  have hflen : ∀ els : Nat → e.T, (flatN e D.len els).length = D.len := fun els => by
    have := flatN_len (fun y => F.len y) D.len els
    rw [he1, Nat.mul_one] at this; exact this
  have hul : (cells E [] u).length = 1 := by rw [hy E, F.len, he1]
  have hst : (storeVar T ⟨b2, offOf p, none⟩ (val E u)).run P w = .ok () (w.setRow b2 ((cells E [] D.blk.v).take (offOf p) ++ cells E [] u ++ (cells E [] D.blk.v).drop (offOf p + 1)).toArray) := by
    unfold storeVar
    rw [Sem.run_bind, run_sizeOf hsz w]
    simp only [Result.andThen_ok]
    rw [if_neg (by rw [val_cells hsb]; simp [hul])]
    rw [val_cells hsb]
    simp only [Sem.run_bind, Sem.run_pure, Result.andThen_ok, List.toList_toArray]
    have := run_storeCells_at P b2 (offOf p) D.blk.T (cells E [] u) 0 (cells E [] D.blk.v).toArray w hrow (by rw [hcD, hp]; simp [hul, hflen]; omega) (oneCell_cells u hu hnr [])
    rw [this]
    simp [hul]
  unfold Oper.wp
  rw [hr w, hst]
  simp only [Result.andThen_ok, Oper.upon_skip]
  refine hKK _ _ ?_
  rw [hd]
  have hnew : cells E [] ({ D with els := fun i => if i = j then y else D.els i } : SlD e).blk.v = D.pre ++ flatN e D.len (fun i => if i = j then y else D.els i) ++ D.post := by
    rw [(blk_cells (D := ({ D with els := fun i => if i = j then y else D.els i } : SlD e)) (F.good _) E).1, blk_cells3 F ({ D with els := fun i => if i = j then y else D.els i } : SlD e)]
  have hsplit : ∀ els : Nat → e.T, flatN e D.len els = flatN e j els ++ cells E0 [] (e.enc (els j)) ++ flatN e (D.len - j - 1) (fun i => els (j + 1 + i)) := fun els => by
    have e1 : flatN e D.len els = flatN e (j + 1) els ++ flatN e (D.len - j - 1) (fun i => els (j + 1 + i)) := by
      rw [← flatN_add, show j + 1 + (D.len - j - 1) = D.len by omega]
    have e2 : flatN e (j + 1) els = flatN e j els ++ cells E0 [] (e.enc (els j)) := by
      rw [flatN_add j 1]
      simp [flatN]
    rw [e1, e2]
  refine hK _ _ (hset _ _ rfl hfz (blk_cells (D := ({ D with els := fun i => if i = j then y else D.els i } : SlD e)) (F.good _) E).2 ?_)
  rw [hnew, hcD, hp, hsplit D.els, hsplit (fun i => if i = j then y else D.els i)]
  have hl1 : ∀ els : Nat → e.T, (flatN e j els).length = j := fun els => by
    have := flatN_len (fun y => F.len y) j els
    rw [he1, Nat.mul_one] at this; exact this
  have hl2 : (cells E0 [] (e.enc (D.els j))).length = 1 := by rw [F.len, he1]
  have g1 : flatN e j (fun i => if i = j then y else D.els i) = flatN e j D.els := flatN_congr (fun i hi => by rw [if_neg (by omega)])
  have g2 : flatN e (D.len - j - 1) (fun i => if j + 1 + i = j then y else D.els (j + 1 + i)) = flatN e (D.len - j - 1) (fun i => D.els (j + 1 + i)) := flatN_congr (fun i hi => by rw [if_neg (by omega)])
  rw [g1, g2, hy E]
  simp only [if_true]
  generalize hA : flatN e j D.els = A at *
  generalize hC : flatN e (D.len - j - 1) (fun i => D.els (j + 1 + i)) = C at *
  generalize hM : cells E0 [] (e.enc (D.els j)) = M at *
  have hA' : A.length = j := by rw [← hA]; exact hl1 _
  congr 1
  have t1 : (D.pre ++ (A ++ M ++ C) ++ D.post).take (D.pre.length + j) = D.pre ++ A := by
    have : D.pre ++ (A ++ M ++ C) ++ D.post = (D.pre ++ A) ++ (M ++ C ++ D.post) := by simp
    rw [this, show D.pre.length + j = (D.pre ++ A).length by simp [hA'], List.take_left]
  have t2 : (D.pre ++ (A ++ M ++ C) ++ D.post).drop (D.pre.length + j + 1) = C ++ D.post := by
    have : D.pre ++ (A ++ M ++ C) ++ D.post = (D.pre ++ A ++ M) ++ (C ++ D.post) := by simp
    rw [this, show D.pre.length + j + 1 = (D.pre ++ A ++ M).length by simp [hA', hl2]; omega, List.drop_left]
  rw [t1, t2]
  simp
/-! One block known at entry. -/
def enterActB (E : Env) (fn : Func) (args : List AV) : Act := { tmps := (args.map (val E)).toArray ++ Array.replicate (fn.ntmps - (args.map (val E)).toArray.size) undef, defers := [] }
/-- At a function's entry one block is known. -/
theorem enterB1 {fn : Func} {args : List AV} {B : Blk} {b : Nat} {w : World} (hlen : args.length ≤ fn.ntmps) (hargs : ∀ v ∈ args, ok (E1 b) v) (hok : ok (E1 b) B.v) (hb : w.heap[b]? = some (.cells (cells (E1 b) [] B.v).toArray B.T (fzOf B.v))) :
    SRel (E1 b) w (St.enter args (hpB B) 1 fn.ntmps) (enterActB (E1 b) fn args) w := by
  have hlt : b < w.heap.size := (Array.getElem?_eq_some_iff.1 hb).1
  have hE : ∀ m k, E1 b m = some k → m = 0 ∧ k = b := by
    intro m k hm
    unfold E1 at hm
    split at hm
    · exact ⟨rfl, by simpa using hm.symm⟩
    · cases hm
  have h9 : ∀ n, 1 ≤ n → E1 b n = none := by
    intro m hm
    unfold E1
    split
    · omega
    · rfl
  refine ⟨E1 b, ?_, ?_, rfl, ?_, ?_, ?_, h9, Tr.refl _ w, h9, Nat.le_refl _⟩
  · intro t
    simp only [St.look, St.enter, argEnt_look, Nat.zero_le, if_true, Nat.sub_zero, enterActB]
    simp only [Array.getD_eq_getD_getElem?, Array.getElem?_append]
    by_cases ht : t < args.length
    · have e : args[t]? = some args[t] := List.getElem?_eq_getElem ht
      simp only [e, List.size_toArray, List.length_map, ht, if_true]
      simp only [List.getElem?_toArray, List.getElem?_map, e, Option.map_some, Option.getD_some]
      exact TRel_of (hargs _ (List.getElem_mem ht))
    · have e : args[t]? = none := by simp; omega
      simp only [e, List.size_toArray, List.length_map, ht, if_false]
      refine ⟨trivial, ?_⟩
      simp only [Array.getElem?_replicate]
      split <;> rfl
  · simp [St.enter, enterActB]; omega
  · intro m C hm
    have hm' : hpB B m = some C := hm
    unfold hpB at hm'
    split at hm'
    · simp at hm'; subst hm'; exact ⟨b, rfl, hok, hb⟩
    · cases hm'
  · intro m m' k hm hm'
    rw [(hE m k hm).1, (hE m' k hm').1]
  · intro m k hm
    rw [(hE m k hm).2]; exact hlt
theorem results_two {fn : Func} {t u : Tmp} (h : fn.results = #[.tmp t, .tmp u]) (tmps : Array Value) (P : Program) (w : World) :
    (results fn tmps).run P w = .ok (.tuple #[tmps.getD t undef, tmps.getD u undef]) w := by
  simp [results, h]

/-! What a state is known to be. -/
def unlitM : AV → AV
  | .lit k n => if n = 0 then .int k fun _ => BitVec.ofInt _ 0 else .lit k n
  | .blit b => .bool fun _ => b
  | v => v
theorem unlitM_rel {E : Env} {v : AV} {y : Value} (h : TRel E v y) : TRel E (unlitM v) y := by
  cases v with
  | lit k n =>
    show TRel E (if n = 0 then .int k fun _ => BitVec.ofInt _ 0 else .lit k n) y
    by_cases h0 : n = 0
    · rw [if_pos h0]
      subst h0
      refine ⟨trivial, ?_⟩
      rw [← h.2]
      cases k <;> rfl
    · rw [if_neg h0]; exact h
  | blit b => exact ⟨trivial, h.2⟩
  | _ => exact h
theorem kept_consM {st : St} {n : Nat} {x : Nat × AV} {ents : List (Nat × AV)} {hbs : List (Nat × Option Blk)} (hx : ∀ E y, TRel E (st.look x.1) y → TRel E x.2 y) (hn : nltB n x.2 = true) (h : Kept st n ents hbs) : Kept st n (x :: ents) hbs :=
  ⟨fun y hy => by
    rcases List.mem_cons.1 hy with rfl | hy
    · exact ⟨hx, nltB_nlt hn⟩
    · exact h.ent y hy, h.blk, h.lo⟩
theorem kept_ofM {st : St} {n : Nat} {ents : List (Nat × AV)} {hbs : List (Nat × Option Blk)} (h1 : (ents.map fun x => unlitM (st.look x.1)) = ents.map (·.2)) (h2 : (hbs.map fun x => st.hp x.1) = hbs.map (·.2))
    (hn1 : (ents.all fun x => nltB n x.2) = true) (hn2 : (hbs.all fun x => Nat.blt x.1 n && match x.2 with | some B => nltB n B.v | none => true) = true) (hlo : Nat.ble st.lo n = true) : Kept st n ents hbs := by
  refine ⟨fun x hx => ⟨fun E y h => ?_, nltB_nlt (List.all_eq_true.1 hn1 x hx)⟩, fun x hx => ?_, Nat.le_of_ble_eq_true hlo⟩
  · have e : unlitM (st.look x.1) = x.2 := (List.map_inj_left.1 h1) x hx
    rw [← e]; exact unlitM_rel h
  · have e : st.hp x.1 = x.2 := (List.map_inj_left.1 h2) x hx
    have q := List.all_eq_true.1 hn2 x hx
    simp only [Bool.and_eq_true] at q
    refine ⟨by have := q.1; rw [Nat.blt_eq] at this; exact this, e, fun B hB => ?_⟩
    have := q.2
    rw [hB] at this
    exact nltB_nlt this
theorem norm_relM {st : St} {n nt lo : Nat} {ents : List (Nat × AV)} {hbs : List (Nat × Option Blk)} (hk : Kept st n ents hbs) (hnt : st.nt = nt) (hlo : st.lo = lo) {Es : Env} {ws : World} {a : Act} {w : World} (hs : SRel Es ws st a w) :
    SRel Es ws ⟨ents, fun _ => .un, hbs, fun _ => none, n, nt, lo⟩ a w := by
  have := hk.rel hs
  rwa [hnt, hlo] at this
end Go.Rf

/- A slice of ours appended to one with nothing. -/
namespace Go.Rf

variable {e : Sh} {P : Program}

/-- All of a slice of ours, behind a slice with nothing and no room. -/
theorem step_append_row (F : Flat e) {Es : Env} {ws : World} {st : St} {a : Act} {w : World} (hs : SRel Es ws st a w) {o : Oper} {rest : List Oper} {Q : Exit → Act → World → Prop} (hgd : o.guard = none) {s x : Nat} {t te : TypeId}
    (ho : o.op = .call { callee := .builtin .append, args := #[.tmp s, .tmp x], argTypes := #[t, t] }) {dst : Nat} (hd : o.dst = some dst) (hdst : dst < st.nt)
    {n : Nat} {p0 : List Stp} {l0 : AV} (hsv : st.look s = .slc n p0 l0 0) (hp0 : offOf p0 = 0) (hl0 : (lenZ [] l0).toNat = 0) {D : SlD e} {m : Nat} (hxv : st.look x = D.at m) (hBm : st.hp m = some D.blk) (hDp : 0 < D.len) (h1c : ∀ v ∈ flatN e D.len D.els, v.oneCell' = true)
    {ents : List (Nat × AV)} {hbs : List (Nat × Option Blk)} (hk : Kept st st.next ents hbs)
    (i : TypeInfo) (z : Value) (ht : P.underlying t = some (.slice te)) (hi : P.info? te = some i) (hz : i.zero = some z) (hsize : i.size = e.sz) (hzs : z.cells.size = e.sz) (hsmall : D.len * i.bytes ≤ 140737488355328) (hlen : D.len ≤ 140737488355328)
    (hK : ∀ (D' : SlD e) a' w', D'.Fix te → D'.len = D.len → D'.els = D.els → SRel Es ws (slSt D' st.next dst ents hbs st.nt st.lo) a' w' → wpList P #[] Q rest a' w') :
    wpList P #[] Q (o :: rest) a w := by
  obtain ⟨E, h1, h2, h3, h4, h5, h6, h7, h8, h9, h10⟩ := hs
  refine wpList_plain hgd fun K hKK => ?_
  obtain ⟨bx, x1, x2, x3⟩ := h4 m D.blk hBm
  obtain ⟨b, b1, hsval0⟩ := val_slc_run (by have := h1 s; rwa [hsv] at this)
  have hsval : a.eval (.tmp s) = .slice (some ⟨b, 0, none⟩) 0 0 := by
    rw [hp0, hl0] at hsval0; exact hsval0
  have hcell : cells E [] D.blk.v = D.pre ++ flatN e D.len D.els ++ D.post := by rw [(blk_cells (F.good _) E).1, blk_cells3 F D]
  have hnl := flatN_len F.len D.len D.els
  have hxval : a.eval (.tmp x) = .slice (some ⟨bx, D.pre.length, none⟩) D.len D.cap := by
    have h := h1 x
    rw [hxv] at h
    have hv := (at_val (D := { D with b := bx }) (n := m) x1 (by show D.len < 2 ^ 63; omega)).1
    exact h.2.symm.trans hv
  have hnews : ∀ j v, (flatN e D.len D.els)[j]? = some v → w.cell? ((⟨bx, D.pre.length, none⟩ : Addr).add j) = some v := by
    intro j v hj
    have hjl := (List.getElem?_eq_some_iff.1 hj).1
    rw [add_spot rfl, cell_of_row w bx _ _ _ _ x3]
    simp only [List.getElem?_toArray]
    rw [hcell, List.append_assoc, List.getElem?_append_right (by omega), Nat.add_sub_cancel_left, List.getElem?_append_left hjl]
    exact hj
  have holds : ∀ j v, ([] : List Value)[j]? = some v → w.cell? ((⟨b, 0, none⟩ : Addr).add j) = some v := fun j v hj => by simp at hj
  have mlen : maxLen = 2 ^ 63 - 1 := rfl
  unfold Oper.wp execOp
  simp only [ho, resolve, invoke, builtin, Sem.run_bind, Sem.run_pure, Result.andThen_ok, List.map_toArray, List.map_cons, List.map_nil, hsval, hxval]
  have hr := run_append_grow (P := P) w t o.type te i z ht hi hz ⟨b, 0, none⟩ 0 0 [] (by simp) holds ⟨bx, D.pre.length, none⟩ D.len D.cap (flatN e D.len D.els) (by rw [hsize]; exact hnl) hnews (by omega) (by omega) (growslice_fits (by omega) (by rw [Nat.zero_add]; exact hsmall))
  rw [Nat.zero_add] at hr
  rw [hr]
  simp only [Result.andThen_ok, Oper.upon_value]
  have hge := grownCap_ge w D.len 0 te
  have hcm : grownCap w D.len 0 te ≤ maxLen := grownCap_le_maxLen w D.len 0 te (by omega)
  let zs := Builtin.zeroCells z.cells (grownCap w D.len 0 te - D.len)
  let D' : SlD e := ⟨w.heap.size, D.len, grownCap w D.len 0 te, [], zs.toList, te, (0, 0), D.els⟩
  have hcells : (cells E0 [] D'.blk.v).toArray = ([] : List Value).toArray ++ (flatN e D.len D.els).toArray ++ zs := by
    rw [blk_row F rfl]
    apply Array.ext'
    show flatN e D.len D.els ++ zs.toList = _
    simp
  have hOwn : D'.Own te (w.drew.alloc (.cells (([] : List Value).toArray ++ (flatN e D.len D.els).toArray ++ zs) te)) := by
    refine ⟨?_, hge, rfl, rfl, rfl, ?_, hcm⟩
    · show (w.drew.alloc _).heap[w.heap.size]? = _
      rw [hcells]
      exact heap_alloc_new w.drew _
    · show zs.toList.length = (grownCap w D.len 0 te - D.len) * e.sz
      rw [Array.length_toList, size_zeroCells, hzs]
  refine hKK _ _ (hK D' _ _ hOwn.fix rfl rfl ?_)
  rw [hd]
  exact slice_in h1 h2 h3 h4 h5 h6 h8 h9 hk hdst hOwn (F.good _) rfl rfl rfl (by simp) (fun q hq _ _ => heap_alloc_old w.drew _ q hq) (.inr (Nat.le_refl _))
/-- A slice's beginning: its end told. -/
theorem step_sliceH {Es : Env} {ws : World} {st : St} {a : Act} {w : World} (hs : SRel Es ws st a w) {o : Oper} {rest : List Oper} {Q : Exit → Act → World → Prop} (hgd : o.guard = none) {x h : Nat} {t : TypeId}
    (ho : o.op = .slice t (.tmp x) none (some (.tmp h)) none) {dst : Nat} (hd : o.dst = some dst) (hdst : dst < st.nt) (ht : P.underlying t = some (.slice (P.elem t))) (hsz : szT P (P.elem t) = some 1)
    {n : Nat} {p : List Stp} {len : AV} {cap : Nat} (hx : st.look x = .slc n p len cap) {k : IntKind} {hi : BitVec k.bits} (hh : st.look h = .int k fun _ => hi)
    (c1 : 0 ≤ toZ k hi) (c2 : toZ k hi ≤ cap) {len' : AV} (hlen' : (lenZ [] len').toNat = (toZ k hi).toNat)
    (hK : ∀ a' w', SRel Es ws (st.setT dst (.slc n p len' cap)) a' w' → wpList P #[] Q rest a' w') : wpList P #[] Q (o :: rest) a w := by
  refine wpList_plain hgd fun K hKK => ?_
  obtain ⟨E, h1, _⟩ := id hs
  obtain ⟨b, b1, b2⟩ := val_slc_run (by have := h1 x; rwa [hx] at this)
  have vh : a.eval (.tmp h) = .int k (toZ k hi) := by have := h1 h; rw [hh] at this; exact this.2.symm
  have vx : a.eval (.tmp x) = .slice (some ⟨b, offOf p, none⟩) (lenZ [] len).toNat cap := b2
  have hr := run_slice_h (P := P) w t (some ⟨b, offOf p, none⟩) (lenZ [] len).toNat cap ht k (toZ k hi) c1 c2
  unfold Oper.wp execOp
  simp only [ho, vh, vx, Option.map_some, Option.map_none]
  rw [Sem.run_bind, run_sliceAt_slice w t _ _ _ _ ht, hr, run_sizeOf hsz w]
  simp only [Result.andThen_ok, Sem.run_pure, Oper.upon_value]
  refine hKK _ _ (hK _ _ ?_)
  rw [hd]
  refine tmp_set hs hdst _ _ fun E' h1' => ?_
  obtain ⟨b', b1', b2'⟩ := val_slc_run (by have := h1' x; rwa [hx] at this)
  have eb : b' = b := by
    rw [b2] at b2'
    simp only [Value.slice.injEq, Option.some.injEq, Addr.mk.injEq] at b2'
    exact b2'.1.1.symm
  subst eb
  refine ⟨(show (E' n).isSome = true by rw [b1']; rfl), ?_⟩
  have hadd : (⟨b', offOf p, none⟩ : Addr).add 0 = ⟨b', offOf p, none⟩ := by rw [add_spot rfl]; simp
  simp only [valT, val, cells, b1', sliced, Option.map_some, List.headD_cons, Nat.zero_mul, hadd, ite_self, Nat.sub_zero, hlen']
/-- A slice literal with nothing. -/
theorem step_build0 (F : Flat e) {Es : Env} {ws : World} {st : St} {a : Act} {w : World} (hs : SRel Es ws st a w) {o : Oper} {rest : List Oper} {Q : Exit → Act → World → Prop} (hgd : o.guard = none) {t te : TypeId}
    (ho : o.op = .buildSlice t 0 #[]) {dst : Nat} (hd : o.dst = some dst) (hdst : dst < st.nt) {ents : List (Nat × AV)} {hbs : List (Nat × Option Blk)} (hk : Kept st st.next ents hbs)
    (i : TypeInfo) (els : Nat → e.T) (ht : P.underlying t = some (.slice te)) (hi : P.info? te = some i)
    (hK : ∀ (D' : SlD e) a' w', D'.Fix te → D'.len = 0 → D'.cap = 0 → SRel Es ws (slSt D' st.next dst ents hbs st.nt st.lo) a' w' → wpList P #[] Q rest a' w') : wpList P #[] Q (o :: rest) a w := by
  obtain ⟨E, h1, h2, h3, h4, h5, h6, h7, h8, h9, h10⟩ := hs
  refine wpList_plain hgd fun K hKK => ?_
  have hr : (Instr.buildSlice t 0 #[]).run P w = .ok (.slice (some ⟨w.heap.size, 0, none⟩) 0 0) (w.alloc (.cells #[] te)) := by
    simp [Instr.buildSlice, run_underlying ht, sizeOf, typeInfo, hi, newRow, Instr.fill]
    have e0 : Array.map (fun _ : Nat => (default : Value)) (Array.range 0) = #[] := by apply Array.ext'; simp
    rw [e0]
  unfold Oper.wp execOp
  simp only [ho, Array.map_empty]
  rw [Sem.run_bind, hr]
  simp only [Result.andThen_ok, Sem.run_pure, Oper.upon_value]
  let D' : SlD e := ⟨w.heap.size, 0, 0, [], [], te, (0, 0), els⟩
  have hc : (cells E0 [] D'.blk.v).toArray = #[] := by
    rw [blk_row F rfl]
    rfl
  have hOwn : D'.Own te (w.alloc (.cells #[] te)) := ⟨by
    show (w.alloc _).heap[w.heap.size]? = _
    rw [hc]
    exact heap_alloc_new w _, Nat.le_refl _, rfl, rfl, rfl, by simp [D'], Nat.zero_le _⟩
  refine hKK _ _ (hK D' _ _ hOwn.fix rfl rfl ?_)
  rw [hd]
  exact slice_in h1 h2 h3 h4 h5 h6 h8 h9 hk hdst hOwn (F.good _) rfl rfl rfl (by simp) (fun q hq _ _ => heap_alloc_old w _ q hq) (.inr (Nat.le_refl _))
end Go.Rf
