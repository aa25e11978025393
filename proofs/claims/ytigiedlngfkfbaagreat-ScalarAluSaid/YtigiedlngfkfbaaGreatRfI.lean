/- Several texts as one: Rf31 Rf32 Rf33 Rf34. -/
import Derived.Test.YtigiedlngfkfbaaGreatRfH
import Derived.Laws.MakeOwn
set_option linter.unusedVariables false
set_option linter.unusedSimpArgs false

/- Slices made: append to none; make. -/
namespace Go.Rf

variable {e : Sh} {P : Program}

/-- Some elements appended to none. -/
theorem step_append_nil (F : Flat e) {Es : Env} {ws : World} {st : St} {a : Act} {w : World} (hs : SRel Es ws st a w) {o : Oper} {rest : List Oper} {Q : Exit → Act → World → Prop} (hgd : o.guard = none) {sO : Operand} {x : Nat} {t te : TypeId}
    (ho : o.op = .call { callee := .builtin .append, args := #[sO, .tmp x], argTypes := #[t, t] }) {dst : Nat} (hd : o.dst = some dst) (hdst : dst < st.nt)
    (hsv : a.eval sO = .slice none 0 0)
    {m k c : Nat} {B2 : Blk} {ys : Nat → e.T} (hxv : st.look x = .slc m [] (.lit .i64 k) c) (hB2 : st.hp m = some B2) (hnr : noRaw B2.v = true) (hc : ∀ E, cells E [] B2.v = flatN e k ys)
    {ents : List (Nat × AV)} {hbs : List (Nat × Option Blk)} (hk : Kept st st.next ents hbs)
    (i : TypeInfo) (z : Value) (ht : P.underlying t = some (.slice te)) (hi : P.info? te = some i) (hz : i.zero = some z) (hsize : i.size = e.sz) (hzs : z.cells.size = e.sz) (hsmall : k * i.bytes ≤ 140737488355328) (hlen : k ≤ 140737488355328) (hpos : 0 < k)
    (hK : ∀ (D' : SlD e) a' w', D'.Fix te → D'.len = k → D'.els = ys → SRel Es ws (slSt D' st.next dst ents hbs st.nt st.lo) a' w' → wpList P #[] Q rest a' w') :
    wpList P #[] Q (o :: rest) a w := by
  obtain ⟨E, h1, h2, h3, h4, h5, h6, h7, h8, h9, h10⟩ := hs
  refine wpList_plain hgd fun K hKK => ?_
  obtain ⟨bx, x1, x2, x3⟩ := h4 m B2 hB2
  have hfx : fzOf B2.v = (0, 0) := fz_notRaw (by
    cases hv : B2.v <;> first
      | rfl
      | (rw [hv] at hnr; simp [noRaw] at hnr))
  have hrowx : w.heap[bx]? = some (.cells (flatN e k ys).toArray B2.T (0, 0)) := by rw [x3, hc, hfx]
  have hnl := flatN_len F.len k ys
  have hxval : a.eval (.tmp x) = .slice (some ⟨bx, 0, none⟩) k c := by
    have := h1 x
    rw [hxv] at this
    show a.tmps.getD x undef = _
    rw [← this.2]
    simp [valT, val, cells, lenZ, x1, offOf]
  have hnews : ∀ j v, (flatN e k ys)[j]? = some v → w.cell? ((⟨bx, 0, none⟩ : Addr).add j) = some v := by
    intro j v hj
    rw [add_spot rfl, cell_of_row w bx _ _ _ _ hrowx]
    simpa using hj
  have mlen : maxLen = 2 ^ 63 - 1 := rfl
  have fin : ∀ (D' : SlD e) (w' : World), D'.Own te w' → D'.len = k → D'.els = ys → w'.os = w.os → w'.tape = w.tape → w'.output = w.output → w.heap.size ≤ w'.heap.size →
      (∀ q, q < w.heap.size → w'.heap[q]? = w.heap[q]?) → w.heap.size ≤ D'.b → K (a.put o.dst D'.value) w' := by
    intro D' w' hD' e1 e2 g1 g2 g3 g4 g5 g6
    refine hKK _ _ (hK D' _ w' hD'.fix e1 e2 ?_)
    rw [hd]
    exact slice_in h1 h2 h3 h4 h5 h6 h8 h9 hk hdst hD' (F.good _) g1 g2 g3 g4 (fun q hq _ _ => g5 q hq) (.inr g6)
  unfold Oper.wp execOp
  simp only [ho, resolve, invoke, builtin, Sem.run_bind, Sem.run_pure, Result.andThen_ok, List.map_toArray, List.map_cons, List.map_nil, hsv, hxval]
  have hr := run_append_nil (P := P) w t o.type te i z ht hi hz ⟨bx, 0, none⟩ k c (flatN e k ys) (by rw [hsize]; exact hnl) hnews hpos (by omega) (by omega)
  rw [hr]
  simp only [Result.andThen_ok, Oper.upon_value]
  have hge := grownCap_ge w k 0 te
  have hcm : grownCap w k 0 te ≤ maxLen := grownCap_le_maxLen w k 0 te (by omega)
  let zs := Builtin.zeroCells z.cells (grownCap w k 0 te - k)
  let D' : SlD e := ⟨w.heap.size, k, grownCap w k 0 te, [], zs.toList, te, (0, 0), ys⟩
  have hcells : (cells E0 [] D'.blk.v).toArray = (flatN e k ys).toArray ++ zs := by
    rw [blk_row F rfl]
    apply Array.ext'
    show flatN e k ys ++ zs.toList = _
    simp
  refine fin D' _ ⟨?_, hge, rfl, rfl, rfl, ?_, hcm⟩ rfl rfl rfl rfl rfl (by simp) ?_ (Nat.le_refl _)
  · show (w.drew.alloc _).heap[w.heap.size]? = _
    rw [hcells]
    exact heap_alloc_new w.drew _
  · show zs.toList.length = (grownCap w k 0 te - k) * e.sz
    rw [Array.length_toList, size_zeroCells, hzs]
  · intro q hq
    exact heap_alloc_old w.drew _ q hq

/-- A slice of so many zero values. -/
theorem step_make (F : Flat e) {Es : Env} {ws : World} {st : St} {a : Act} {w : World} (hs : SRel Es ws st a w) {o : Oper} {rest : List Oper} {Q : Exit → Act → World → Prop} (hgd : o.guard = none) {lO cO : Operand} {t te : TypeId}
    (ho : o.op = .makeSlice t lO cO) {dst : Nat} (hd : o.dst = some dst) (hdst : dst < st.nt) {k : Nat} {kl kc : IntKind}
    (hl : a.eval lO = .int kl k) (hcv : a.eval cO = .int kc k)
    {ents : List (Nat × AV)} {hbs : List (Nat × Option Blk)} (hk : Kept st st.next ents hbs)
    (i : TypeInfo) (z : Value) (zero : e.T) (ht : P.underlying t = some (.slice te)) (hi : P.info? te = some i) (hz : i.zero = some z) (hsize : i.size = e.sz) (hzs : z.cells.toList = cells E0 [] (e.enc zero)) (hsmall : i.bytes * k ≤ 281474976710656) (hlen : k ≤ maxLen)
    (hK : ∀ (D' : SlD e) a' w', D'.Fix te → D'.len = k → D'.els = (fun _ => zero) → D'.cap = k → SRel Es ws (slSt D' st.next dst ents hbs st.nt st.lo) a' w' → wpList P #[] Q rest a' w') :
    wpList P #[] Q (o :: rest) a w := by
  obtain ⟨E, h1, h2, h3, h4, h5, h6, h7, h8, h9, h10⟩ := hs
  refine wpList_plain hgd fun K hKK => ?_
  unfold Oper.wp execOp
  have mlen : maxLen = 2 ^ 63 - 1 := rfl
  have hb : (i.bytes : Int) * (k : Int) ≤ 281474976710656 := by
    have h : ((i.bytes * k : Nat) : Int) ≤ 281474976710656 := by omega
    rwa [Int.natCast_mul] at h
  have hr := run_make (P := P) w t te i z ht hi hz kl kc k k (by omega) (Int.le_refl _) hb (by omega)
  simp only [Int.toNat_natCast] at hr
  simp only [ho, hl, hcv]
  rw [Sem.run_bind, hr]
  simp only [Result.andThen_ok, Sem.run_pure, Oper.upon_value]
  have hzl : z.cells.size = e.sz := by
    have := congrArg List.length hzs
    rw [F.len] at this
    simpa using this
  have hcells : (madeCells z.cells (k * i.size)).toList = flatN e k fun _ => zero := by
    rw [hsize]
    have key : ∀ n, (madeCells z.cells (n * e.sz)).toList = flatN e n fun _ => zero := by
      intro n
      induction n with
      | zero => simp [madeCells, flatN]
      | succ n ih =>
        rw [flatN_add n 1, ← ih]
        unfold madeCells
        rw [Nat.succ_mul]
        apply List.ext_getElem?
        intro j
        simp only [Array.toList_map, Array.toList_range, List.getElem?_map]
        by_cases hj : j < n * e.sz
        · rw [List.getElem?_append_left (by simpa using hj), List.getElem?_map]
          simp [List.getElem?_range, hj, Nat.lt_of_lt_of_le hj (Nat.le_add_right _ _)]
        · rw [List.getElem?_append_right (by simpa using hj)]
          simp only [List.length_map, List.length_range]
          have e1 : flatN e 1 (fun i => zero) = z.cells.toList := by rw [hzs]; simp [flatN]
          rw [e1]
          by_cases hj2 : j < n * e.sz + e.sz
          · rw [List.getElem?_range hj2]
            have hm : j % z.cells.size = j - n * e.sz := by
              rw [hzl]
              have : j = (j - n * e.sz) + n * e.sz := by omega
              rw [this, Nat.add_mul_mod_self_right, Nat.mod_eq_of_lt (by omega)]
              omega
            have hlt : j - n * e.sz < z.cells.size := by omega
            simp only [Option.map_some, hm, Array.getElem?_toList]
            rw [getElem!_pos z.cells _ hlt, Array.getElem?_eq_getElem hlt]
          · rw [List.getElem?_eq_none (by simp; omega), List.getElem?_eq_none (by simp; omega)]
            rfl
    exact key k
  let D' : SlD e := ⟨w.heap.size, k, k, [], [], te, (0, 0), fun _ => zero⟩
  have hrow : (cells E0 [] D'.blk.v).toArray = madeCells z.cells (k * i.size) := by
    rw [blk_row F rfl]
    apply Array.ext'
    show flatN e k (fun _ => zero) ++ [] = _
    rw [hcells]; simp
  have hD : D'.Own te (w.alloc (.cells (madeCells z.cells (k * i.size)) te)) := ⟨by
    show (w.alloc _).heap[w.heap.size]? = _
    rw [hrow]
    exact heap_alloc_new w _, Nat.le_refl _, rfl, rfl, rfl, by simp [D'], hlen⟩
  refine hKK _ _ (hK D' _ _ hD.fix rfl rfl rfl ?_)
  rw [hd]
  exact slice_in h1 h2 h3 h4 h5 h6 h8 h9 hk hdst hD (F.good _) rfl rfl rfl (by simp) (fun q hq _ _ => heap_alloc_old w _ q hq) (.inr (Nat.le_refl _))
end Go.Rf

/- Blocks that come in by any value; what is known, said otherwise; calls that give a block. -/
namespace Go.Rf

variable {e : Sh} {P : Program}

/-- What is known of a state, said otherwise and held fast: these temporaries and blocks, all named below n. -/
structure KeptR (st : St) (n : Nat) (ents : List (Nat × AV)) (hbs : List (Nat × Option Blk)) : Prop where
  ent : ∀ x ∈ ents, (∀ E y, TRel E (st.look x.1) y → TRel E x.2 y) ∧ nlt n x.2
  blk : ∀ x ∈ hbs, x.1 < n ∧ ∀ B', x.2 = some B' → nlt n B'.v ∧ ∃ B, st.hp x.1 = some B ∧ B.T = B'.T ∧ fzOf B.v = fzOf B'.v ∧ ∀ E, ok E B.v → ok E B'.v ∧ cells E [] B.v = cells E [] B'.v
  lo : st.lo ≤ n
theorem Kept.toR {st : St} {n : Nat} {ents : List (Nat × AV)} {hbs : List (Nat × Option Blk)} (h : Kept st n ents hbs) : KeptR st n ents hbs :=
  ⟨h.ent, fun x hx => by
    obtain ⟨h1, h2, h3⟩ := h.blk x hx
    refine ⟨h1, fun B' hB => ⟨h3 B' hB, B', by rw [h2, hB], rfl, rfl, fun E hE => ⟨hE, rfl⟩⟩⟩, h.lo⟩

/-- A state of so much and a block with the name n, and what is put for it. -/
def bkSt (X : AV) (B : Blk) (n : Nat) (dst : Nat) (ents : List (Nat × AV)) (hbs : List (Nat × Option Blk)) (nt lo : Nat) : St :=
  ⟨(dst, X) :: ents, fun _ => .un, (n, some B) :: hbs, fun _ => none, n + 1, nt, lo⟩

theorem block_in {Es : Env} {ws : World} {st : St} {a : Act} {w : World} {E : Env} (h1 : ∀ t, TRel E (st.look t) (a.tmps.getD t undef)) (h2 : a.tmps.size = st.nt) (h3 : a.defers = []) (h4 : HRel E st.hp w) (h5 : Inj E) (h6 : Bd E w)
    (h8 : Tr Es ws E w) (h9 : ∀ n, st.lo ≤ n → Es n = none) {n dst : Nat} {ents : List (Nat × AV)} {hbs : List (Nat × Option Blk)} (hk : KeptR st n ents hbs) (hdst : dst < st.nt)
    {B : Blk} {b0 : Nat} {X : AV} {x : Value} {w' : World} (hB : ∀ E', ok E' B.v ∧ w'.heap[b0]? = some (.cells (cells E' [] B.v).toArray B.T (fzOf B.v))) (hX : ∀ E', E' n = some b0 → TRel E' X x)
    (os : w'.os = w.os) (tape : w'.tape = w.tape) (output : w'.output = w.output) (size : w.heap.size ≤ w'.heap.size) (block : ∀ k, k < w.heap.size → k ≠ b0 → E n ≠ some k → w'.heap[k]? = w.heap[k]?)
    (hb : E n = some b0 ∨ w.heap.size ≤ b0) :
    SRel Es ws (bkSt X B n dst ents hbs st.nt st.lo) (a.put (some dst) x) w' := by
  let E' : Env := fun m => if m < n then E m else if m = n then some b0 else none
  have hn : E' n = some b0 := by simp [E']
  have hlow : ∀ m, m < n → E' m = E m := fun m hm => by simp [E', hm]
  have hsub : Sub (cut n E) E' := by
    intro m b hm
    simp only [cut] at hm
    split at hm
    · rename_i hmn; rw [hlow m hmn]; exact hm
    · simp at hm
  have hrow : b0 < w'.heap.size := (Array.getElem?_eq_some_iff.1 (hB E').2).1
  have hne : ∀ m b, m < n → E m = some b → b ≠ b0 := by
    intro m b hm hmb e
    subst e
    rcases hb with h | h
    · have := h5 m n _ hmb h
      omega
    · have := h6 m _ hmb
      omega
  refine ⟨E', ?_, by rw [put_size]; exact h2, by rw [put_df]; exact h3, ?_, ?_, ?_, ?_, ?_, h9, Nat.le_succ_of_le hk.lo⟩
  · intro t
    rw [put_getD a (some dst) x t (fun k hk => by cases hk; rw [h2]; exact hdst)]
    show TRel E' (match lookL ((dst, X) :: ents) t with | some v => v | none => .un) _
    simp only [lookL, Option.some.injEq]
    by_cases hd : dst = t
    · subst hd
      simp only [beq_self_eq_true, if_true]
      exact hX E' hn
    · have hd' : (dst == t) = false := by simpa using hd
      simp only [hd', Bool.false_eq_true, if_false, hd]
      cases hl : lookL ents t with
      | none => trivial
      | some v =>
        obtain ⟨k1, k2⟩ := hk.ent _ (lookL_mem hl)
        exact TRel_mono hsub (TRel_cut (k1 E _ (h1 t)) k2)
  · intro m C hC
    have hB' : (match hwL ((n, some B) :: hbs) m with | some b => b | none => none) = some C := hC
    simp only [hwL] at hB'
    by_cases hm : n = m
    · subst hm
      simp only [beq_self_eq_true, if_true, Option.some.injEq] at hB'
      subst hB'
      exact ⟨b0, hn, (hB E').1, (hB E').2⟩
    · have hm' : (n == m) = false := by simpa using hm
      simp only [hm', Bool.false_eq_true, if_false] at hB'
      cases hl : hwL hbs m with
      | none => rw [hl] at hB'; cases hB'
      | some v =>
        rw [hl] at hB'
        simp only at hB'
        subst hB'
        obtain ⟨k1, k2⟩ := hk.blk _ (hwL_mem2 hl)
        obtain ⟨k3, B1, q1, q2, q3, q4⟩ := k2 C rfl
        simp only at k1 q1
        obtain ⟨b, b1, b2, b3⟩ := h4 m B1 q1
        obtain ⟨o1, o2⟩ := q4 E b2
        refine ⟨b, by rw [hlow m k1]; exact b1, ok_mono hsub (ok_cut o1 k3), ?_⟩
        have hcut : ok (cut n E) C.v := ok_cut o1 k3
        rw [cells_mono hsub hcut, ← cells_mono (cut_sub n E) hcut]
        rw [block b (h6 m b b1) (hne m b k1 b1) (fun h => by have := h5 m n b b1 h; omega)]
        rw [b3, o2, q2, q3]
  · intro m m' b hm hm'
    simp only [E'] at hm hm'
    split at hm <;> split at hm'
    · exact h5 m m' b hm hm'
    · rename_i q1 q2
      split at hm' <;> simp at hm'
      exact absurd hm'.symm (hne m b q1 hm)
    · rename_i q1 q2
      split at hm <;> simp at hm
      exact absurd hm.symm (hne m' b q2 hm')
    · split at hm <;> simp at hm
      split at hm' <;> simp at hm'
      omega
  · intro m b hm
    simp only [E'] at hm
    split at hm
    · exact Nat.lt_of_lt_of_le (h6 m b hm) size
    · split at hm <;> simp at hm
      omega
  · intro m hm
    have : n + 1 ≤ m := hm
    simp only [E']
    rw [if_neg (by omega), if_neg (by omega)]
  · have hEs : ∀ m, n ≤ m → Es m = none := fun m hm => h9 m (Nat.le_trans hk.lo hm)
    refine ⟨?_, ?_, os.trans h8.os, tape.trans h8.tape, output.trans h8.output, Nat.le_trans h8.size size, ?_⟩
    · intro m b hm
      have : m < n := Classical.byContradiction fun hne => by rw [hEs m (by omega)] at hm; cases hm
      rw [hlow m this]
      exact h8.sub m b hm
    · intro m b hm
      simp only [E'] at hm
      split at hm
      · exact h8.new m b hm
      · split at hm <;> simp at hm
        subst hm
        right
        rcases hb with h | h
        · rcases h8.new n _ h with h' | h'
          · rw [hEs n (Nat.le_refl n)] at h'; cases h'
          · exact h'
        · exact Nat.le_trans h8.size h
    · intro k hk1 hk2
      rw [block k (Nat.lt_of_lt_of_le hk1 h8.size) ?_ ?_, h8.keep k hk1 hk2]
      · intro hkb
        rcases hb with h | h
        · rcases h8.new n _ h with h' | h'
          · rw [hEs n (Nat.le_refl n)] at h'; cases h'
          · omega
        · have := h8.size
          omega
      · intro h
        rcases h8.new n _ h with h' | h'
        · rw [hEs n (Nat.le_refl n)] at h'; cases h'
        · omega

/-- What is kept alone, said otherwise. -/
theorem KeptR.rel {Es : Env} {ws : World} {st : St} {a : Act} {w : World} (hs : SRel Es ws st a w) {n : Nat} {ents : List (Nat × AV)} {hbs : List (Nat × Option Blk)} (hk : KeptR st n ents hbs) :
    SRel Es ws ⟨ents, fun _ => .un, hbs, fun _ => none, n, st.nt, st.lo⟩ a w := by
  obtain ⟨E, h1, h2, h3, h4, h5, h6, h7, h8, h9, h10⟩ := hs
  refine ⟨cut n E, ?_, h2, h3, ?_, ?_, ?_, ?_, ?_, h9, hk.lo⟩
  · intro t
    show TRel (cut n E) (match lookL ents t with | some v => v | none => .un) _
    cases hl : lookL ents t with
    | none => trivial
    | some v =>
      obtain ⟨k1, k2⟩ := hk.ent _ (lookL_mem hl)
      exact TRel_cut (k1 E _ (h1 t)) k2
  · intro m B hB
    have hB' : (match hwL hbs m with | some b => b | none => none) = some B := hB
    cases hl : hwL hbs m with
    | none => rw [hl] at hB'; cases hB'
    | some v =>
      rw [hl] at hB'
      simp only at hB'
      subst hB'
      obtain ⟨k1, k2⟩ := hk.blk _ (hwL_mem2 hl)
      obtain ⟨k3, B1, q1, q2, q3, q4⟩ := k2 B rfl
      simp only at k1 q1
      obtain ⟨b, b1, b2, b3⟩ := h4 m B1 q1
      obtain ⟨o1, o2⟩ := q4 E b2
      have hcut : ok (cut n E) B.v := ok_cut o1 k3
      refine ⟨b, by simp [cut, k1, b1], hcut, ?_⟩
      rw [← cells_mono (cut_sub n E) hcut, ← o2, ← q2, ← q3]
      exact b3
  · intro m m' b hm hm'
    exact h5 m m' b (cut_sub n E m b hm) (cut_sub n E m' b hm')
  · intro m b hm
    exact h6 m b (cut_sub n E m b hm)
  · intro m hm
    have : n ≤ m := hm
    simp only [cut]
    rw [if_neg (by omega)]
  · refine ⟨?_, ?_, h8.os, h8.tape, h8.output, h8.size, h8.keep⟩
    · intro m b hm
      have : m < n := Classical.byContradiction fun hne => by rw [h9 m (Nat.le_trans hk.lo (by omega))] at hm; cases hm
      simp only [cut, this, if_true]
      exact h8.sub m b hm
    · intro m b hm
      exact h8.new m b (cut_sub n E m b hm)

/-- A call that gives a block: what is put for it, the block's value, told by some data. -/
theorem step_callB {Δ : Type} {Es : Env} {ws : World} {st : St} {a : Act} {w : World} (hs : SRel Es ws st a w) {o : Oper} {rest : List Oper} {f : FuncId} {args : List AV} {Q : Exit → Act → World → Prop}
    (hgd : o.guard = none) (hev : eff P (opd st.look) o.op = some (.call f args)) (X : Δ → AV) (B : Δ → Blk) (Φ : Δ → Prop)
    (hm : ∀ E, HRel E st.hp w → (∀ v ∈ args, ok E v) → Calls P f (args.map (val E)).toArray w fun x w' => ∃ (δ : Δ) (v : Value) (b : Nat), x = .returned v ∧ Φ δ ∧ (∀ E', E' st.next = some b → TRel E' (X δ) v) ∧
      (∀ E', ok E' (B δ).v ∧ w'.heap[b]? = some (.cells (cells E' [] (B δ).v).toArray (B δ).T (fzOf (B δ).v))) ∧ w.heap.size ≤ b ∧ RowKit.Below w.heap.size w w')
    {dst : Nat} (hd : o.dst = some dst) (hdst : dst < st.nt) {ents : List (Nat × AV)} {hbs : List (Nat × Option Blk)} (hk : KeptR st st.next ents hbs)
    (hK : ∀ (δ : Δ) a' w', Φ δ → SRel Es ws (bkSt (X δ) (B δ) st.next dst ents hbs st.nt st.lo) a' w' → wpList P #[] Q rest a' w') :
    wpList P #[] Q (o :: rest) a w := by
  obtain ⟨E, h1, h2, h3, h4, h5, h6, h7, h8, h9, h10⟩ := hs
  refine wpList_plain hgd fun K hKK => ?_
  obtain ⟨ha, hr⟩ := eff_run hev E a (fun x _ => opd_st h1 x)
  unfold Oper.wp
  rw [hr w, Oper.upon_enter]
  refine (hm E h4 ha).mono ?_
  rintro x w' ⟨δ, v, b, rfl, hΦ, hX, hB, hb, hbel⟩
  refine hKK _ _ (hK δ _ w' hΦ ?_)
  rw [hd]
  exact block_in h1 h2 h3 h4 h5 h6 h8 h9 hk hdst hB hX hbel.os hbel.tape hbel.output hbel.size (fun k hk _ _ => hbel.block k hk) (.inr hb)
end Go.Rf

/- A region that draws its order, whose last operations wait for all ahead of them. -/
namespace Go.Rf

/-- From n on each operation waits for all ahead of it. -/
def waitAll (ops : Array Oper) (n : Nat) : Bool :=
  (List.range ops.size).all fun i => i < n || (List.range i).all fun j => ((masks ops.toList []).getD i 0).testBit j

section
variable {P : Program} {ops A : Array Oper} {Q : Exit → Act → World → Prop}

theorem mem_ready_iff {listed : Array Bool} {i : Nat} : i ∈ Region.ready .any ops listed ↔ listed.getD i true = false ∧ ∃ o, ops[i]? = some o ∧ ∀ e ∈ o.after, Region.binds .any e = true → listed.getD e.on false = true := mem_ready

theorem DC.put {listed : Array Bool} (hd : DC ops (fun j => listed.getD j false)) {i : Nat} (hi : i ∈ Region.ready .any ops listed) : DC ops (fun j => (listed.setIfInBounds i true).getD j false) := by
  obtain ⟨h0, o, ho, hall⟩ := mem_ready_iff.1 hi
  have hready := hd.ready ho hall
  intro j hj k hk
  by_cases hji : j = i
  · subst hji
    exact getD_set_true (hready k hk)
  · have hj' : listed.getD j false = true := by
      have : (listed.setIfInBounds i true).getD j false = true := hj
      rwa [getD_set_ne false (Ne.symm hji)] at this
    exact getD_set_true (hd j hj' k hk)

/-- The last ones, in their order. -/
theorem any_tail (hback : backOk ops = true) (hg : noGd ops.toList = true) {n : Nat} (hw : waitAll ops n = true) : ∀ (m k : Nat), k + m = ops.size → n ≤ k → ∀ (listed : Array Bool) (a : Act) (w : World), listed.size = ops.size →
    (∀ j, j < ops.size → listed.getD j false = decide (j < k)) → DC ops (fun j => listed.getD j false) → wpList P #[] Q (ops.toList.drop k) a w → wpAny P .any ops Q m listed a w := by
  have hgo := noGd_spec hg
  intro m
  induction m with
  | zero =>
    intro k hk hn listed a w hsz hl hd h
    obtain rfl : k = ops.size := by omega
    have hr : Region.ready .any ops listed = [] := by
      refine List.eq_nil_iff_forall_not_mem.2 fun j hj => ?_
      obtain ⟨h0, o, ho, _⟩ := mem_ready_iff.1 hj
      have hlt : j < ops.size := (Array.getElem?_eq_some_iff.1 ho).1
      have h1 := hl j hlt
      have : j < listed.size := by omega
      simp [this] at h0 h1
      rw [h0] at h1
      simp at h1
      omega
    have : ops.toList.drop ops.size = [] := by simp
    rw [this] at h
    exact ⟨hr, h⟩
  | succ m ih =>
    intro k hk hn listed a w hsz hl hd h
    have hklt : k < ops.size := by omega
    have hkl : k < listed.size := by omega
    have hko : ops[k]? = some ops[k] := Array.getElem?_eq_getElem hklt
    -- k is ready
    have hkr : k ∈ Region.ready .any ops listed := by
      refine mem_ready_iff.2 ⟨?_, ops[k], hko, ?_⟩
      · have := hl k hklt
        simp [hkl] at this ⊢
        exact this
      · intro e he hb
        unfold backOk at hback
        rw [List.all_eq_true] at hback
        have h1 := hback k (by simpa using hklt)
        simp only [hko, List.all_eq_true] at h1
        have h2 := h1 e (by simpa using he)
        simp only [hb, Bool.not_true, Bool.false_or, decide_eq_true_eq] at h2
        rw [hl e.on (by omega)]
        simpa using h2
    have honly : ∀ i, i ∈ Region.ready .any ops listed → i = k := by
      intro i hi
      obtain ⟨h0, o, ho, hall⟩ := mem_ready_iff.1 hi
      have hilt : i < ops.size := (Array.getElem?_eq_some_iff.1 ho).1
      have hil : i < listed.size := by omega
      have h1 := hl i hilt
      simp [hil] at h0 h1
      rw [h0] at h1
      simp at h1
      by_cases hik : i = k
      · exact hik
      · exfalso
        have hm : ((masks ops.toList []).getD i 0).testBit k = true := by
          unfold waitAll at hw
          rw [List.all_eq_true] at hw
          have := hw i (by simpa using hilt)
          simp only [Bool.or_eq_true, decide_eq_true_eq, List.all_eq_true, List.mem_range] at this
          rcases this with h | h
          · omega
          · exact h k (by omega)
        have hk1 : listed.getD k false = true := hd.ready ho hall k hm
        have h3 := hl k hklt
        rw [hk1] at h3
        simp at h3
    refine ⟨fun h0 => (by rw [h0] at hkr; cases hkr), fun i hi => ?_⟩
    obtain rfl := honly i hi
    have hdrop : ops.toList.drop i = ops[i] :: ops.toList.drop (i + 1) := by
      rw [List.drop_eq_getElem_cons (by simpa using hklt)]; simp
    rw [hdrop] at h
    have ho := hgo ops[i] (by simp)
    have hwt : ∀ ys, Region.wanted ops[i] ys = true := fun ys => by simp [Region.wanted, ho]
    unfold wpList at h
    rw [if_pos (hwt _)] at h
    unfold wpOp
    simp only [hko, hwt, if_true]
    refine h.imp (Oper.wp_mono (fun a' w' hh => ?_)) id
    refine ih (i + 1) (by omega) (by omega) (listed.setIfInBounds i true) a' w' (by simpa using hsz) ?_ (hd.put hi) hh
    intro j hj
    by_cases hji : j = i
    · subst hji
      simp [hkl]
    · rw [getD_set_ne false (Ne.symm hji), hl j hj]
      congr 1
      simp only [eq_iff_iff]
      omega

theorem pre_get {T : List Oper} (hops : ops.toList = A.toList ++ T) {i : Nat} (hi : i < A.size) : ops[i]? = A[i]? := by
  rw [← Array.getElem?_toList, hops, List.getElem?_append_left (by simpa using hi), Array.getElem?_toList]

theorem any_split {T : List Oper} (hops : ops.toList = A.toList ++ T) (hback : backOk ops = true) (hg : noGd ops.toList = true) (hw : waitAll ops A.size = true) :
    ∀ (fuel : Nat) (listed la : Array Bool) (a : Act) (w : World), listed.size = ops.size → la.size = A.size → (∀ j, listed.getD j false = la.getD j false) → DC ops (fun j => listed.getD j false) →
      wpAny P .any A (fun e a w => e = .normal ∧ wpList P #[] Q T a w) fuel la a w → wpAny P .any ops Q (fuel + T.length) listed a w := by
  have hgo := noGd_spec hg
  have hsz2 : ops.size = A.size + T.length := by
    have := congrArg List.length hops
    simpa using this
  have rdy : ∀ (listed la : Array Bool), listed.size = ops.size → la.size = A.size → (∀ j, listed.getD j false = la.getD j false) → ∀ i, i < A.size → (i ∈ Region.ready .any ops listed ↔ i ∈ Region.ready .any A la) := by
    intro listed la h1 h2 h3 i hi
    rw [mem_ready_iff, mem_ready_iff, pre_get hops hi]
    have e1 : listed.getD i true = la.getD i true := by
      have := h3 i
      have a1 : i < listed.size := by omega
      have a2 : i < la.size := by omega
      simp [a1, a2] at this ⊢
      exact this
    rw [e1]
    simp only [h3]
  -- all of A are done when nothing of it is ready
  have full : ∀ (listed la : Array Bool), listed.size = ops.size → la.size = A.size → (∀ j, listed.getD j false = la.getD j false) → Region.ready .any A la = [] → ∀ j, j < A.size → listed.getD j false = true := by
    intro listed la h1 h2 h3 hr j
    induction j using Nat.strongRecOn with
    | _ j ih =>
      intro hj
      refine Classical.byContradiction fun hne => ?_
      have hjo : j < ops.size := by omega
      have hmem : j ∈ Region.ready .any ops listed := by
        rw [mem_ready_iff]
        refine ⟨?_, ops[j], by simp [hjo], ?_⟩
        · have : j < listed.size := by omega
          simp [this] at hne ⊢
          exact hne
        · intro e he hb
          unfold backOk at hback
          rw [List.all_eq_true] at hback
          have q1 := hback j (by simpa using hjo)
          simp only [Array.getElem?_eq_getElem hjo, List.all_eq_true] at q1
          have q2 := q1 e (by simpa using he)
          simp only [hb, Bool.not_true, Bool.false_or, decide_eq_true_eq] at q2
          exact ih e.on q2 (by omega)
      have := (rdy listed la h1 h2 h3 j hj).1 hmem
      rw [hr] at this
      cases this
  have fin : ∀ (listed la : Array Bool) (a : Act) (w : World), listed.size = ops.size → la.size = A.size → (∀ j, listed.getD j false = la.getD j false) → DC ops (fun j => listed.getD j false) → Region.ready .any A la = [] → wpList P #[] Q T a w → ∀ fuel, T.length ≤ fuel → wpAny P .any ops Q fuel listed a w := by
    intro listed la a w h1 h2 h3 hd hr h fuel hf
    have hdrop : ops.toList.drop A.size = T := by rw [hops]; simp
    have := any_tail (P := P) (Q := Q) hback hg hw T.length A.size (by omega) (Nat.le_refl _) listed a w h1 (fun j hj => by
      by_cases hja : j < A.size
      · rw [full listed la h1 h2 h3 hr j hja]; simp [hja]
      · rw [h3 j]
        have : ¬ j < la.size := by omega
        simp [this, hja]) hd (by rw [hdrop]; exact h)
    exact wpAny_more this hf
  intro fuel
  induction fuel with
  | zero =>
    intro listed la a w h1 h2 h3 hd h
    exact fin listed la a w h1 h2 h3 hd h.1 h.2.2 _ (by omega)
  | succ fuel ih =>
    intro listed la a w h1 h2 h3 hd h
    by_cases hr : Region.ready .any A la = []
    · exact fin listed la a w h1 h2 h3 hd hr (h.1 hr).2 _ (by omega)
    · have hsome : ∃ i, i ∈ Region.ready .any A la := List.exists_mem_of_ne_nil _ hr
      have hltA : ∀ i, i ∈ Region.ready .any A la → i < A.size := fun i hi => by
        obtain ⟨_, o, ho, _⟩ := mem_ready_iff.1 hi
        exact (Array.getElem?_eq_some_iff.1 ho).1
      have e : fuel + 1 + T.length = (fuel + T.length) + 1 := by omega
      rw [e]
      refine ⟨fun h0 => ?_, fun i hi => ?_⟩
      · obtain ⟨i, hi⟩ := hsome
        have := (rdy listed la h1 h2 h3 i (hltA i hi)).2 hi
        rw [h0] at this
        cases this
      · obtain ⟨h0, o, ho, hall⟩ := mem_ready_iff.1 hi
        have hio : i < ops.size := (Array.getElem?_eq_some_iff.1 ho).1
        have hiA : i < A.size := by
          refine Classical.byContradiction fun hne => ?_
          obtain ⟨k, hk⟩ := hsome
          have hkA := hltA k hk
          have hm : ((masks ops.toList []).getD i 0).testBit k = true := by
            unfold waitAll at hw
            rw [List.all_eq_true] at hw
            have := hw i (by simpa using hio)
            simp only [Bool.or_eq_true, decide_eq_true_eq, List.all_eq_true, List.mem_range] at this
            rcases this with h | h
            · omega
            · exact h k (by omega)
          have hk1 : listed.getD k false = true := hd.ready ho hall k hm
          have hk2 := (mem_ready_iff.1 hk).1
          rw [h3 k] at hk1
          have : k < la.size := by omega
          simp [this] at hk1 hk2
          rw [hk1] at hk2
          cases hk2
        have hA := (rdy listed la h1 h2 h3 i hiA).1 hi
        have hh := h.2 i hA
        have hoA : A[i]? = some o := by rw [← pre_get hops hiA]; exact ho
        have hgi := hgo o (by
          have := Array.mem_of_getElem? ho
          simpa using this)
        have hwt : ∀ ys, Region.wanted o ys = true := fun ys => by simp [Region.wanted, hgi]
        unfold wpOp at hh ⊢
        simp only [hoA, hwt, if_true] at hh
        simp only [ho, hwt, if_true]
        rcases hh with hh | hh
        · left
          refine wp_mono2 (fun a' w' hx => ?_) (fun e a w hne hq => absurd hq.1 hne) hh
          refine ih (listed.setIfInBounds i true) (la.setIfInBounds i true) a' w' (by simpa using h1) (by simpa using h2) ?_ (hd.put hi) hx
          intro j
          by_cases hji : j = i
          · subst hji
            have q1 : j < listed.size := by omega
            have q2 : j < la.size := by omega
            simp [q1, q2]
          · rw [getD_set_ne false (Ne.symm hji), getD_set_ne false (Ne.symm hji), h3 j]
        · obtain ⟨_, a', w', h', _⟩ := hh
          cases h'
where
  wpAny_more {P : Program} {ops : Array Oper} {Q : Exit → Act → World → Prop} : ∀ {m : Nat} {listed : Array Bool} {a : Act} {w : World}, wpAny P .any ops Q m listed a w → ∀ {k : Nat}, m ≤ k → wpAny P .any ops Q k listed a w
  | 0, listed, a, w, h, k, _ => wpAny_done h.1 h.2 k
  | m + 1, listed, a, w, h, k, hk => by
    obtain ⟨k, rfl⟩ : ∃ k', k = k' + 1 := ⟨k - 1, by omega⟩
    exact ⟨h.1, fun i hi => wpOp_mono (fun a w hx => wpAny_more hx (by omega)) (h.2 i hi)⟩

/-- A region in any order, of its first operations the state is evaluated; the last ones follow in their order. -/
theorem region_split {cx : Cx} (hΓ : TabOk cx.P cx.Γ) (hI : InlOk cx.P cx.inl) {ops A : Array Oper} {T : List Oper} {st st' : St} {ob : Ob} (hops : ops.toList = A.toList ++ T) (hback : backOk ops = true) (hg : noGd ops.toList = true) (hw : waitAll ops A.size = true)
    (h : evalRegion cx A true st = some (st', ob)) (hob : ob.holds) {id : Nat}
    {Es : Env} {ws : World} {a : Act} {w : World} (hs : SRel Es ws st a w) {Q : Exit → Act → World → Prop} (hQ : ∀ a' w', SRel Es ws st' a' w' → wpList cx.P #[] Q T a' w') :
    (Code.region id ops true).wp cx.P Q a w := by
  unfold evalRegion at h
  split at h <;> try (simp at h; done)
  rename_i fin n ob' hev
  split at h <;> simp at h
  rename_i hd
  obtain ⟨rfl, rfl⟩ := h
  obtain ⟨l, nx, obs, e1, e2, e3, e4, e5, e6⟩ := evalOps_run _ _ _ _ _ _ hev
  simp only [List.append_nil] at e1 e5
  have R : Run cx A (fun t => clean (st.look t)) st.hp st.nt st.next l nx obs := ⟨by simpa using e2, fun i o r ho hr => e5 i o r (by simpa using ho) hr, e3⟩
  have hobs : ∀ i, i < A.size → (obs i).holds := fun i hi => e6 hob i (by simpa using hi)
  obtain ⟨E, h1, h2, h3, h4, h5, h6, h7, h8, h9, h10⟩ := hs
  have hfin : ∀ E' a' w', InvD l (fun t => clean (st.look t)) st.hp st.nt st.next Es ws (fun j => decide (j < A.size)) E' a' w' → wpList cx.P #[] Q T a' w' := by
    intro E' a' w' I
    have hmono0 := R.nx_mono (i := 0) (j := A.size) (by omega) (Nat.le_refl _)
    have e40 : nx A.size = n := by simpa using e4
    refine hQ a' w' ⟨E', ?_, I.sz, I.df, ?_, I.inj, I.bd, ?_, I.tr, h9, by rw [R.first] at hmono0; show st.lo ≤ n; omega⟩
    · intro t
      have ht := I.tm t
      rw [← R.len, verT_below _ l l.length (Nat.le_refl _) t, List.take_length] at ht
      have e := entOf_look (fun t => clean (st.look t)) (fun t => clean_clean _) t fin
      have : St.look { st with ent := entOf fin ++ st.ent, hent := hwOf fin ++ st.hent, next := n } t = (match lookL (entOf fin) t with | some v => v | none => st.look t) := by
        simp only [St.look, lookL_append]
        cases lookL (entOf fin) t <;> rfl
      rw [this]
      rw [e1] at e ⊢
      cases hl : lookL (entOf l.reverse) t with
      | some v =>
        simp only [hl] at e ⊢
        rw [e]
        exact GRel_clean ht
      | none =>
        simp only [hl] at e ⊢
        have hx : TRel E' (clean (st.look t)) (a'.tmps.getD t undef) := by rw [e]; exact GRel_clean ht
        cases hv : st.look t with
        | gd q u => trivial
        | _ => rw [hv] at hx; exact hx
    · intro m B hB
      refine I.hp m B ?_
      rw [← R.len, verH_below _ l l.length (Nat.le_refl _) m, List.take_length]
      rw [← hwOf_look, ← hB, ← e1]
      simp only [St.hp, hwL_append]
      cases hwL (hwOf fin) m <;> rfl
    · intro m hm
      refine Classical.byContradiction fun hne => ?_
      have e4' : nx A.size = n := by simpa using e4
      have hmono := R.nx_mono (i := 0) (j := A.size) (by omega) (Nat.le_refl _)
      simp only at hm
      obtain ⟨j, hj, hnj⟩ := I.nm m (by rw [R.first] at hmono; omega) hne
      obtain ⟨a1, a2, a3⟩ := R.nw_at hnj
      have := R.nx_mono (i := j + 1) (j := A.size) (by omega) (Nat.le_refl _)
      omega
  have start : ∀ (D : Nat → Bool) (w : World), (∀ j, D j = false) → HRel E st.hp w → Bd E w → Tr Es ws E w → InvD l (fun t => clean (st.look t)) st.hp st.nt st.next Es ws D E a w := by
    intro D w hD hh hb ht
    refine ⟨fun t => ?_, ?_, h5, hb, fun m hm hne => absurd (h7 m hm) hne, h2, h3, ht⟩
    · rw [verT_none l _ D hD t]
      exact GRel_of_clean (h1 t)
    · intro m B hB
      rw [verH_none l _ D hD m] at hB
      exact hh m B hB
  simp only [Bool.not_true, Bool.false_or] at hd
  have hm : cx.P.follows .mixedOrders = true := by
    simp only [drawOk, Bool.and_eq_true] at hd
    exact hd.1.1.1
  refine wp_region_any hm ?_
  rw [e1, List.reverse_reverse] at hd
  have hD : ∀ (k j : Nat), (fun j => (Array.replicate k false).getD j false) j = false := by
    intro k j
    simp only [Array.getD_eq_getD_getElem?, Array.getElem?_replicate]
    split <;> rfl
  have hsz2 : ops.size = A.size + T.length := by
    have := congrArg List.length hops
    simpa using this
  have key : wpAny cx.P .any A (fun e a w => e = .normal ∧ wpList cx.P #[] Q T a w) A.size (Array.replicate A.size false) a { w with drawn := w.drawn + 1 } := by
    refine R.any hΓ hI hobs hd (fun E' a' w' I => ⟨rfl, hfin E' a' w' I⟩) A.size _ E a _ (by simp) ?_ ?_ (start _ _ (hD _) h4 h6 (h8.trans (Tr.drew E w)))
    · exact Nat.le_trans (List.length_filter_le _ _) (by simp)
    · intro j hj
      rw [hD _ j] at hj
      simp at hj
  have := any_split (Q := Q) hops hback hg hw A.size (Array.replicate ops.size false) (Array.replicate A.size false) a { w with drawn := w.drawn + 1 } (by simp) (by simp) (fun j => (hD ops.size j).trans (hD A.size j).symm) (fun j hj => by rw [hD _ j] at hj; simp at hj) key
  rw [hsz2]
  rw [hsz2] at this
  exact this
end
end Go.Rf

/- Names turned. -/
namespace Go.Rf

/-- The names below n, by others. -/
def ren (ρ : Nat → Nat) (n : Nat) (E : Env) : Env := fun m => if m < n then E (ρ m) else none

structure KeptN (st : St) (ρ : Nat → Nat) (n : Nat) (ents : List (Nat × AV)) (hbs : List (Nat × Option Blk)) : Prop where
  inj : ∀ i j, i < n → j < n → ρ i = ρ j → i = j
  ent : ∀ x ∈ ents, ∀ E y, TRel E (st.look x.1) y → TRel (ren ρ n E) x.2 y
  blk : ∀ x ∈ hbs, x.1 < n ∧ ∀ B', x.2 = some B' → ∃ B, st.hp (ρ x.1) = some B ∧ B.T = B'.T ∧ fzOf B.v = fzOf B'.v ∧ ∀ E, ok E B.v → ok (ren ρ n E) B'.v ∧ cells E [] B.v = cells (ren ρ n E) [] B'.v

theorem TRel_pf {E E' : Env} {v : AV} {y : Value} (hp : pf v = true) (h : TRel E v y) : TRel E' v y := by
  have hok := ok_of_pf E' v hp
  have hv := val_pf hp E E'
  have hs : okT E' v ∧ valT E' v = y := by
    cases v <;> first
      | (simp [pf] at hp; done)
      | (obtain ⟨h1, h2⟩ := h; exact ⟨hok, by rw [← h2]; exact hv.symm⟩)
  cases v <;> first
    | trivial
    | exact hs

theorem KeptN.rel {ws : World} {st : St} {a : Act} {w : World} (hs : SRel E0 ws st a w) (hlo : st.lo = 0) {ρ : Nat → Nat} {n : Nat} {ents : List (Nat × AV)} {hbs : List (Nat × Option Blk)} (hk : KeptN st ρ n ents hbs) :
    SRel E0 ws ⟨ents, fun _ => .un, hbs, fun _ => none, n, st.nt, 0⟩ a w := by
  obtain ⟨E, h1, h2, h3, h4, h5, h6, h7, h8, h9, h10⟩ := hs
  refine ⟨ren ρ n E, ?_, h2, h3, ?_, ?_, ?_, ?_, ?_, fun _ _ => rfl, Nat.zero_le _⟩
  · intro t
    show TRel (ren ρ n E) (match lookL ents t with | some v => v | none => .un) _
    cases hl : lookL ents t with
    | none => trivial
    | some v => exact hk.ent _ (lookL_mem hl) E _ (h1 t)
  · intro m B hB
    have hB' : (match hwL hbs m with | some b => b | none => none) = some B := hB
    cases hl : hwL hbs m with
    | none => rw [hl] at hB'; cases hB'
    | some v =>
      rw [hl] at hB'
      simp only at hB'
      subst hB'
      obtain ⟨k1, k2⟩ := hk.blk _ (hwL_mem2 hl)
      obtain ⟨B1, q1, q2, q3, q4⟩ := k2 B rfl
      simp only at k1 q1
      obtain ⟨b, b1, b2, b3⟩ := h4 _ B1 q1
      obtain ⟨o1, o2⟩ := q4 E b2
      refine ⟨b, by simp [ren, k1, b1], o1, ?_⟩
      rw [← o2, ← q2, ← q3]
      exact b3
  · intro m m' b hm hm'
    simp only [ren] at hm hm'
    split at hm <;> try (simp at hm; done)
    split at hm' <;> try (simp at hm'; done)
    rename_i x1 x2
    exact hk.inj m m' x1 x2 (h5 _ _ b hm hm')
  · intro m b hm
    simp only [ren] at hm
    split at hm <;> try (simp at hm; done)
    exact h6 _ b hm
  · intro m hm
    have : n ≤ m := hm
    simp only [ren]
    rw [if_neg (by omega)]
  · refine ⟨fun m b hm => (by cases hm), ?_, h8.os, h8.tape, h8.output, h8.size, h8.keep⟩
    intro m b hm
    simp only [ren] at hm
    split at hm <;> try (simp at hm; done)
    rcases h8.new _ b hm with h | h
    · cases h
    · exact .inr h
end Go.Rf
