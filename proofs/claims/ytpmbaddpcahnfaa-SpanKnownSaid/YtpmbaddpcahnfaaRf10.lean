/- A region that draws its order. -/
import Derived.Test.YtpmbaddpcahnfaaRf9
set_option linter.unusedVariables false
set_option linter.unusedSimpArgs false
namespace Go.Rf

def maskOf (acc : List Nat) (o : Oper) : Nat :=
  o.after.toList.foldl (fun s e => if Region.binds .any e then s ||| (2 ^ e.on) ||| acc.getD e.on 0 else s) 0

def masks : List Oper → List Nat → List Nat
  | [], acc => acc
  | o :: os, acc => masks os (acc ++ [maskOf acc o])

theorem masks_spec : ∀ (os : List Oper) (acc : List Nat), ∃ ms, masks os acc = acc ++ ms ∧ ms.length = os.length ∧
    ∀ (i : Nat) (o : Oper), os[i]? = some o → (masks os acc)[acc.length + i]? = some (maskOf ((masks os acc).take (acc.length + i)) o)
  | [], acc => ⟨[], by simp [masks], rfl, by simp⟩
  | o :: os, acc => by
    obtain ⟨ms, h1, h2, h3⟩ := masks_spec os (acc ++ [maskOf acc o])
    refine ⟨maskOf acc o :: ms, by simp [masks, h1], by simp [h2], ?_⟩
    intro i o' ho
    simp only [masks]
    cases i with
    | zero =>
      simp at ho
      subst ho
      simp [h1]
    | succ i =>
      simp at ho
      have := h3 i o' ho
      simp only [List.length_append, List.length_singleton] at this
      rw [show acc.length + (i + 1) = acc.length + 1 + i by omega]
      exact this

theorem maskOf_bits {D : Nat → Bool} {acc : List Nat} {o : Oper} (he : ∀ e ∈ o.after, Region.binds .any e = true → D e.on = true)
    (hacc : ∀ e ∈ o.after, Region.binds .any e = true → ∀ k, (acc.getD e.on 0).testBit k = true → D k = true) : ∀ k, (maskOf acc o).testBit k = true → D k = true := by
  unfold maskOf
  have key : ∀ (es : List Edge) (s : Nat), (∀ e ∈ es, e ∈ o.after) → (∀ k, s.testBit k = true → D k = true) →
      ∀ k, (es.foldl (fun s e => if Region.binds .any e then s ||| (2 ^ e.on) ||| acc.getD e.on 0 else s) s).testBit k = true → D k = true := by
    intro es
    induction es with
    | nil => intro s _ hs k hk; exact hs k hk
    | cons e es ih =>
      intro s hm hs
      simp only [List.foldl_cons]
      refine ih _ (fun x hx => hm x (by simp [hx])) ?_
      split
      · rename_i hb
        intro k hk
        simp only [Nat.testBit_or, Bool.or_eq_true] at hk
        rcases hk with (hk | hk) | hk
        · exact hs k hk
        · rw [Nat.testBit_two_pow] at hk
          simp at hk
          subst hk
          exact he e (hm e (by simp)) hb
        · exact hacc e (hm e (by simp)) hb k hk
      · exact hs
  exact key o.after.toList 0 (fun e h => by simpa using h) (by simp)

def touchL (r : Rec) : List Nat := r.rd.toList ++ r.hw.map (·.1)

theorem hwL_mem {l : List (Nat × Option Blk)} {n : Nat} {b : Option Blk} (h : hwL l n = some b) : ∃ x ∈ l, x.1 = n := by
  induction l with
  | nil => simp [hwL] at h
  | cons a l ih =>
    obtain ⟨k, v⟩ := a
    simp only [hwL] at h
    split at h
    · rename_i hk; exact ⟨(k, v), by simp, by simpa using hk⟩
    · obtain ⟨x, hx, e⟩ := ih h; exact ⟨x, by simp [hx], e⟩

theorem touched_mem {r : Rec} {n : Nat} (h : touched r n) : n ∈ touchL r := by
  rcases h with h | ⟨b, h⟩
  · simp [touchL, h]
  · obtain ⟨x, hx, e⟩ := hwL_mem h
    simp only [touchL, List.mem_append, List.mem_map]
    exact .inr ⟨x, hx, e⟩

def indep (ops : Array Oper) (oi : Oper) (ri : Rec) (oj : Oper) (rj : Rec) : Bool :=
  (match ri.dst with
    | some d => !((oj.looksAt ops).contains d) && rj.dst != some d
    | none => true) &&
  (match rj.dst with
    | some d => !((oi.looksAt ops).contains d)
    | none => true) &&
  (ri.hw.all fun x => !((touchL rj).contains x.1)) && (rj.hw.all fun x => !((touchL ri).contains x.1))

def pairsOk (ops : Array Oper) (l : List Rec) (ms : List Nat) : Bool :=
  (List.range ops.size).all fun j => (List.range j).all fun i => (ms.getD j 0).testBit i ||
    match ops[i]?, l[i]?, ops[j]?, l[j]? with
    | some oi, some ri, some oj, some rj => indep ops oi ri oj rj
    | _, _, _, _ => false

def backOk (ops : Array Oper) : Bool :=
  (List.range ops.size).all fun i => match ops[i]? with
    | some o => o.after.toList.all fun e => !(Region.binds .any e) || decide (e.on < i)
    | none => true

def drawOk (P : Program) (ops : Array Oper) (l : List Rec) : Bool :=
  P.follows .mixedOrders && backOk ops && (l.all fun r => !r.inl) && pairsOk ops l (masks ops.toList [])

section
variable {cx : Cx} {ops : Array Oper} {base : Nat → AV} {hb : Hp} {nt next : Nat} {l : List Rec} {nx : Nat → Nat} {obs : Nat → Ob}

theorem pair_spec (hp : pairsOk ops l (masks ops.toList []) = true) {i j : Nat} (hij : i < j) (hj : j < ops.size) {oi oj : Oper} {ri rj : Rec} (h1 : ops[i]? = some oi) (h2 : l[i]? = some ri) (h3 : ops[j]? = some oj) (h4 : l[j]? = some rj) :
    ((masks ops.toList []).getD j 0).testBit i = true ∨ indep ops oi ri oj rj = true := by
  unfold pairsOk at hp
  rw [List.all_eq_true] at hp
  have := hp j (by simpa using hj)
  rw [List.all_eq_true] at this
  have := this i (by simpa using hij)
  simpa [h1, h2, h3, h4] using this

def DC (ops : Array Oper) (D : Nat → Bool) : Prop := ∀ j, D j = true → ∀ k, ((masks ops.toList []).getD j 0).testBit k = true → D k = true

theorem mask_at {i : Nat} {o : Oper} (ho : ops[i]? = some o) : (masks ops.toList []).getD i 0 = maskOf ((masks ops.toList []).take i) o := by
  obtain ⟨ms, h1, h2, h3⟩ := masks_spec ops.toList []
  have := h3 i o (by simpa using ho)
  simp only [List.length_nil, Nat.zero_add] at this
  simp [List.getD_eq_getElem?_getD, this]

theorem DC.ready {D : Nat → Bool} (hd : DC ops D) {i : Nat} {o : Oper} (ho : ops[i]? = some o) (he : ∀ e ∈ o.after, Region.binds .any e = true → D e.on = true) :
    ∀ k, ((masks ops.toList []).getD i 0).testBit k = true → D k = true := by
  rw [mask_at ho]
  refine maskOf_bits he (fun e h hb k hk => ?_)
  refine hd e.on (he e h hb) k ?_
  simp only [List.getD_eq_getElem?_getD, List.getElem?_take] at hk ⊢
  split at hk
  · exact hk
  · simp at hk

theorem Run.any (R : Run cx ops base hb nt next l nx obs) (hΓ : TabOk cx.P cx.Γ) (hI : InlOk cx.P cx.inl) (hobs : ∀ i, i < ops.size → (obs i).holds) (hdr : drawOk cx.P ops l = true)
    {Es : Env} {ws : World} {Q : Exit → Act → World → Prop} (hQ : ∀ E a w, InvD l base hb nt next Es ws (fun j => decide (j < ops.size)) E a w → Q .normal a w) :
    ∀ (fuel : Nat) (listed : Array Bool) (E : Env) (a : Act) (w : World), listed.size = ops.size → ((List.range ops.size).filter fun j => !listed.getD j false).length ≤ fuel →
      DC ops (fun j => listed.getD j false) → InvD l base hb nt next Es ws (fun j => listed.getD j false) E a w → wpAny cx.P .any ops Q fuel listed a w := by
  simp only [drawOk, Bool.and_eq_true] at hdr
  obtain ⟨⟨⟨hm, hback⟩, hninl⟩, hpairs⟩ := hdr
  -- nothing ready: all are done
  have stuck : ∀ (listed : Array Bool), listed.size = ops.size → Region.ready .any ops listed = [] → ∀ j, j < ops.size → listed.getD j false = true := by
    intro listed hsz hr
    intro j
    induction j using Nat.strongRecOn with
    | _ j ih =>
      intro hj
      refine Classical.byContradiction fun hne => ?_
      have hmem : j ∈ Region.ready .any ops listed := by
        rw [mem_ready]
        refine ⟨?_, ops[j], by simp [hj], ?_⟩
        · have : j < listed.size := by omega
          simp [this] at hne ⊢
          exact hne
        · intro e he hb
          unfold backOk at hback
          rw [List.all_eq_true] at hback
          have h1 := hback j (by simpa using hj)
          simp only [Array.getElem?_eq_getElem hj, List.all_eq_true] at h1
          have h2 := h1 e (by simpa using he)
          simp only [hb, Bool.not_true, Bool.false_or, decide_eq_true_eq] at h2
          exact ih e.on h2 (by omega)
      rw [hr] at hmem
      simp at hmem
  have fin : ∀ (listed : Array Bool) (E : Env) (a : Act) (w : World), listed.size = ops.size → InvD l base hb nt next Es ws (fun j => listed.getD j false) E a w → Region.ready .any ops listed = [] → Q .normal a w := by
    intro listed E a w hsz I hr
    refine hQ E a w ?_
    have : (fun j => listed.getD j false) = fun j => decide (j < ops.size) := by
      funext j
      by_cases hj : j < ops.size
      · simp only [hj, decide_true]; exact stuck listed hsz hr j hj
      · have : ¬ j < listed.size := by omega
        simp [hj, this]
    rwa [this] at I
  intro fuel
  induction fuel with
  | zero =>
    intro listed E a w hsz hc hd I
    have hr : Region.ready .any ops listed = [] := by
      refine List.eq_nil_iff_forall_not_mem.2 fun j hj => ?_
      have h0 := (mem_ready.1 hj).1
      obtain ⟨_, o, ho, _⟩ := mem_ready.1 hj
      have hlt : j < ops.size := (Array.getElem?_eq_some_iff.1 ho).1
      have hnil : ((List.range ops.size).filter fun j => !listed.getD j false) = [] := List.length_eq_zero_iff.1 (by omega)
      have : j ∈ ((List.range ops.size).filter fun j => !listed.getD j false) := by
        rw [List.mem_filter]
        refine ⟨by simpa using hlt, ?_⟩
        have : j < listed.size := by omega
        simp [this] at h0 ⊢
        exact h0
      rw [hnil] at this
      simp at this
    exact ⟨hr, fin listed E a w hsz I hr⟩
  | succ fuel ih =>
    intro listed E a w hsz hc hd I
    refine ⟨fin listed E a w hsz I, fun i hi => ?_⟩
    obtain ⟨h0, o, ho, hall⟩ := mem_ready.1 hi
    have hlt : i < ops.size := (Array.getElem?_eq_some_iff.1 ho).1
    obtain ⟨o', r, ho', hr⟩ := R.get hlt
    obtain rfl : o = o' := by rw [ho] at ho'; exact Option.some.inj ho'
    have hltl : i < listed.size := by omega
    have hDi : listed.getD i false = false := by simp [hltl] at h0 ⊢; exact h0
    have hready := hd.ready ho hall
    have rdst := (R.recOk ho hr).dst
    -- which of two comes first
    have later : ∀ j, listed.getD j false = true → i < j → ∀ oj rj, ops[j]? = some oj → l[j]? = some rj → indep ops o r oj rj = true := by
      intro j hj hij oj rj hoj hrj
      rcases pair_spec hpairs hij (R.lt hrj) ho hr hoj hrj with h | h
      · have := hd j hj i h
        simp only at this
        rw [hDi] at this
        simp at this
      · exact h
    have earlier : ∀ j, j < i → ∀ oj rj, ops[j]? = some oj → l[j]? = some rj → listed.getD j false = true ∨ indep ops oj rj o r = true := by
      intro j hij oj rj hoj hrj
      rcases pair_spec hpairs hij hlt hoj hrj ho hr with h | h
      · exact .inl (hready j h)
      · exact .inr h
    have hle : i ≤ l.length := by rw [R.len]; omega
    refine R.step hΓ hI hobs I ho hr hDi ?_ ?_ ?_ ?_ ?_
    · -- temporaries
      intro t ht
      rw [← verT_below base l i hle t]
      unfold verT
      have h : ∀ j, j < l.length → (fun j => (fun j => listed.getD j false) j && dstIs l t j) j = (fun j => decide (j < i) && dstIs l t j) j := by
        intro j hj
        show (listed.getD j false && dstIs l t j) = (decide (j < i) && dstIs l t j)
        cases hdj : dstIs l t j with
        | false => simp
        | true =>
          simp only [Bool.and_true]
          simp only [dstIs] at hdj
          split at hdj <;> try (simp at hdj; done)
          rename_i rj hrj
          simp at hdj
          obtain ⟨oj, hoj⟩ := R.oper hrj
          rcases Nat.lt_trichotomy j i with hji | hji | hji
          · rcases earlier j hji oj rj hoj hrj with h | h
            · simp [h, hji]
            · simp only [indep, hdj, Bool.and_eq_true, Bool.not_eq_true'] at h
              have := h.1.1.1.1
              rw [List.contains_eq_mem] at this
              simp [ht] at this
          · subst hji
            rw [hDi]; simp
          · have : ¬ j < i := by omega
            simp only [this, decide_false]
            cases hL : listed.getD j false with
            | false => rfl
            | true =>
              have h := later j hL hji oj rj hoj hrj
              simp only [indep, hdj, Bool.and_eq_true, Bool.not_eq_true'] at h
              have := h.1.1.2
              rw [List.contains_eq_mem] at this
              simp [ht] at this
      rw [last_congr h]
    · -- blocks
      intro n hn _
      rw [← verH_below hb l i hle n]
      unfold verH
      have h : ∀ j, j < l.length → (fun j => (fun j => listed.getD j false) j && hwIs l n j) j = (fun j => decide (j < i) && hwIs l n j) j := by
        intro j hj
        show (listed.getD j false && hwIs l n j) = (decide (j < i) && hwIs l n j)
        cases hdj : hwIs l n j with
        | false => simp
        | true =>
          simp only [Bool.and_true]
          simp only [hwIs] at hdj
          split at hdj <;> try (simp at hdj; done)
          rename_i rj hrj
          obtain ⟨b, hb'⟩ := Option.isSome_iff_exists.1 hdj
          obtain ⟨x, hx, hxn⟩ := hwL_mem hb'
          obtain ⟨oj, hoj⟩ := R.oper hrj
          rcases Nat.lt_trichotomy j i with hji | hji | hji
          · rcases earlier j hji oj rj hoj hrj with h | h
            · simp [h, hji]
            · simp only [indep, Bool.and_eq_true, List.all_eq_true] at h
              have := h.1.2 x hx
              rw [hxn, List.contains_eq_mem] at this
              simp [touched_mem hn] at this
          · subst hji
            rw [hDi]; simp
          · have : ¬ j < i := by omega
            simp only [this, decide_false]
            cases hL : listed.getD j false with
            | false => rfl
            | true =>
              have h := later j hL hji oj rj hoj hrj
              simp only [indep, Bool.and_eq_true, List.all_eq_true] at h
              have := h.2 x hx
              rw [hxn, List.contains_eq_mem] at this
              simp [touched_mem hn] at this
      rw [last_congr h]
    · intro h
      rw [List.all_eq_true] at hninl
      have := hninl r (List.mem_of_getElem? hr)
      simp [h] at this
    · intro j hj hij
      refine ⟨fun t ht => ?_, fun n b hn => ?_⟩
      · cases hrj : l[j]? with
        | none => simp [dstIs, hrj]
        | some rj =>
          obtain ⟨oj, hoj⟩ := R.oper hrj
          have h := later j hj hij oj rj hoj hrj
          simp only [indep, ht, Bool.and_eq_true] at h
          have := h.1.1.1.2
          simp only [dstIs, hrj]
          simpa using this
      · cases hrj : l[j]? with
        | none => simp [hwIs, hrj]
        | some rj =>
          obtain ⟨oj, hoj⟩ := R.oper hrj
          have h := later j hj hij oj rj hoj hrj
          simp only [indep, Bool.and_eq_true, List.all_eq_true] at h
          obtain ⟨x, hx, hxn⟩ := hwL_mem hn
          have := h.1.2 x hx
          rw [hxn, List.contains_eq_mem] at this
          simp only [hwIs, hrj]
          cases hq : hwL rj.hw n with
          | none => rfl
          | some bb =>
            have := touched_mem (r := rj) (.inr ⟨bb, hq⟩)
            simp_all
    · intro E' a' w' I'
      have hD' : addD (fun j => listed.getD j false) i = fun j => (listed.setIfInBounds i true).getD j false := by
        funext j
        simp only [addD]
        by_cases he : j = i
        · subst he; simp [hltl]
        · have : (j == i) = false := by simpa using he
          rw [this, Bool.or_false]
          simp only [Array.getD_eq_getD_getElem?]
          rw [Array.getElem?_setIfInBounds_ne (Ne.symm he)]
      rw [hD'] at I'
      refine ih (listed.setIfInBounds i true) E' a' w' (by simpa using hsz) ?_ ?_ I'
      · have e2 : (fun j => !(listed.setIfInBounds i true).getD j false) = fun j => !addD (fun j => listed.getD j false) i j := by
          funext j
          have := congrFun hD' j
          rw [this]
        rw [e2]
        have : ((List.range ops.size).filter fun j => !addD (fun j => listed.getD j false) i j).length < ((List.range ops.size).filter fun j => !listed.getD j false).length := by
          have e : ((List.range ops.size).filter fun j => !addD (fun j => listed.getD j false) i j) = ((List.range ops.size).filter fun j => !listed.getD j false).filter (fun j => !(j == i)) := by
            rw [List.filter_filter]
            congr 1
            funext j
            simp only [addD]
            cases listed.getD j false <;> simp
          rw [e]
          refine List.length_filter_lt_length_iff_exists.2 ⟨i, ?_, by simp⟩
          rw [List.mem_filter]
          exact ⟨by simpa using hlt, by rw [hDi]; rfl⟩
        omega
      · rw [← hD']
        intro j hj k hk
        simp only [addD, Bool.or_eq_true, beq_iff_eq] at hj ⊢
        rcases hj with hj | hj
        · exact .inl (hd j hj k hk)
        · subst hj; exact .inl (hready k hk)

end

end Go.Rf
