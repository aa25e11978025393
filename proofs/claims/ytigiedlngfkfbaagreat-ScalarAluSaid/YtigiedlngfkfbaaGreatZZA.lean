/- Several texts as one: ZSz1 ZSz2 ZSz3 ZSz4 ZSz5 ZSz6. -/
import Derived.Test.YtigiedlngfkfbaaGreatZYA
import Derived.Test.YtigiedlngfkfbaaGreatRfG
set_option linter.unusedVariables false
set_option linter.unusedSimpArgs false
set_option maxRecDepth 100000

/- Spans: the document's small functions. -/
namespace Go.Rf
open Go.Proofs

def timesW (x y t : W) : Bool := ltB .u64 0#64 y && ltB .u64 (quoW t y) x
theorem k87 : ConOk Tryz.prog 87 (con3 cW cW cW fun x y t => eB (timesW x y t)) :=
  con3_ok zg9 (Λ := noHooks) 3 (fun _ _ _ => rfl) (fun x y t => Ev.fg (L := [([ltB .u64 0#64 y], y ≠ 0#64)]) (by kernel_rfl) (by
    intro e he hg
    simp only [List.mem_singleton] at he
    subst he
    have h := hg _ (List.mem_singleton.2 rfl)
    intro h0
    subst h0
    exact absurd h (by decide)))
def apartD (a b : Sp) (t : W) : Sp := Sp.mux (ltB .u64 a.lo b.hi != ltB .u64 a.hi b.lo) ⟨0#64, t⟩ ⟨(a.lo - b.hi) &&& t, (a.hi - b.lo) &&& t⟩
theorem k86 : ConOk Tryz.prog 86 (con3 cSp cSp cW fun a b t => eSp (apartD a b t)) := con3_ok zg9 (Λ := noHooks) 3 (fun _ _ _ => rfl) (fun a b t => Ev.of (by kernel_rfl))
def restA (a b : Sp) : Bool := ((b.lo == 0#64) && (b.hi == 0#64)) || ltB .u64 a.hi b.lo
def restB (a b : Sp) : Bool := (b.lo == b.hi) && (quoW a.lo b.lo == quoW a.hi b.lo)
def restD (a b : Sp) : Sp := Sp.mux (restA a b) a (Sp.mux (restB a b) ⟨remW a.lo b.lo, remW a.hi b.lo⟩ ⟨0#64, bif (b.lo == 0#64) || ltB .u64 a.hi (b.hi - 1#64) then a.hi else b.hi - 1#64⟩)
theorem restD_n0 {a b : Sp} (h1 : (!restA a b) = true) (h2 : b.lo = b.hi) : b.lo ≠ 0#64 := by
  intro h
  unfold restA at h1
  rw [← h2, h] at h1
  simp at h1
theorem k89 : ConOk Tryz.prog 89 (con2 cSp cSp fun a b => eSp (restD a b)) :=
  con2_ok zg9 (Λ := noHooks) 3 (fun _ _ => rfl) (fun a b => Ev.fg (L := [([b.lo == b.hi, !restA a b], b.lo ≠ 0#64), ([b.lo == b.hi, !restA a b], b.lo ≠ 0#64), ([restB a b, !restA a b], b.lo ≠ 0#64), ([restB a b, !restA a b], b.lo ≠ 0#64)]) (by kernel_rfl) (by
    intro e he hg
    simp only [List.mem_cons, List.not_mem_nil, or_false] at he
    rcases he with rfl | rfl | rfl | rfl
    · exact restD_n0 (hg _ (List.mem_cons_of_mem _ (List.mem_cons_self ..))) (by have := hg _ (List.mem_cons_self ..); simpa using this)
    · exact restD_n0 (hg _ (List.mem_cons_of_mem _ (List.mem_cons_self ..))) (by have := hg _ (List.mem_cons_self ..); simpa using this)
    · exact restD_n0 (hg _ (List.mem_cons_of_mem _ (List.mem_cons_self ..))) (by have := hg _ (List.mem_cons_self ..); simp [restB] at this; exact this.1)
    · exact restD_n0 (hg _ (List.mem_cons_of_mem _ (List.mem_cons_self ..))) (by have := hg _ (List.mem_cons_self ..); simp [restB] at this; exact this.1)))
noncomputable def tz1 : List (FuncId × Con) := (88, con4 cI cSp cSp cW fun op a b want => eW (leastD ⟨op, a, b, want⟩)) :: (87, con3 cW cW cW fun x y t => eB (timesW x y t)) ::
  (86, con3 cSp cSp cW fun a b t => eSp (apartD a b t)) :: (89, con2 cSp cSp fun a b => eSp (restD a b)) :: zl9
theorem rtz1 : TabOk Tryz.prog (tabOf tz1) := tabOf_cons (tabOf_cons (tabOf_cons (tabOf_cons zg9 k89) k86) k87) k88
noncomputable def cxZ : Cx := ⟨Tryz.prog, tabOf tz1, inlF Tryz.prog (tabOf tz1) noHooks 3⟩
theorem hIZ : InlOk cxZ.P cxZ.inl := inlF_ok rtz1 3

/-! The document's shifts: a round's inner loop. -/
structure ShI where
  op : W
  a : Sp
  c : W
  d : W
  bits : W
noncomputable def fS : Func := (Tryz.prog.funcs[91]?).getD default
def sW' : Sh := .int .u64
theorem flatW : Flat sW' := ⟨by kernel_rfl, fun y => Sh.enc_len sW' (by kernel_rfl) y, by decide, fun _ => by show sW'.good = true; kernel_rfl⟩
end Go.Rf

/- Spans: the document's shifts, the inner loop. -/
namespace Go.Rf
open Go.Proofs

/-- None is put. -/
theorem step_none {P : Program} {Es : Env} {ws : World} {st : St} {a : Act} {w : World} (hs : SRel Es ws st a w) {o : Oper} {rest : List Oper} {Q : Exit → Act → World → Prop} (hgd : o.guard = none) (ho : o.op = .assign (.const (.slice none 0 0))) {dst : Nat} (hd : o.dst = some dst) (hdst : dst < st.nt)
    (hK : ∀ a' w', SRel Es ws { st with ent := (dst, .vsl none 0) :: st.ent } a' w' → wpList P #[] Q rest a' w') : wpList P #[] Q (o :: rest) a w := by
  refine wpList_plain hgd fun K hKK => ?_
  unfold Oper.wp execOp
  simp only [ho]
  refine hKK _ _ (hK _ _ ?_)
  rw [hd]
  obtain ⟨E, h1, h2, h3, h4, h5, h6, h7, h8, h9, h10⟩ := hs
  refine ⟨E, fun t => ?_, by rw [put_size]; exact h2, by rw [put_df]; exact h3, h4, h5, h6, h7, h8, h9, h10⟩
  rw [put_getD a (some dst) _ t (fun k hk => by cases hk; rw [h2]; exact hdst)]
  show TRel E (match lookL ((dst, .vsl none 0) :: st.ent) t with | some v => v | none => st.rest t) _
  simp only [lookL, Option.some.injEq]
  by_cases hdt : dst = t
  · subst hdt
    simp only [beq_self_eq_true, if_true]
    exact ⟨trivial, rfl⟩
  · have hd' : (dst == t) = false := by simpa using hdt
    simp only [hd', Bool.false_eq_true, if_false, hdt]
    exact h1 t

def pSh : List Nat := [1, 1, 1, 1, 1, 0, 1, 4, 5, 1, 0, 4, 1, 1, 1, 4]
structure MmS where
  out : Sp
  i : W
noncomputable def lpMm (D : SlD sW') : Lp MmS where
  keys := [16, 15, 12]
  names := [2]
  scr := wrAt Tryz.prog 91 pSh
  vals s := [eI s.i, D.at 4, .ptr 2 []]
  blks s := [⟨26, eSp s.out⟩]
  dec vs bs := match vs, bs with
    | [i, _, _], [⟨_, o⟩] => match cI.dec i, cSp.dec o with
      | some i, some o => some ⟨o, i⟩
      | _, _ => none
    | _, _ => none
  fx := [(4, some D.blk)]
def elW (D : SlD sW') (i : Nat) : W := D.els i
def MmS.lt (D : SlD sW') (s : MmS) : Bool := ltB .i64 s.i (BitVec.ofNat 64 D.len)
def MmS.nxt (D : SlD sW') (s : MmS) : MmS := ⟨⟨minU s.out.lo (elW D (ixN s.i)), maxU s.out.hi (elW D (ixN s.i))⟩, s.i + 1#64⟩
def MmS.step (D : SlD sW') (s : MmS) : Rd MmS := .br (s.lt D) (.norm (s.nxt D)) (.exit 3 s)
structure MmS.inv (D : SlD sW') (s : MmS) : Prop where
  big : D.len < 2 ^ 62
  le : s.i.toNat ≤ D.len
def MmS.mu (D : SlD sW') (s : MmS) : Nat := D.len - s.i.toNat
def MmS.run (D : SlD sW') (s : MmS) : MmS := runN (MmS.lt D) (MmS.nxt D) D.len s
def MmS.T (D : SlD sW') (s : MmS) : Rd MmS := .exit 3 ⟨(s.run D).out, (s.run D).i⟩
theorem MmS.lt_iff {D : SlD sW'} {s : MmS} (h : s.inv D) : s.lt D = true ↔ s.i.toNat < D.len := by
  have h1 := h.big
  have h2 := h.le
  unfold MmS.lt
  rw [ltB_nat (by omega) (by rw [ofNat_toNat (by omega)]; omega), ofNat_toNat (by omega), decide_eq_true_eq]
theorem MmS.dec (D : SlD sW') (s : MmS) (h : s.inv D) (hg : s.lt D = true) : (s.nxt D).inv D ∧ (s.nxt D).mu D < s.mu D := by
  rw [MmS.lt_iff h] at hg
  have h1 := h.big
  have e : (s.i + 1#64).toNat = s.i.toNat + 1 := succ_nat (by omega)
  refine ⟨⟨h1, ?_⟩, ?_⟩
  · show (s.i + 1#64).toNat ≤ D.len; omega
  · show D.len - (s.i + 1#64).toNat < D.len - s.i.toNat; omega
theorem goalMm (D : SlD sW') (s : MmS) (h : s.inv D) : LoopGoal Tryz.prog (loopAt Tryz.prog 91 pSh) (lpMm D) (MmS.T D) s 5 132 0 := by
  refine lp_rule (cx := cxZ) rtz1 hIZ (Λ := fun _ => none) (p := []) (lpMm D) (MmS.inv D) (MmS.mu D) (MmS.step D) (MmS.T D) 5 132 0 (fun _ => ⟨rfl, rfl⟩) ?_ ?_ s h
  · intro s r h hi
    refine fg_ok (L := [([], 0 ≤ toZ .i64 (BitVec.ofNat 64 D.len)), ([s.lt D], 0 ≤ toZ .i64 s.i ∧ toZ .i64 s.i < toZ .i64 (BitVec.ofNat 64 D.len)), ([s.lt D], D.pre.length = D.pre.length), ([s.lt D], (toZ .i64 s.i).toNat < D.len),
      ([s.lt D], 0 ≤ toZ .i64 s.i ∧ toZ .i64 s.i < toZ .i64 (BitVec.ofNat 64 D.len)), ([s.lt D], D.pre.length = D.pre.length), ([s.lt D], (toZ .i64 s.i).toNat < D.len)]) (by kernel_rfl) (fun e he hg => ?_)
    have h1 := hi.big
    have h2 := hi.le
    have i1 : toZ .i64 s.i = s.i.toNat := toZ_nat (by omega)
    have i2 : toZ .i64 (BitVec.ofNat 64 D.len) = D.len := by rw [toZ_nat (by rw [ofNat_toNat (by omega)]; omega), ofNat_toNat (by omega)]
    have hlt : s.lt D = true → s.i.toNat < D.len := (MmS.lt_iff hi).1
    simp only [List.mem_cons, List.not_mem_nil, or_false] at he
    rcases he with rfl | rfl | rfl | rfl | rfl | rfl | rfl
    · rw [i2]; omega
    · have := hlt (hg _ (List.mem_singleton.2 rfl)); rw [i1, i2]; omega
    · trivial
    · have := hlt (hg _ (List.mem_singleton.2 rfl)); rw [i1]; omega
    · have := hlt (hg _ (List.mem_singleton.2 rfl)); rw [i1, i2]; omega
    · trivial
    · have := hlt (hg _ (List.mem_singleton.2 rfl)); rw [i1]; omega
  · show ∀ s, s.inv D → Good (MmS.inv D) (MmS.mu D) (fun s => .exit 3 (runN (MmS.lt D) (MmS.nxt D) D.len s)) s (s.step D).sel
    refine good_run (go := MmS.lt D) (next := MmS.nxt D) (MmS.dec D) (fun s h => by unfold MmS.mu; omega) ?_ ?_
    · intro s hi hg
      simp only [MmS.step, Rd.sel, hg, if_true]
    · intro s hi hg
      simp only [MmS.step, Rd.sel, hg, Bool.false_eq_true, if_false]

/-! A round's states. -/
structure ShS where
  k : W
  out : Sp
def hf (x : ShI) : W := powWr (x.bits - 1#64)
def entH (x : ShI) (s : ShS) : List (Nat × AV) := [(14, eI s.k), (0, eI x.op), (3, eI x.d), (4, eI x.bits), (6, .ptr 0 []), (10, .ptr 1 []), (12, .ptr 2 []), (13, eW (hf x))]
def hbsH (x : ShI) (s : ShS) : List (Nat × Option Blk) := [(0, some ⟨26, eSp x.a⟩), (1, some ⟨26, eSp nilS⟩), (2, some ⟨26, eSp s.out⟩)]
def sH (x : ShI) (s : ShS) : St := ⟨entH x s, fun _ => .un, hbsH x s, fun _ => none, 3, 132, 0⟩
def pH : List Nat := [1, 1, 1, 1, 1, 0, 1, 4, 5]
noncomputable def K7 : List Oper := opsIn 91 (pH ++ [0, 0])
noncomputable def K9 : List Oper := opsIn 91 (pH ++ [1, 0, 4, 0])
noncomputable def K13 : List Oper := opsIn 91 (pH ++ [1, 0, 4, 1, 0, 4, 0])
noncomputable def K14 : List Oper := opsIn 91 (pH ++ [1, 0, 4, 1, 0, 4, 1, 2])
noncomputable def K15 : List Oper := opsIn 91 (pH ++ [1, 0, 4, 1, 0, 4, 1, 3, 0])
noncomputable def K16 : List Oper := opsIn 91 (pH ++ [1, 0, 4, 1, 0, 4, 1, 3, 1, 2])
noncomputable def K10 : List Oper := opsIn 91 (pH ++ [1, 0, 4, 1, 0, 4, 1, 3, 1, 3, 0])
noncomputable def K11 : List Oper := opsIn 91 (pH ++ [1, 0, 4, 1, 0, 4, 1, 3, 1, 3, 1, 0])
noncomputable def K12 : List Oper := opsIn 91 (pH ++ [1, 0, 4, 1, 0, 4, 1, 3, 1, 3, 1, 1, 2])
noncomputable def K17 : Code := codeIn (bodyOf 91) (pH ++ [1, 0, 4, 1, 1])
noncomputable def K8 : List Oper := opsIn 91 (pH ++ [1, 1])
noncomputable def KH : Code := loopAt Tryz.prog 91 [1, 1, 1, 1, 1, 0, 1, 4]
noncomputable def KHe : Code := .seq (.seq (.region 7 K7.toArray false) (.cond (.tmp 39) .skip (.exit 0)))
  (.seq (.block 1 (.seq (.region 9 K9.toArray false) (.seq (.block 2 (.seq (.region 13 K13.toArray false) (.cond (.tmp 77) (.region 14 K14.toArray true)
    (.seq (.region 15 K15.toArray false) (.cond (.tmp 93) (.region 16 K16.toArray true) (.seq (.region 10 K10.toArray true) (.seq (.region 11 K11.toArray false) (.cond (.tmp 64) (.region 12 K12.toArray false) .skip)))))))) K17))) (.region 8 K8.toArray false))
theorem KH_eq : KH = KHe := by kernel_rfl
noncomputable def opX (l : List Oper) (k : Nat) : Oper := (l.drop k).headD default
theorem K9_eq : K9 = [opX K9 0] := by kernel_rfl
theorem K14_eq : K14.toArray.toList = (K14.take 12).toArray.toList ++ (opX K14 12 :: [opX K14 13]) := by kernel_rfl
theorem K16_eq : K16.toArray.toList = (K16.take 12).toArray.toList ++ (opX K16 12 :: [opX K16 13]) := by kernel_rfl
theorem K10_eq : K10.toArray.toList = (K10.take 12).toArray.toList ++ (opX K10 12 :: [opX K10 13]) := by kernel_rfl
theorem K12_eq : K12 = K12.take 11 ++ (opX K12 11 :: [opX K12 12]) := by kernel_rfl
theorem K14b : backOk K14.toArray = true ∧ noGd K14.toArray.toList = true ∧ waitAll K14.toArray (K14.take 12).toArray.size = true := ⟨by kernel_rfl, by kernel_rfl, by kernel_rfl⟩
theorem K16b : backOk K16.toArray = true ∧ noGd K16.toArray.toList = true ∧ waitAll K16.toArray (K16.take 12).toArray.size = true := ⟨by kernel_rfl, by kernel_rfl, by kernel_rfl⟩
theorem K10b : backOk K10.toArray = true ∧ noGd K10.toArray.toList = true ∧ waitAll K10.toArray (K10.take 12).toArray.size = true := ⟨by kernel_rfl, by kernel_rfl, by kernel_rfl⟩
end Go.Rf

/- Spans: the document's shifts, the states of a round. -/
namespace Go.Rf
open Go.Proofs

structure Eight (x : ShI) (s : ShS) (st : St) : Prop where
  nt : st.nt = 132
  lo : st.lo = 0
  l14 : st.look 14 = eI s.k
  l0 : st.look 0 = eI x.op
  l3 : st.look 3 = eI x.d
  l4 : st.look 4 = eI x.bits
  l6 : st.look 6 = .ptr 0 []
  l10 : st.look 10 = .ptr 1 []
  l12 : st.look 12 = .ptr 2 []
  l13 : st.look 13 = eW (hf x)
  b0 : st.hp 0 = some ⟨26, eSp x.a⟩
  b1 : st.hp 1 = some ⟨26, eSp nilS⟩
  b2 : st.hp 2 = some ⟨26, eSp s.out⟩

noncomputable def w7 (x : ShI) (s : ShS) : St := stOf1 (evalList cxZ K7 (sH x s))
theorem e7 (x : ShI) (s : ShS) : ∃ ob, evalList cxZ K7 (sH x s) = some (w7 x s, ob) ∧ ob.holds := fl_two (L := []) (by kernel_rfl) (by kernel_rfl) (by simp)
def ShS.go (x : ShI) (s : ShS) : Bool := leB .i64 s.k x.d
theorem w7g (x : ShI) (s : ShS) : (w7 x s).look 39 = .bool fun _ => s.go x := by kernel_rfl
theorem w7n (x : ShI) (s : ShS) : (w7 x s).nt = 132 := by kernel_rfl
noncomputable def w9 (x : ShI) (s : ShS) : St := { w7 x s with ent := (15, .vsl none 0) :: (w7 x s).ent }
noncomputable def w13 (x : ShI) (s : ShS) : St := stOf1 (evalList cxZ K13 (w9 x s))
theorem e13 (x : ShI) (s : ShS) : ∃ ob, evalList cxZ K13 (w9 x s) = some (w13 x s, ob) ∧ ob.holds := fl_two (L := []) (by kernel_rfl) (by kernel_rfl) (by simp)
theorem w13g (x : ShI) (s : ShS) : (w13 x s).look 77 = .bool fun _ => x.op == 6#64 := by kernel_rfl
def els2 (u v : W) : Nat → sW'.T := fun i => if i = 0 then u else v
noncomputable def bkOf (st : St) (n : Nat) : Blk := (st.hp n).getD ⟨0, .un⟩
theorem flat2 (u v : W) : flatN sW' 2 (els2 u v) = [.int .u64 (toZ .u64 u), .int .u64 (toZ .u64 v)] := by kernel_rfl
noncomputable def w15 (x : ShI) (s : ShS) : St := stOf1 (evalList cxZ K15 (w13 x s))
theorem e15 (x : ShI) (s : ShS) : ∃ ob, evalList cxZ K15 (w13 x s) = some (w15 x s, ob) ∧ ob.holds := fl_two (L := []) (by kernel_rfl) (by kernel_rfl) (by simp)
theorem w15g (x : ShI) (s : ShS) : (w15 x s).look 93 = .bool fun _ => x.op == 7#64 := by kernel_rfl

noncomputable def w14 (x : ShI) (s : ShS) : St := stOf1 (evalRegion cxZ (K14.take 12).toArray true (w13 x s))
theorem e14 (x : ShI) (s : ShS) : ∃ ob, evalRegion cxZ (K14.take 12).toArray true (w13 x s) = some (w14 x s, ob) ∧ ob.holds := fl_two (L := []) (by kernel_rfl) (by kernel_rfl) (by simp)
theorem w14e_0 (x : ShI) (s : ShS) : (w14 x s).nt = 132 := by kernel_rfl
theorem w14e_1 (x : ShI) (s : ShS) : (w14 x s).lo = 0 := by kernel_rfl
theorem w14e_2 (x : ShI) (s : ShS) : (w14 x s).look 14 = eI (s).k := by kernel_rfl
theorem w14e_3 (x : ShI) (s : ShS) : (w14 x s).look 0 = eI x.op := by kernel_rfl
theorem w14e_4 (x : ShI) (s : ShS) : (w14 x s).look 3 = eI x.d := by kernel_rfl
theorem w14e_5 (x : ShI) (s : ShS) : (w14 x s).look 4 = eI x.bits := by kernel_rfl
theorem w14e_6 (x : ShI) (s : ShS) : (w14 x s).look 6 = .ptr 0 [] := by kernel_rfl
theorem w14e_7 (x : ShI) (s : ShS) : (w14 x s).look 10 = .ptr 1 [] := by kernel_rfl
theorem w14e_8 (x : ShI) (s : ShS) : (w14 x s).look 12 = .ptr 2 [] := by kernel_rfl
theorem w14e_9 (x : ShI) (s : ShS) : (w14 x s).look 13 = eW (hf x) := by kernel_rfl
theorem w14e_10 (x : ShI) (s : ShS) : (w14 x s).hp 0 = some ⟨26, eSp x.a⟩ := by kernel_rfl
theorem w14e_11 (x : ShI) (s : ShS) : (w14 x s).hp 1 = some ⟨26, eSp nilS⟩ := by kernel_rfl
theorem w14e_12 (x : ShI) (s : ShS) : (w14 x s).hp 2 = some ⟨26, eSp (s).out⟩ := by kernel_rfl
theorem w14e (x : ShI) (s : ShS) : Eight x (s) (w14 x s) := ⟨w14e_0 x s, w14e_1 x s, w14e_2 x s, w14e_3 x s, w14e_4 x s, w14e_5 x s, w14e_6 x s, w14e_7 x s, w14e_8 x s, w14e_9 x s, w14e_10 x s, w14e_11 x s, w14e_12 x s⟩
theorem w14x (x : ShI) (s : ShS) : (w14 x s).next = 4 := by kernel_rfl
theorem w14l (x : ShI) (s : ShS) : (w14 x s).look 80 = .vsl none 0 := by kernel_rfl
theorem w14s (x : ShI) (s : ShS) : (w14 x s).look 91 = .slc 3 [] (.lit .i64 (2 : Nat)) 2 := by kernel_rfl
theorem w14b (x : ShI) (s : ShS) : (w14 x s).hp 3 = some (bkOf (w14 x s) 3) := by kernel_rfl
theorem w14r (x : ShI) (s : ShS) : noRaw (bkOf (w14 x s) 3).v = true := by kernel_rfl
theorem w14c1 (x : ShI) (s : ShS) (E : Env) : cells E [] (bkOf (w14 x s) 3).v = [.int .u64 (toZ .u64 (x.a.lo * powWr s.k)), .int .u64 (toZ .u64 (x.a.hi * powWr s.k))] := by kernel_rfl
theorem w14c (x : ShI) (s : ShS) (E : Env) : cells E [] (bkOf (w14 x s) 3).v = flatN sW' 2 (els2 (x.a.lo * powWr s.k) (x.a.hi * powWr s.k)) := (w14c1 x s E).trans (flat2 _ _).symm
theorem o14a : (opX K14 12).guard = none := by kernel_rfl
theorem o14b : (opX K14 12).op = .call { callee := .builtin .append, args := #[.tmp 80, .tmp 91], argTypes := #[122, 122] } := by kernel_rfl
theorem o14c : (opX K14 12).dst = some 92 := by kernel_rfl
noncomputable def c14 (x : ShI) (s : ShS) (D : SlD sW') : St := stOf1 (evalList cxZ [opX K14 13] (slSt D 4 92 (entH x s) (hbsH x s) 132 0))
theorem ec14 (x : ShI) (s : ShS) (D : SlD sW') : ∃ ob, evalList cxZ [opX K14 13] (slSt D 4 92 (entH x s) (hbsH x s) 132 0) = some (c14 x s D, ob) ∧ ob.holds := fl_two (L := []) (by kernel_rfl) (by kernel_rfl) (by simp)
theorem gc14 : noGd [opX K14 13] = true := by kernel_rfl
theorem c14e_0 (x : ShI) (s : ShS) (D : SlD sW') : (c14 x s D).nt = 132 := by kernel_rfl
theorem c14e_1 (x : ShI) (s : ShS) (D : SlD sW') : (c14 x s D).lo = 0 := by kernel_rfl
theorem c14e_2 (x : ShI) (s : ShS) (D : SlD sW') : (c14 x s D).look 14 = eI (s).k := by kernel_rfl
theorem c14e_3 (x : ShI) (s : ShS) (D : SlD sW') : (c14 x s D).look 0 = eI x.op := by kernel_rfl
theorem c14e_4 (x : ShI) (s : ShS) (D : SlD sW') : (c14 x s D).look 3 = eI x.d := by kernel_rfl
theorem c14e_5 (x : ShI) (s : ShS) (D : SlD sW') : (c14 x s D).look 4 = eI x.bits := by kernel_rfl
theorem c14e_6 (x : ShI) (s : ShS) (D : SlD sW') : (c14 x s D).look 6 = .ptr 0 [] := by kernel_rfl
theorem c14e_7 (x : ShI) (s : ShS) (D : SlD sW') : (c14 x s D).look 10 = .ptr 1 [] := by kernel_rfl
theorem c14e_8 (x : ShI) (s : ShS) (D : SlD sW') : (c14 x s D).look 12 = .ptr 2 [] := by kernel_rfl
theorem c14e_9 (x : ShI) (s : ShS) (D : SlD sW') : (c14 x s D).look 13 = eW (hf x) := by kernel_rfl
theorem c14e_10 (x : ShI) (s : ShS) (D : SlD sW') : (c14 x s D).hp 0 = some ⟨26, eSp x.a⟩ := by kernel_rfl
theorem c14e_11 (x : ShI) (s : ShS) (D : SlD sW') : (c14 x s D).hp 1 = some ⟨26, eSp nilS⟩ := by kernel_rfl
theorem c14e_12 (x : ShI) (s : ShS) (D : SlD sW') : (c14 x s D).hp 2 = some ⟨26, eSp (s).out⟩ := by kernel_rfl
theorem c14e (x : ShI) (s : ShS) (D : SlD sW') : Eight x (s) (c14 x s D) := ⟨c14e_0 x s D, c14e_1 x s D, c14e_2 x s D, c14e_3 x s D, c14e_4 x s D, c14e_5 x s D, c14e_6 x s D, c14e_7 x s D, c14e_8 x s D, c14e_9 x s D, c14e_10 x s D, c14e_11 x s D, c14e_12 x s D⟩
theorem c14d (x : ShI) (s : ShS) (D : SlD sW') : (c14 x s D).look 15 = D.at 4 := by kernel_rfl
theorem c14b (x : ShI) (s : ShS) (D : SlD sW') : (c14 x s D).hp 4 = some D.blk := by kernel_rfl
noncomputable def w16 (x : ShI) (s : ShS) : St := stOf1 (evalRegion cxZ (K16.take 12).toArray true (w15 x s))
theorem e16 (x : ShI) (s : ShS) (hp : powWr s.k ≠ 0#64) : ∃ ob, evalRegion cxZ (K16.take 12).toArray true (w15 x s) = some (w16 x s, ob) ∧ ob.holds := fl_two (L := [powWr s.k ≠ 0#64, powWr s.k ≠ 0#64]) (by kernel_rfl) (by kernel_rfl) (fun p h => by simp only [List.mem_cons, List.not_mem_nil, or_false] at h; rcases h with rfl | rfl <;> exact hp)
theorem w16e_0 (x : ShI) (s : ShS) : (w16 x s).nt = 132 := by kernel_rfl
theorem w16e_1 (x : ShI) (s : ShS) : (w16 x s).lo = 0 := by kernel_rfl
theorem w16e_2 (x : ShI) (s : ShS) : (w16 x s).look 14 = eI (s).k := by kernel_rfl
theorem w16e_3 (x : ShI) (s : ShS) : (w16 x s).look 0 = eI x.op := by kernel_rfl
theorem w16e_4 (x : ShI) (s : ShS) : (w16 x s).look 3 = eI x.d := by kernel_rfl
theorem w16e_5 (x : ShI) (s : ShS) : (w16 x s).look 4 = eI x.bits := by kernel_rfl
theorem w16e_6 (x : ShI) (s : ShS) : (w16 x s).look 6 = .ptr 0 [] := by kernel_rfl
theorem w16e_7 (x : ShI) (s : ShS) : (w16 x s).look 10 = .ptr 1 [] := by kernel_rfl
theorem w16e_8 (x : ShI) (s : ShS) : (w16 x s).look 12 = .ptr 2 [] := by kernel_rfl
theorem w16e_9 (x : ShI) (s : ShS) : (w16 x s).look 13 = eW (hf x) := by kernel_rfl
theorem w16e_10 (x : ShI) (s : ShS) : (w16 x s).hp 0 = some ⟨26, eSp x.a⟩ := by kernel_rfl
theorem w16e_11 (x : ShI) (s : ShS) : (w16 x s).hp 1 = some ⟨26, eSp nilS⟩ := by kernel_rfl
theorem w16e_12 (x : ShI) (s : ShS) : (w16 x s).hp 2 = some ⟨26, eSp (s).out⟩ := by kernel_rfl
theorem w16e (x : ShI) (s : ShS) : Eight x (s) (w16 x s) := ⟨w16e_0 x s, w16e_1 x s, w16e_2 x s, w16e_3 x s, w16e_4 x s, w16e_5 x s, w16e_6 x s, w16e_7 x s, w16e_8 x s, w16e_9 x s, w16e_10 x s, w16e_11 x s, w16e_12 x s⟩
theorem w16x (x : ShI) (s : ShS) : (w16 x s).next = 4 := by kernel_rfl
theorem w16l (x : ShI) (s : ShS) : (w16 x s).look 96 = .vsl none 0 := by kernel_rfl
theorem w16s (x : ShI) (s : ShS) : (w16 x s).look 107 = .slc 3 [] (.lit .i64 (2 : Nat)) 2 := by kernel_rfl
theorem w16b (x : ShI) (s : ShS) : (w16 x s).hp 3 = some (bkOf (w16 x s) 3) := by kernel_rfl
theorem w16r (x : ShI) (s : ShS) : noRaw (bkOf (w16 x s) 3).v = true := by kernel_rfl
theorem w16c1 (x : ShI) (s : ShS) (E : Env) : cells E [] (bkOf (w16 x s) 3).v = [.int .u64 (toZ .u64 (quoW x.a.lo (powWr s.k))), .int .u64 (toZ .u64 (quoW x.a.hi (powWr s.k)))] := by kernel_rfl
theorem w16c (x : ShI) (s : ShS) (E : Env) : cells E [] (bkOf (w16 x s) 3).v = flatN sW' 2 (els2 (quoW x.a.lo (powWr s.k)) (quoW x.a.hi (powWr s.k))) := (w16c1 x s E).trans (flat2 _ _).symm
theorem o16a : (opX K16 12).guard = none := by kernel_rfl
theorem o16b : (opX K16 12).op = .call { callee := .builtin .append, args := #[.tmp 96, .tmp 107], argTypes := #[122, 122] } := by kernel_rfl
theorem o16c : (opX K16 12).dst = some 108 := by kernel_rfl
noncomputable def c16 (x : ShI) (s : ShS) (D : SlD sW') : St := stOf1 (evalList cxZ [opX K16 13] (slSt D 4 108 (entH x s) (hbsH x s) 132 0))
theorem ec16 (x : ShI) (s : ShS) (D : SlD sW') : ∃ ob, evalList cxZ [opX K16 13] (slSt D 4 108 (entH x s) (hbsH x s) 132 0) = some (c16 x s D, ob) ∧ ob.holds := fl_two (L := []) (by kernel_rfl) (by kernel_rfl) (by simp)
theorem gc16 : noGd [opX K16 13] = true := by kernel_rfl
theorem c16e_0 (x : ShI) (s : ShS) (D : SlD sW') : (c16 x s D).nt = 132 := by kernel_rfl
theorem c16e_1 (x : ShI) (s : ShS) (D : SlD sW') : (c16 x s D).lo = 0 := by kernel_rfl
theorem c16e_2 (x : ShI) (s : ShS) (D : SlD sW') : (c16 x s D).look 14 = eI (s).k := by kernel_rfl
theorem c16e_3 (x : ShI) (s : ShS) (D : SlD sW') : (c16 x s D).look 0 = eI x.op := by kernel_rfl
theorem c16e_4 (x : ShI) (s : ShS) (D : SlD sW') : (c16 x s D).look 3 = eI x.d := by kernel_rfl
theorem c16e_5 (x : ShI) (s : ShS) (D : SlD sW') : (c16 x s D).look 4 = eI x.bits := by kernel_rfl
theorem c16e_6 (x : ShI) (s : ShS) (D : SlD sW') : (c16 x s D).look 6 = .ptr 0 [] := by kernel_rfl
theorem c16e_7 (x : ShI) (s : ShS) (D : SlD sW') : (c16 x s D).look 10 = .ptr 1 [] := by kernel_rfl
theorem c16e_8 (x : ShI) (s : ShS) (D : SlD sW') : (c16 x s D).look 12 = .ptr 2 [] := by kernel_rfl
theorem c16e_9 (x : ShI) (s : ShS) (D : SlD sW') : (c16 x s D).look 13 = eW (hf x) := by kernel_rfl
theorem c16e_10 (x : ShI) (s : ShS) (D : SlD sW') : (c16 x s D).hp 0 = some ⟨26, eSp x.a⟩ := by kernel_rfl
theorem c16e_11 (x : ShI) (s : ShS) (D : SlD sW') : (c16 x s D).hp 1 = some ⟨26, eSp nilS⟩ := by kernel_rfl
theorem c16e_12 (x : ShI) (s : ShS) (D : SlD sW') : (c16 x s D).hp 2 = some ⟨26, eSp (s).out⟩ := by kernel_rfl
theorem c16e (x : ShI) (s : ShS) (D : SlD sW') : Eight x (s) (c16 x s D) := ⟨c16e_0 x s D, c16e_1 x s D, c16e_2 x s D, c16e_3 x s D, c16e_4 x s D, c16e_5 x s D, c16e_6 x s D, c16e_7 x s D, c16e_8 x s D, c16e_9 x s D, c16e_10 x s D, c16e_11 x s D, c16e_12 x s D⟩
theorem c16d (x : ShI) (s : ShS) (D : SlD sW') : (c16 x s D).look 15 = D.at 4 := by kernel_rfl
theorem c16b (x : ShI) (s : ShS) (D : SlD sW') : (c16 x s D).hp 4 = some D.blk := by kernel_rfl
noncomputable def w10 (x : ShI) (s : ShS) : St := stOf1 (evalRegion cxZ (K10.take 12).toArray true (w15 x s))
theorem e10 (x : ShI) (s : ShS) : ∃ ob, evalRegion cxZ (K10.take 12).toArray true (w15 x s) = some (w10 x s, ob) ∧ ob.holds := fl_two (L := []) (by kernel_rfl) (by kernel_rfl) (by simp)
theorem w10e_0 (x : ShI) (s : ShS) : (w10 x s).nt = 132 := by kernel_rfl
theorem w10e_1 (x : ShI) (s : ShS) : (w10 x s).lo = 0 := by kernel_rfl
theorem w10e_2 (x : ShI) (s : ShS) : (w10 x s).look 14 = eI (s).k := by kernel_rfl
theorem w10e_3 (x : ShI) (s : ShS) : (w10 x s).look 0 = eI x.op := by kernel_rfl
theorem w10e_4 (x : ShI) (s : ShS) : (w10 x s).look 3 = eI x.d := by kernel_rfl
theorem w10e_5 (x : ShI) (s : ShS) : (w10 x s).look 4 = eI x.bits := by kernel_rfl
theorem w10e_6 (x : ShI) (s : ShS) : (w10 x s).look 6 = .ptr 0 [] := by kernel_rfl
theorem w10e_7 (x : ShI) (s : ShS) : (w10 x s).look 10 = .ptr 1 [] := by kernel_rfl
theorem w10e_8 (x : ShI) (s : ShS) : (w10 x s).look 12 = .ptr 2 [] := by kernel_rfl
theorem w10e_9 (x : ShI) (s : ShS) : (w10 x s).look 13 = eW (hf x) := by kernel_rfl
theorem w10e_10 (x : ShI) (s : ShS) : (w10 x s).hp 0 = some ⟨26, eSp x.a⟩ := by kernel_rfl
theorem w10e_11 (x : ShI) (s : ShS) : (w10 x s).hp 1 = some ⟨26, eSp nilS⟩ := by kernel_rfl
theorem w10e_12 (x : ShI) (s : ShS) : (w10 x s).hp 2 = some ⟨26, eSp (s).out⟩ := by kernel_rfl
theorem w10e (x : ShI) (s : ShS) : Eight x (s) (w10 x s) := ⟨w10e_0 x s, w10e_1 x s, w10e_2 x s, w10e_3 x s, w10e_4 x s, w10e_5 x s, w10e_6 x s, w10e_7 x s, w10e_8 x s, w10e_9 x s, w10e_10 x s, w10e_11 x s, w10e_12 x s⟩
theorem w10x (x : ShI) (s : ShS) : (w10 x s).next = 4 := by kernel_rfl
theorem w10l (x : ShI) (s : ShS) : (w10 x s).look 42 = .vsl none 0 := by kernel_rfl
theorem w10s (x : ShI) (s : ShS) : (w10 x s).look 53 = .slc 3 [] (.lit .i64 (2 : Nat)) 2 := by kernel_rfl
theorem w10b (x : ShI) (s : ShS) : (w10 x s).hp 3 = some (bkOf (w10 x s) 3) := by kernel_rfl
theorem w10r (x : ShI) (s : ShS) : noRaw (bkOf (w10 x s) 3).v = true := by kernel_rfl
theorem w10c1 (x : ShI) (s : ShS) (E : Env) : cells E [] (bkOf (w10 x s) 3).v = [.int .u64 (toZ .u64 (drawnR x.a.lo s.k x.bits)), .int .u64 (toZ .u64 (drawnR x.a.hi s.k x.bits))] := by kernel_rfl
theorem w10c (x : ShI) (s : ShS) (E : Env) : cells E [] (bkOf (w10 x s) 3).v = flatN sW' 2 (els2 (drawnR x.a.lo s.k x.bits) (drawnR x.a.hi s.k x.bits)) := (w10c1 x s E).trans (flat2 _ _).symm
theorem o10a : (opX K10 12).guard = none := by kernel_rfl
theorem o10b : (opX K10 12).op = .call { callee := .builtin .append, args := #[.tmp 42, .tmp 53], argTypes := #[122, 122] } := by kernel_rfl
theorem o10c : (opX K10 12).dst = some 54 := by kernel_rfl
noncomputable def c10 (x : ShI) (s : ShS) (D : SlD sW') : St := stOf1 (evalList cxZ [opX K10 13] (slSt D 4 54 (entH x s) (hbsH x s) 132 0))
theorem ec10 (x : ShI) (s : ShS) (D : SlD sW') : ∃ ob, evalList cxZ [opX K10 13] (slSt D 4 54 (entH x s) (hbsH x s) 132 0) = some (c10 x s D, ob) ∧ ob.holds := fl_two (L := []) (by kernel_rfl) (by kernel_rfl) (by simp)
theorem gc10 : noGd [opX K10 13] = true := by kernel_rfl
theorem c10e_0 (x : ShI) (s : ShS) (D : SlD sW') : (c10 x s D).nt = 132 := by kernel_rfl
theorem c10e_1 (x : ShI) (s : ShS) (D : SlD sW') : (c10 x s D).lo = 0 := by kernel_rfl
theorem c10e_2 (x : ShI) (s : ShS) (D : SlD sW') : (c10 x s D).look 14 = eI (s).k := by kernel_rfl
theorem c10e_3 (x : ShI) (s : ShS) (D : SlD sW') : (c10 x s D).look 0 = eI x.op := by kernel_rfl
theorem c10e_4 (x : ShI) (s : ShS) (D : SlD sW') : (c10 x s D).look 3 = eI x.d := by kernel_rfl
theorem c10e_5 (x : ShI) (s : ShS) (D : SlD sW') : (c10 x s D).look 4 = eI x.bits := by kernel_rfl
theorem c10e_6 (x : ShI) (s : ShS) (D : SlD sW') : (c10 x s D).look 6 = .ptr 0 [] := by kernel_rfl
theorem c10e_7 (x : ShI) (s : ShS) (D : SlD sW') : (c10 x s D).look 10 = .ptr 1 [] := by kernel_rfl
theorem c10e_8 (x : ShI) (s : ShS) (D : SlD sW') : (c10 x s D).look 12 = .ptr 2 [] := by kernel_rfl
theorem c10e_9 (x : ShI) (s : ShS) (D : SlD sW') : (c10 x s D).look 13 = eW (hf x) := by kernel_rfl
theorem c10e_10 (x : ShI) (s : ShS) (D : SlD sW') : (c10 x s D).hp 0 = some ⟨26, eSp x.a⟩ := by kernel_rfl
theorem c10e_11 (x : ShI) (s : ShS) (D : SlD sW') : (c10 x s D).hp 1 = some ⟨26, eSp nilS⟩ := by kernel_rfl
theorem c10e_12 (x : ShI) (s : ShS) (D : SlD sW') : (c10 x s D).hp 2 = some ⟨26, eSp (s).out⟩ := by kernel_rfl
theorem c10e (x : ShI) (s : ShS) (D : SlD sW') : Eight x (s) (c10 x s D) := ⟨c10e_0 x s D, c10e_1 x s D, c10e_2 x s D, c10e_3 x s D, c10e_4 x s D, c10e_5 x s D, c10e_6 x s D, c10e_7 x s D, c10e_8 x s D, c10e_9 x s D, c10e_10 x s D, c10e_11 x s D, c10e_12 x s D⟩
theorem c10d (x : ShI) (s : ShS) (D : SlD sW') : (c10 x s D).look 15 = D.at 4 := by kernel_rfl
theorem c10b (x : ShI) (s : ShS) (D : SlD sW') : (c10 x s D).hp 4 = some D.blk := by kernel_rfl
def cD (x : ShI) (s : ShS) (D : SlD sW') : St := slSt D 4 15 (entH x s) (hbsH x s) 132 0
noncomputable def w11 (x : ShI) (s : ShS) (D : SlD sW') : St := stOf1 (evalList cxZ K11 (cD x s D))
theorem e11 (x : ShI) (s : ShS) (D : SlD sW') : ∃ ob, evalList cxZ K11 (cD x s D) = some (w11 x s D, ob) ∧ ob.holds := fl_two (L := []) (by kernel_rfl) (by kernel_rfl) (by simp)
def mixC (x : ShI) : Bool := ltB .u64 x.a.lo (hf x) && leB .u64 (hf x) x.a.hi
theorem w11g (x : ShI) (s : ShS) (D : SlD sW') : (w11 x s D).look 64 = .bool fun _ => mixC x := by kernel_rfl
theorem w11d (x : ShI) (s : ShS) (D : SlD sW') : (w11 x s D).look 15 = D.at 4 := by kernel_rfl
theorem w11b (x : ShI) (s : ShS) (D : SlD sW') : (w11 x s D).hp 4 = some D.blk := by kernel_rfl
noncomputable def w12 (x : ShI) (s : ShS) (D : SlD sW') : St := stOf1 (evalList cxZ (K12.take 11) (w11 x s D))
theorem e12 (x : ShI) (s : ShS) (D : SlD sW') : ∃ ob, evalList cxZ (K12.take 11) (w11 x s D) = some (w12 x s D, ob) ∧ ob.holds := fl_two (L := []) (by kernel_rfl) (by kernel_rfl) (by simp)
theorem w12l (x : ShI) (s : ShS) (D : SlD sW') : (w12 x s D).look 65 = D.at 4 := by kernel_rfl
theorem w12h (x : ShI) (s : ShS) (D : SlD sW') : (w12 x s D).hp 4 = some D.blk := by kernel_rfl
theorem w12s (x : ShI) (s : ShS) (D : SlD sW') : (w12 x s D).look 75 = .slc 5 [] (.lit .i64 (2 : Nat)) 2 := by kernel_rfl
theorem w12b (x : ShI) (s : ShS) (D : SlD sW') : (w12 x s D).hp 5 = some (bkOf (w12 x s D) 5) := by kernel_rfl
theorem w12r (x : ShI) (s : ShS) (D : SlD sW') : noRaw (bkOf (w12 x s D) 5).v = true := by kernel_rfl
theorem w12c1 (x : ShI) (s : ShS) (D : SlD sW') (E : Env) : cells E [] (bkOf (w12 x s D) 5).v = [.int .u64 (toZ .u64 (drawnR (hf x - 1#64) s.k x.bits)), .int .u64 (toZ .u64 (drawnR (hf x) s.k x.bits))] := by kernel_rfl
theorem w12c (x : ShI) (s : ShS) (D : SlD sW') (E : Env) : cells E [] (bkOf (w12 x s D) 5).v = flatN sW' 2 (els2 (drawnR (hf x - 1#64) s.k x.bits) (drawnR (hf x) s.k x.bits)) := (w12c1 x s D E).trans (flat2 _ _).symm
theorem gK12 : noGd K12 = true := by kernel_rfl
theorem gK12a : noGd (K12.take 11) = true := by kernel_rfl
theorem o12a : (opX K12 11).guard = none := by kernel_rfl
theorem o12b : (opX K12 11).op = .call { callee := .builtin .append, args := #[.tmp 65, .tmp 75], argTypes := #[122, 122] } := by kernel_rfl
theorem o12c : (opX K12 11).dst = some 76 := by kernel_rfl
noncomputable def c12 (x : ShI) (s : ShS) (D : SlD sW') : St := stOf1 (evalList cxZ [opX K12 12] (slSt D 4 76 (entH x s) (hbsH x s) 132 0))
theorem ec12 (x : ShI) (s : ShS) (D : SlD sW') : ∃ ob, evalList cxZ [opX K12 12] (slSt D 4 76 (entH x s) (hbsH x s) 132 0) = some (c12 x s D, ob) ∧ ob.holds := fl_two (L := []) (by kernel_rfl) (by kernel_rfl) (by simp)
theorem gc12 : noGd [opX K12 12] = true := by kernel_rfl
theorem c12d (x : ShI) (s : ShS) (D : SlD sW') : (c12 x s D).look 15 = D.at 4 := by kernel_rfl
theorem c12b (x : ShI) (s : ShS) (D : SlD sW') : (c12 x s D).hp 4 = some D.blk := by kernel_rfl
noncomputable def hMm (D : SlD sW') : Hook := fun p => if p == [1, 4] then some ((lpMm D).hk (MmS.T D)) else none
noncomputable def w17 (x : ShI) (s : ShS) (D : SlD sW') : St := outN1 (evalCode cxZ (hMm D) K17 [] (cD x s D))
theorem e17 (x : ShI) (s : ShS) (D : SlD sW') (hl : D.len < 2 ^ 62) : ∃ ob, evalCode cxZ (hMm D) K17 [] (cD x s D) = some (.norm (w17 x s D), ob) ∧ ob.holds := fl_two (L := [LoopGoal Tryz.prog (loopAt Tryz.prog 91 pSh) (lpMm D) (MmS.T D) ⟨s.out, 0#64⟩ 5 132 0]) (by kernel_rfl) (by kernel_rfl) (fun p hp => by
  simp only [List.mem_singleton] at hp
  subst hp
  exact goalMm D _ ⟨hl, Nat.zero_le _⟩)
noncomputable def w8 (x : ShI) (s : ShS) (D : SlD sW') : St := stOf1 (evalList cxZ K8 (w17 x s D))
theorem e8' (x : ShI) (s : ShS) (D : SlD sW') : ∃ ob, evalList cxZ K8 (w17 x s D) = some (w8 x s D, ob) ∧ ob.holds := fl_two (L := []) (by kernel_rfl) (by kernel_rfl) (by simp)
def ShS.to (s : ShS) (D : SlD sW') : ShS := ⟨s.k + 1#64, (MmS.run D ⟨s.out, 0#64⟩).out⟩

theorem w11e_0 (x : ShI) (s : ShS) (D : SlD sW') : (w11 x s D).nt = 132 := by kernel_rfl
theorem w11e_1 (x : ShI) (s : ShS) (D : SlD sW') : (w11 x s D).lo = 0 := by kernel_rfl
theorem w11e_2 (x : ShI) (s : ShS) (D : SlD sW') : (w11 x s D).look 14 = eI (s).k := by kernel_rfl
theorem w11e_3 (x : ShI) (s : ShS) (D : SlD sW') : (w11 x s D).look 0 = eI x.op := by kernel_rfl
theorem w11e_4 (x : ShI) (s : ShS) (D : SlD sW') : (w11 x s D).look 3 = eI x.d := by kernel_rfl
theorem w11e_5 (x : ShI) (s : ShS) (D : SlD sW') : (w11 x s D).look 4 = eI x.bits := by kernel_rfl
theorem w11e_6 (x : ShI) (s : ShS) (D : SlD sW') : (w11 x s D).look 6 = .ptr 0 [] := by kernel_rfl
theorem w11e_7 (x : ShI) (s : ShS) (D : SlD sW') : (w11 x s D).look 10 = .ptr 1 [] := by kernel_rfl
theorem w11e_8 (x : ShI) (s : ShS) (D : SlD sW') : (w11 x s D).look 12 = .ptr 2 [] := by kernel_rfl
theorem w11e_9 (x : ShI) (s : ShS) (D : SlD sW') : (w11 x s D).look 13 = eW (hf x) := by kernel_rfl
theorem w11e_10 (x : ShI) (s : ShS) (D : SlD sW') : (w11 x s D).hp 0 = some ⟨26, eSp x.a⟩ := by kernel_rfl
theorem w11e_11 (x : ShI) (s : ShS) (D : SlD sW') : (w11 x s D).hp 1 = some ⟨26, eSp nilS⟩ := by kernel_rfl
theorem w11e_12 (x : ShI) (s : ShS) (D : SlD sW') : (w11 x s D).hp 2 = some ⟨26, eSp (s).out⟩ := by kernel_rfl
theorem w11e (x : ShI) (s : ShS) (D : SlD sW') : Eight x (s) (w11 x s D) := ⟨w11e_0 x s D, w11e_1 x s D, w11e_2 x s D, w11e_3 x s D, w11e_4 x s D, w11e_5 x s D, w11e_6 x s D, w11e_7 x s D, w11e_8 x s D, w11e_9 x s D, w11e_10 x s D, w11e_11 x s D, w11e_12 x s D⟩
theorem w12e_0 (x : ShI) (s : ShS) (D : SlD sW') : (w12 x s D).nt = 132 := by kernel_rfl
theorem w12e_1 (x : ShI) (s : ShS) (D : SlD sW') : (w12 x s D).lo = 0 := by kernel_rfl
theorem w12e_2 (x : ShI) (s : ShS) (D : SlD sW') : (w12 x s D).look 14 = eI (s).k := by kernel_rfl
theorem w12e_3 (x : ShI) (s : ShS) (D : SlD sW') : (w12 x s D).look 0 = eI x.op := by kernel_rfl
theorem w12e_4 (x : ShI) (s : ShS) (D : SlD sW') : (w12 x s D).look 3 = eI x.d := by kernel_rfl
theorem w12e_5 (x : ShI) (s : ShS) (D : SlD sW') : (w12 x s D).look 4 = eI x.bits := by kernel_rfl
theorem w12e_6 (x : ShI) (s : ShS) (D : SlD sW') : (w12 x s D).look 6 = .ptr 0 [] := by kernel_rfl
theorem w12e_7 (x : ShI) (s : ShS) (D : SlD sW') : (w12 x s D).look 10 = .ptr 1 [] := by kernel_rfl
theorem w12e_8 (x : ShI) (s : ShS) (D : SlD sW') : (w12 x s D).look 12 = .ptr 2 [] := by kernel_rfl
theorem w12e_9 (x : ShI) (s : ShS) (D : SlD sW') : (w12 x s D).look 13 = eW (hf x) := by kernel_rfl
theorem w12e_10 (x : ShI) (s : ShS) (D : SlD sW') : (w12 x s D).hp 0 = some ⟨26, eSp x.a⟩ := by kernel_rfl
theorem w12e_11 (x : ShI) (s : ShS) (D : SlD sW') : (w12 x s D).hp 1 = some ⟨26, eSp nilS⟩ := by kernel_rfl
theorem w12e_12 (x : ShI) (s : ShS) (D : SlD sW') : (w12 x s D).hp 2 = some ⟨26, eSp (s).out⟩ := by kernel_rfl
theorem w12e (x : ShI) (s : ShS) (D : SlD sW') : Eight x (s) (w12 x s D) := ⟨w12e_0 x s D, w12e_1 x s D, w12e_2 x s D, w12e_3 x s D, w12e_4 x s D, w12e_5 x s D, w12e_6 x s D, w12e_7 x s D, w12e_8 x s D, w12e_9 x s D, w12e_10 x s D, w12e_11 x s D, w12e_12 x s D⟩
theorem c12e_0 (x : ShI) (s : ShS) (D : SlD sW') : (c12 x s D).nt = 132 := by kernel_rfl
theorem c12e_1 (x : ShI) (s : ShS) (D : SlD sW') : (c12 x s D).lo = 0 := by kernel_rfl
theorem c12e_2 (x : ShI) (s : ShS) (D : SlD sW') : (c12 x s D).look 14 = eI (s).k := by kernel_rfl
theorem c12e_3 (x : ShI) (s : ShS) (D : SlD sW') : (c12 x s D).look 0 = eI x.op := by kernel_rfl
theorem c12e_4 (x : ShI) (s : ShS) (D : SlD sW') : (c12 x s D).look 3 = eI x.d := by kernel_rfl
theorem c12e_5 (x : ShI) (s : ShS) (D : SlD sW') : (c12 x s D).look 4 = eI x.bits := by kernel_rfl
theorem c12e_6 (x : ShI) (s : ShS) (D : SlD sW') : (c12 x s D).look 6 = .ptr 0 [] := by kernel_rfl
theorem c12e_7 (x : ShI) (s : ShS) (D : SlD sW') : (c12 x s D).look 10 = .ptr 1 [] := by kernel_rfl
theorem c12e_8 (x : ShI) (s : ShS) (D : SlD sW') : (c12 x s D).look 12 = .ptr 2 [] := by kernel_rfl
theorem c12e_9 (x : ShI) (s : ShS) (D : SlD sW') : (c12 x s D).look 13 = eW (hf x) := by kernel_rfl
theorem c12e_10 (x : ShI) (s : ShS) (D : SlD sW') : (c12 x s D).hp 0 = some ⟨26, eSp x.a⟩ := by kernel_rfl
theorem c12e_11 (x : ShI) (s : ShS) (D : SlD sW') : (c12 x s D).hp 1 = some ⟨26, eSp nilS⟩ := by kernel_rfl
theorem c12e_12 (x : ShI) (s : ShS) (D : SlD sW') : (c12 x s D).hp 2 = some ⟨26, eSp (s).out⟩ := by kernel_rfl
theorem c12e (x : ShI) (s : ShS) (D : SlD sW') : Eight x (s) (c12 x s D) := ⟨c12e_0 x s D, c12e_1 x s D, c12e_2 x s D, c12e_3 x s D, c12e_4 x s D, c12e_5 x s D, c12e_6 x s D, c12e_7 x s D, c12e_8 x s D, c12e_9 x s D, c12e_10 x s D, c12e_11 x s D, c12e_12 x s D⟩
theorem w8e_0 (x : ShI) (s : ShS) (D : SlD sW') : (w8 x s D).nt = 132 := by kernel_rfl
theorem w8e_1 (x : ShI) (s : ShS) (D : SlD sW') : (w8 x s D).lo = 0 := by kernel_rfl
theorem w8e_2 (x : ShI) (s : ShS) (D : SlD sW') : (w8 x s D).look 14 = eI (s.to D).k := by kernel_rfl
theorem w8e_3 (x : ShI) (s : ShS) (D : SlD sW') : (w8 x s D).look 0 = eI x.op := by kernel_rfl
theorem w8e_4 (x : ShI) (s : ShS) (D : SlD sW') : (w8 x s D).look 3 = eI x.d := by kernel_rfl
theorem w8e_5 (x : ShI) (s : ShS) (D : SlD sW') : (w8 x s D).look 4 = eI x.bits := by kernel_rfl
theorem w8e_6 (x : ShI) (s : ShS) (D : SlD sW') : (w8 x s D).look 6 = .ptr 0 [] := by kernel_rfl
theorem w8e_7 (x : ShI) (s : ShS) (D : SlD sW') : (w8 x s D).look 10 = .ptr 1 [] := by kernel_rfl
theorem w8e_8 (x : ShI) (s : ShS) (D : SlD sW') : (w8 x s D).look 12 = .ptr 2 [] := by kernel_rfl
theorem w8e_9 (x : ShI) (s : ShS) (D : SlD sW') : (w8 x s D).look 13 = eW (hf x) := by kernel_rfl
theorem w8e_10 (x : ShI) (s : ShS) (D : SlD sW') : (w8 x s D).hp 0 = some ⟨26, eSp x.a⟩ := by kernel_rfl
theorem w8e_11 (x : ShI) (s : ShS) (D : SlD sW') : (w8 x s D).hp 1 = some ⟨26, eSp nilS⟩ := by kernel_rfl
theorem w8e_12 (x : ShI) (s : ShS) (D : SlD sW') : (w8 x s D).hp 2 = some ⟨26, eSp (s.to D).out⟩ := by kernel_rfl
theorem w8e (x : ShI) (s : ShS) (D : SlD sW') : Eight x (s.to D) (w8 x s D) := ⟨w8e_0 x s D, w8e_1 x s D, w8e_2 x s D, w8e_3 x s D, w8e_4 x s D, w8e_5 x s D, w8e_6 x s D, w8e_7 x s D, w8e_8 x s D, w8e_9 x s D, w8e_10 x s D, w8e_11 x s D, w8e_12 x s D⟩
end Go.Rf

/- Spans: a round of the document's shifts. -/
namespace Go.Rf
open Go.Proofs

theorem regZ {l : List Oper} {st st' : St} (he : ∃ ob, evalList cxZ l st = some (st', ob) ∧ ob.holds) {id : Nat} {Es : Env} {ws : World} {a : Act} {w : World} (hs : SRel Es ws st a w) {Q : Exit → Act → World → Prop} (hQ : ∀ a' w', SRel Es ws st' a' w' → Q .normal a' w') :
    (Code.region id l.toArray false).wp Tryz.prog Q a w := by
  obtain ⟨ob, h1, h2⟩ := he
  exact region_wp (cx := cxZ) rtz1 hIZ h1 h2 hs hQ
theorem lstZ {l : List Oper} {st st' : St} (hg : noGd l = true) (he : ∃ ob, evalList cxZ l st = some (st', ob) ∧ ob.holds) {Es : Env} {ws : World} {a : Act} {w : World} (hs : SRel Es ws st a w) {Q : Exit → Act → World → Prop} (hQ : ∀ a' w', SRel Es ws st' a' w' → Q .normal a' w') :
    wpList Tryz.prog #[] Q l a w := by
  obtain ⟨ob, h1, h2⟩ := he
  exact evalList_wp (cx := cxZ) rtz1 hIZ hg h1 h2 hs hQ
theorem codZ {c : Code} {Λ : Hook} {p : List Nat} {st st' : St} (he : ∃ ob, evalCode cxZ Λ c p st = some (.norm st', ob) ∧ ob.holds) {Es : Env} {ws : World} {a : Act} {w : World} (hs : SRel Es ws st a w) {Q : Exit → Act → World → Prop} (hQ : ∀ a' w', SRel Es ws st' a' w' → Q .normal a' w') :
    c.wp Tryz.prog Q a w := by
  obtain ⟨ob, h1, h2⟩ := he
  refine wp_mono (evalCode_wp (cx := cxZ) rtz1 hIZ c p st _ ob h1 h2 a w hs) fun e a' w' hm => ?_
  cases e <;> simp only [MatchO] at hm
  exact hQ a' w' hm
theorem anyZ {ops A : Array Oper} {T : List Oper} {st st' : St} (hops : ops.toList = A.toList ++ T) (hb : backOk ops = true ∧ noGd ops.toList = true ∧ waitAll ops A.size = true) (he : ∃ ob, evalRegion cxZ A true st = some (st', ob) ∧ ob.holds) {id : Nat}
    {Es : Env} {ws : World} {a : Act} {w : World} (hs : SRel Es ws st a w) {Q : Exit → Act → World → Prop} (hQ : ∀ a' w', SRel Es ws st' a' w' → wpList Tryz.prog #[] Q T a' w') : (Code.region id ops true).wp Tryz.prog Q a w := by
  obtain ⟨ob, h1, h2⟩ := he
  exact region_split (cx := cxZ) rtz1 hIZ hops hb.1 hb.2.1 hb.2.2 h1 h2 hs hQ

theorem keptH {x : ShI} {s : ShS} {st : St} {n : Nat} (hn : 3 ≤ n) (h : Eight x s st) : Kept st n (entH x s) (hbsH x s) := by
  refine ⟨fun y hy => ?_, fun y hy => ?_, by rw [h.lo]; omega⟩
  · simp only [entH, List.mem_cons, List.not_mem_nil, or_false] at hy
    rcases hy with rfl | rfl | rfl | rfl | rfl | rfl | rfl | rfl
    · exact ⟨fun E y hv => by rw [← h.l14]; exact hv, trivial⟩
    · exact ⟨fun E y hv => by rw [← h.l0]; exact hv, trivial⟩
    · exact ⟨fun E y hv => by rw [← h.l3]; exact hv, trivial⟩
    · exact ⟨fun E y hv => by rw [← h.l4]; exact hv, trivial⟩
    · exact ⟨fun E y hv => by rw [← h.l6]; exact hv, by show 0 < n; omega⟩
    · exact ⟨fun E y hv => by rw [← h.l10]; exact hv, by show 1 < n; omega⟩
    · exact ⟨fun E y hv => by rw [← h.l12]; exact hv, by show 2 < n; omega⟩
    · exact ⟨fun E y hv => by rw [← h.l13]; exact hv, trivial⟩
  · simp only [hbsH, List.mem_cons, List.not_mem_nil, or_false] at hy
    rcases hy with rfl | rfl | rfl
    · exact ⟨by show 0 < n; omega, h.b0, fun B hB => by cases hB; exact nltSp _ _⟩
    · exact ⟨by show 1 < n; omega, h.b1, fun B hB => by cases hB; exact nltSp _ _⟩
    · exact ⟨by show 2 < n; omega, h.b2, fun B hB => by cases hB; exact nltSp _ _⟩
theorem nltD (D : SlD sW') : nlt 5 D.blk.v := by
  show nlt 5 D.arr
  exact nlt_of_ok (E := E0) (fun _ _ => rfl) (ok_of_pf E0 _ (Sh.enc_pf _ (flatW.good _) _))
/-- A state with the slice, as it is wanted. -/
theorem cD_of {x : ShI} {s : ShS} {D : SlD sW'} {st : St} (h : Eight x s st) (h15 : st.look 15 = D.at 4) (hb : st.hp 4 = some D.blk) {ws : World} {a : Act} {w : World} (hs : SRel E0 ws st a w) : SRel E0 ws (cD x s D) a w := by
  have hk : KeptR st 5 ((15, D.at 4) :: entH x s) ((4, some D.blk) :: hbsH x s) := by
    have h0 := (keptH (n := 5) (by omega) h).toR
    refine ⟨fun y hy => ?_, fun y hy => ?_, by rw [h.lo]; omega⟩
    · rcases List.mem_cons.1 hy with rfl | hy
      · exact ⟨fun E y hv => by rw [← h15]; exact hv, by show 4 < 5; omega⟩
      · exact h0.ent y hy
    · rcases List.mem_cons.1 hy with rfl | hy
      · exact ⟨by show 4 < 5; omega, fun B hB => by cases hB; exact ⟨nltD D, D.blk, hb, rfl, rfl, fun E hE => ⟨hE, rfl⟩⟩⟩
      · exact h0.blk y hy
  have := hk.rel hs
  rw [h.nt, h.lo] at this
  exact this
theorem sH_of {x : ShI} {s : ShS} {st : St} (h : Eight x s st) {ws : World} {a : Act} {w : World} (hs : SRel E0 ws st a w) : SRel E0 ws (sH x s) a w := by
  have := (keptH (n := 3) (by omega) h).toR.rel hs
  rw [h.nt, h.lo] at this
  exact this
noncomputable def inf22 : TypeInfo := (Tryz.prog.info? 22).getD default
theorem t73 : Tryz.prog.underlying 122 = some (.slice 22) := by kernel_rfl
theorem i22a : Tryz.prog.info? 22 = some inf22 := by kernel_rfl
theorem i22b : inf22.zero = some (.int .u64 0) := by kernel_rfl
theorem i22c : inf22.size = 1 := by kernel_rfl
theorem i22d : inf22.bytes = 8 := by kernel_rfl
theorem vsl_eval {st : St} {t : Nat} (h : st.look t = .vsl none 0) {Es : Env} {ws : World} {a : Act} {w : World} (hs : SRel Es ws st a w) : a.eval (.tmp t) = .slice none 0 0 := by
  obtain ⟨E, h1, _⟩ := hs
  have q := h1 t
  rw [h] at q
  exact q.2.symm

/-- Two appended to none. -/
theorem appH (x : ShI) (s : ShS) {st : St} (h8 : Eight x s st) (hnx : st.next = 4) {tl ts dst : Nat} (hl : st.look tl = .vsl none 0) (hts : st.look ts = .slc 3 [] (.lit .i64 (2 : Nat)) 2) {B : Blk} (hb : st.hp 3 = some B) (hr : noRaw B.v = true) {ys : Nat → sW'.T} (hc : ∀ E, cells E [] B.v = flatN sW' 2 ys)
    {o o2 : Oper} (oa : o.guard = none) (ob : o.op = .call { callee := .builtin .append, args := #[.tmp tl, .tmp ts], argTypes := #[122, 122] }) (oc : o.dst = some dst) (hdst : dst < 132) {cst : SlD sW' → St} (ec : ∀ D, ∃ ob, evalList cxZ [o2] (slSt D 4 dst (entH x s) (hbsH x s) 132 0) = some (cst D, ob) ∧ ob.holds)
    (g2 : noGd [o2] = true) (c8 : ∀ D, Eight x s (cst D)) (cd : ∀ D, (cst D).look 15 = D.at 4) (cb : ∀ D, (cst D).hp 4 = some D.blk) {ws : World} {a : Act} {w : World} (hs : SRel E0 ws st a w) {Q : Exit → Act → World → Prop}
    (hQ : ∀ (D : SlD sW') a' w', D.Fix 22 → D.len = 2 → D.els = ys → SRel E0 ws (cD x s D) a' w' → Q .normal a' w') : wpList Tryz.prog #[] Q (o :: [o2]) a w := by
  refine step_append_nil flatW hs oa (t := 122) (te := 22) ob oc (by rw [h8.nt]; exact hdst) (vsl_eval hl hs) hts hb hr hc (keptH (by rw [hnx]; omega) h8) inf22 (.int .u64 0) t73 i22a i22b i22c rfl (by rw [i22d]; omega) (by omega) (by omega) ?_
  intro D a2 w2 d1 d2 d3 hs2
  rw [hnx, h8.nt, h8.lo] at hs2
  refine lstZ g2 (ec D) hs2 fun a3 w3 hs3 => ?_
  exact hQ D a3 w3 d1 d2 d3 (cD_of (c8 D) (cd D) (cb D) hs3)
/-- Two more. -/
theorem appH2 (x : ShI) (s : ShS) {D : SlD sW'} (hD : D.Fix 22) (hDl : D.len = 2) {st : St} (h8 : Eight x s st) {tl ts dst : Nat} (hl : st.look tl = D.at 4) (hh : st.hp 4 = some D.blk) (hts : st.look ts = .slc 5 [] (.lit .i64 (2 : Nat)) 2) {B : Blk} (hb : st.hp 5 = some B) (hr : noRaw B.v = true) {ys : Nat → sW'.T} (hc : ∀ E, cells E [] B.v = flatN sW' 2 ys)
    {o o2 : Oper} (oa : o.guard = none) (ob : o.op = .call { callee := .builtin .append, args := #[.tmp tl, .tmp ts], argTypes := #[122, 122] }) (oc : o.dst = some dst) (hdst : dst < 132) {cst : SlD sW' → St} (ec : ∀ D, ∃ ob, evalList cxZ [o2] (slSt D 4 dst (entH x s) (hbsH x s) 132 0) = some (cst D, ob) ∧ ob.holds)
    (g2 : noGd [o2] = true) (c8 : ∀ D, Eight x s (cst D)) (cd : ∀ D, (cst D).look 15 = D.at 4) (cb : ∀ D, (cst D).hp 4 = some D.blk) {ws : World} {a : Act} {w : World} (hs : SRel E0 ws st a w) {Q : Exit → Act → World → Prop}
    (hQ : ∀ (D' : SlD sW') a' w', D'.Fix 22 → D'.len = 4 → D'.els = catE 2 D.els ys → SRel E0 ws (cD x s D') a' w' → Q .normal a' w') : wpList Tryz.prog #[] Q (o :: [o2]) a w := by
  refine step_append flatW hs oa (t := 122) (te := 22) ob oc (by rw [h8.nt]; exact hdst) hl hh hD hts hb hr hc (keptH (by omega) h8) inf22 (.int .u64 0) t73 i22a i22b i22c rfl (by rw [i22d, hDl]; omega) (by omega) ?_
  intro D' a2 w2 d1 d2 d3 hs2
  rw [h8.nt, h8.lo] at hs2
  refine lstZ g2 (ec D') hs2 fun a3 w3 hs3 => ?_
  exact hQ D' a3 w3 d1 (by rw [d2, hDl]) (by rw [d3, hDl]) (cD_of (c8 D') (cd D') (cb D') hs3)

/-! The row of a round. -/
noncomputable def ShS.row (x : ShI) (s : ShS) : List W :=
  if x.op == 6#64 then [x.a.lo * powWr s.k, x.a.hi * powWr s.k] else if x.op == 7#64 then [quoW x.a.lo (powWr s.k), quoW x.a.hi (powWr s.k)]
  else if mixC x then [drawnR x.a.lo s.k x.bits, drawnR x.a.hi s.k x.bits, drawnR (hf x - 1#64) s.k x.bits, drawnR (hf x) s.k x.bits] else [drawnR x.a.lo s.k x.bits, drawnR x.a.hi s.k x.bits]
theorem row2 {D : SlD sW'} {u v : W} (h1 : D.len = 2) (h2 : D.els = els2 u v) : (List.range D.len).map (elW D) = [u, v] := by
  obtain ⟨b, len, cap, pre, post, T, fz, els⟩ := D
  simp only at h1 h2
  subst h1 h2
  rfl
theorem row4 {D : SlD sW'} {u v u' v' : W} (h1 : D.len = 4) (h2 : D.els = catE 2 (els2 u v) (els2 u' v')) : (List.range D.len).map (elW D) = [u, v, u', v'] := by
  obtain ⟨b, len, cap, pre, post, T, fz, els⟩ := D
  simp only at h1 h2
  subst h1 h2
  rfl
def mmL (out : Sp) (l : List W) : Sp := l.foldl (fun o e => ⟨minU o.lo e, maxU o.hi e⟩) out
theorem mm_run (D : SlD sW') (out : Sp) (hl : D.len < 2 ^ 62) : (MmS.run D ⟨out, 0#64⟩).out = mmL out ((List.range D.len).map (elW D)) := by
  have := runN_count (go := MmS.lt D) (next := MmS.nxt D) (fun i => (⟨mmL out ((List.range i).map (elW D)), BitVec.ofNat 64 i⟩ : MmS)) D.len
    (fun i hi => by
      show ltB .i64 (BitVec.ofNat 64 i) (BitVec.ofNat 64 D.len) = _
      rw [ltB_ofNat (by omega) (by omega)])
    (fun i hi => by
      simp only [MmS.nxt, ofNat_succ, ixN_ofNat (show i < 2 ^ 63 by omega)]
      rw [List.range_succ, List.map_append]
      unfold mmL
      rw [List.foldl_append]
      rfl)
  unfold MmS.run
  exact congrArg MmS.out this
end Go.Rf

/- Spans: the document's shifts by their contract. -/
namespace Go.Rf
open Go.Proofs

noncomputable def ShS.nxt (x : ShI) (s : ShS) : ShS := ⟨s.k + 1#64, mmL s.out (s.row x)⟩
/-- The row made. -/
noncomputable def X47 : Code := .seq (.region 13 K13.toArray false) (.cond (.tmp 77) (.region 14 K14.toArray true)
    (.seq (.region 15 K15.toArray false) (.cond (.tmp 93) (.region 16 K16.toArray true) (.seq (.region 10 K10.toArray true) (.seq (.region 11 K11.toArray false) (.cond (.tmp 64) (.region 12 K12.toArray false) .skip))))))
theorem row47 (x : ShI) (s : ShS) (hp : powWr s.k ≠ 0#64) {ws : World} {a : Act} {w : World} (hs : SRel E0 ws (w9 x s) a w) {Q : Exit → Act → World → Prop}
    (hQ : ∀ (D : SlD sW') a' w', D.len < 2 ^ 62 → (List.range D.len).map (elW D) = s.row x → SRel E0 ws (cD x s D) a' w' → Q .normal a' w') : X47.wp Tryz.prog Q a w := by
  refine wp_seq (regZ (e13 x s) hs fun a1 w1 hs1 => ?_)
  cases h6 : x.op == 6#64 with
  | true =>
    refine wp_cond_true (by rw [look_bool (w13g x s) hs1, h6]) ?_
    refine anyZ K14_eq K14b (e14 x s) hs1 fun a2 w2 hs2 => ?_
    refine appH x s (w14e x s) (w14x x s) (w14l x s) (w14s x s) (w14b x s) (w14r x s) (w14c x s) o14a o14b o14c (by omega) (ec14 x s) gc14 (c14e x s) (c14d x s) (c14b x s) hs2 ?_
    intro D a3 w3 d1 d2 d3 hs3
    refine hQ D a3 w3 (by omega) ?_ hs3
    rw [row2 d2 d3]
    unfold ShS.row
    rw [h6, if_pos rfl]
  | false =>
    refine wp_cond_false (by rw [look_bool (w13g x s) hs1, h6]) ?_
    refine wp_seq (regZ (e15 x s) hs1 fun a2 w2 hs2 => ?_)
    cases h7 : x.op == 7#64 with
    | true =>
      refine wp_cond_true (by rw [look_bool (w15g x s) hs2, h7]) ?_
      refine anyZ K16_eq K16b (e16 x s hp) hs2 fun a3 w3 hs3 => ?_
      refine appH x s (w16e x s) (w16x x s) (w16l x s) (w16s x s) (w16b x s) (w16r x s) (w16c x s) o16a o16b o16c (by omega) (ec16 x s) gc16 (c16e x s) (c16d x s) (c16b x s) hs3 ?_
      intro D a4 w4 d1 d2 d3 hs4
      refine hQ D a4 w4 (by omega) ?_ hs4
      rw [row2 d2 d3]
      unfold ShS.row
      rw [h6, h7, if_neg (by decide), if_pos rfl]
    | false =>
      refine wp_cond_false (by rw [look_bool (w15g x s) hs2, h7]) ?_
      refine wp_seq (anyZ K10_eq K10b (e10 x s) hs2 fun a3 w3 hs3 => ?_)
      refine appH x s (w10e x s) (w10x x s) (w10l x s) (w10s x s) (w10b x s) (w10r x s) (w10c x s) o10a o10b o10c (by omega) (ec10 x s) gc10 (c10e x s) (c10d x s) (c10b x s) hs3 ?_
      intro D a4 w4 d1 d2 d3 hs4
      show (Code.seq (.region 11 K11.toArray false) (.cond (.tmp 64) (.region 12 K12.toArray false) .skip)).wp Tryz.prog _ a4 w4
      refine wp_seq (regZ (e11 x s D) hs4 fun a5 w5 hs5 => ?_)
      cases hm : mixC x with
      | true =>
        refine wp_cond_true (by rw [look_bool (w11g x s D) hs5, hm]) ?_
        refine list_region (by simpa using gK12) ?_
        rw [List.toList_toArray, K12_eq]
        refine wpList_app _ (noGd_spec gK12a) _ _ ?_
        refine lstZ gK12a (e12 x s D) hs5 fun a6 w6 hs6 => ⟨rfl, ?_⟩
        refine appH2 x s d1 d2 (w12e x s D) (w12l x s D) (w12h x s D) (w12s x s D) (w12b x s D) (w12r x s D) (w12c x s D) o12a o12b o12c (by omega) (ec12 x s) gc12 (c12e x s) (c12d x s) (c12b x s) hs6 ?_
        intro D' a7 w7' f1 f2 f3 hs7
        refine hQ D' a7 w7' (by omega) ?_ hs7
        rw [row4 f2 (by rw [f3, d3])]
        unfold ShS.row
        rw [h6, h7, hm, if_neg (by decide), if_neg (by decide), if_pos rfl]
      | false =>
        refine wp_cond_false (by rw [look_bool (w11g x s D) hs5, hm]) (wp_skip ?_)
        refine hQ D a5 w5 (by omega) ?_ (cD_of (w11e x s D) (w11d x s D) (w11b x s D) hs5)
        rw [row2 d2 d3]
        unfold ShS.row
        rw [h6, h7, hm, if_neg (by decide), if_neg (by decide), if_neg (by decide)]
theorem w7r (x : ShI) (s : ShS) : (w7 x s).hrest = fun _ => none := by kernel_rfl
theorem opK9a : (opX K9 0).guard = none := by kernel_rfl
theorem opK9b : (opX K9 0).op = .assign (.const (.slice none 0 0)) := by kernel_rfl
theorem opK9c : (opX K9 0).dst = some 15 := by kernel_rfl
theorem gK9 : noGd K9 = true := by kernel_rfl
theorem round47 (x : ShI) (s : ShS) (hp : s.go x = true → powWr s.k ≠ 0#64) {ws : World} {a : Act} {w : World} (hs : SRel E0 ws (sH x s) a w) {Q : Exit → Act → World → Prop}
    (hexit : s.go x = false → ∀ a' w', SRel E0 ws (w7 x s) a' w' → Q (.exit 0) a' w') (hnext : s.go x = true → ∀ a' w', SRel E0 ws (sH x (s.nxt x)) a' w' → Q .normal a' w') : KH.wp Tryz.prog Q a w := by
  rw [KH_eq]
  refine wp_seq (wp_seq (regZ (e7 x s) hs fun a1 w1 hs1 => ?_))
  cases hg : s.go x with
  | false =>
    refine wp_cond_false (by rw [look_bool (w7g x s) hs1, hg]) ?_
    exact wp_exit (hexit hg _ _ hs1)
  | true =>
    refine wp_cond_true (by rw [look_bool (w7g x s) hs1, hg]) (wp_skip ?_)
    show (Code.seq (.block 1 (.seq (.region 9 K9.toArray false) (.seq (.block 2 X47) K17))) (.region 8 K8.toArray false)).wp Tryz.prog _ a1 w1
    refine wp_seq (wp_block (wp_seq (list_region (by simpa using gK9) ?_)))
    rw [List.toList_toArray, K9_eq]
    refine step_none hs1 opK9a opK9b opK9c (by rw [w7n]; omega) fun a2 w2 hs2 => ?_
    show (Code.seq (.block 2 X47) K17).wp Tryz.prog _ a2 w2
    refine wp_seq (wp_block (row47 x s (hp hg) hs2 fun D a3 w3 hl hrow hs3 => ?_))
    show K17.wp Tryz.prog _ a3 w3
    refine codZ (e17 x s D hl) hs3 fun a4 w4 hs4 => ?_
    show (Code.region 8 K8.toArray false).wp Tryz.prog _ a4 w4
    refine regZ (e8' x s D) hs4 fun a5 w5 hs5 => ?_
    refine hnext hg a5 w5 ?_
    have := sH_of (w8e x s D) hs5
    have e : s.to D = s.nxt x := by
      unfold ShS.to ShS.nxt
      rw [mm_run D s.out hl, hrow]
    rwa [e] at this

/-! The whole. -/
noncomputable def ShS.mu (x : ShI) (s : ShS) : Nat := (x.d.toInt + 1 - s.k.toInt).toNat
noncomputable def ShI.run (x : ShI) (s : ShS) : ShS := runN (ShS.go x) (ShS.nxt x) 64 s
def shT (x : ShI) : Bool := (x.op == 6#64) && timesW x.a.hi (powWr x.d) (topW x.bits)
noncomputable def shD (x : ShI) : Sp := Sp.mux (shT x) ⟨0#64, topW x.bits⟩ (x.run ⟨x.c, ⟨topW x.bits, 0#64⟩⟩).out
def ShI.args (x : ShI) : List AV := [eI x.op, eSp x.a, eI x.c, eI x.d, eI x.bits]
noncomputable def G0 : Code := codeIn (bodyOf 91) [0]
noncomputable def G1 : Code := codeIn (bodyOf 91) [1, 0]
noncomputable def G2 : Code := codeIn (bodyOf 91) [1, 1, 0, 0]
noncomputable def GR : Code := codeIn (bodyOf 91) [1, 1, 0, 1, 2]
noncomputable def G4 : Code := codeIn (bodyOf 91) [1, 1, 1, 0]
noncomputable def G5 : Code := codeIn (bodyOf 91) [1, 1, 1, 1, 0]
noncomputable def G6 : Code := codeIn (bodyOf 91) [1, 1, 1, 1, 1, 0, 0]
noncomputable def GE : Code := codeIn (bodyOf 91) [1, 1, 1, 1, 1, 1]
theorem bodyG : fS.body = some (.seq G0 (.seq G1 (.seq (.seq G2 (.cond (.tmp 28) GR .skip)) (.seq G4 (.seq G5 (.seq (.seq G6 (.block 0 (.loop KH))) GE)))))) := by kernel_rfl
noncomputable def j0 (x : ShI) : St := St.enter x.args (fun _ => none) 0 132
noncomputable def j1 (x : ShI) : St := outN1 (evalCode cxZ (fun _ => none) G0 [] (j0 x))
noncomputable def j2 (x : ShI) : St := outN1 (evalCode cxZ (fun _ => none) G1 [] (j1 x))
noncomputable def j3 (x : ShI) : St := outN1 (evalCode cxZ (fun _ => none) G2 [] (j2 x))
noncomputable def j4 (x : ShI) : St := outN1 (evalCode cxZ (fun _ => none) G4 [] (j3 x))
noncomputable def j5 (x : ShI) : St := outN1 (evalCode cxZ (fun _ => none) G5 [] (j4 x))
noncomputable def j6 (x : ShI) : St := outN1 (evalCode cxZ (fun _ => none) G6 [] (j5 x))
theorem ej1 (x : ShI) : ∃ ob, evalCode cxZ (fun _ => none) G0 [] (j0 x) = some (.norm (j1 x), ob) ∧ ob.holds := fl_two (L := []) (by kernel_rfl) (by kernel_rfl) (by simp)
theorem ej2 (x : ShI) : ∃ ob, evalCode cxZ (fun _ => none) G1 [] (j1 x) = some (.norm (j2 x), ob) ∧ ob.holds := fl_two (L := []) (by kernel_rfl) (by kernel_rfl) (by simp)
theorem ej3 (x : ShI) : ∃ ob, evalCode cxZ (fun _ => none) G2 [] (j2 x) = some (.norm (j3 x), ob) ∧ ob.holds := fl_two (L := []) (by kernel_rfl) (by kernel_rfl) (by simp)
theorem ej4 (x : ShI) : ∃ ob, evalCode cxZ (fun _ => none) G4 [] (j3 x) = some (.norm (j4 x), ob) ∧ ob.holds := fl_two (L := []) (by kernel_rfl) (by kernel_rfl) (by simp)
theorem ej5 (x : ShI) : ∃ ob, evalCode cxZ (fun _ => none) G5 [] (j4 x) = some (.norm (j5 x), ob) ∧ ob.holds := fl_two (L := []) (by kernel_rfl) (by kernel_rfl) (by simp)
theorem ej6 (x : ShI) : ∃ ob, evalCode cxZ (fun _ => none) G6 [] (j5 x) = some (.norm (j6 x), ob) ∧ ob.holds := fl_two (L := []) (by kernel_rfl) (by kernel_rfl) (by simp)
theorem j3g (x : ShI) : (j3 x).look 28 = .bool fun _ => shT x := by kernel_rfl
theorem j3r (x : ShI) : (j3 x).hrest = fun _ => none := by kernel_rfl
theorem ejR (x : ShI) : ∃ ob, evalK cxZ (fun _ => none) fS GR [] (j3 x) = some (eSp ⟨0#64, topW x.bits⟩, ob) ∧ ob.holds := fl_two (L := []) (by kernel_rfl) (by kernel_rfl) (by simp)
theorem ejE (x : ShI) (s : ShS) : ∃ ob, evalK cxZ (fun _ => none) fS GE [] (w7 x s) = some (eSp s.out, ob) ∧ ob.holds := fl_two (L := []) (by kernel_rfl) (by kernel_rfl) (by simp)
theorem j6a (x : ShI) : (j6 x).nt = 132 := by kernel_rfl
theorem j6b (x : ShI) : (j6 x).lo = 0 := by kernel_rfl
theorem j6c (x : ShI) : (j6 x).look 14 = eI x.c := by kernel_rfl
theorem j6d (x : ShI) : (j6 x).look 0 = eI x.op := by kernel_rfl
theorem j6e (x : ShI) : (j6 x).look 3 = eI x.d := by kernel_rfl
theorem j6f (x : ShI) : (j6 x).look 4 = eI x.bits := by kernel_rfl
theorem j6g (x : ShI) : (j6 x).look 6 = .ptr 0 [] := by kernel_rfl
theorem j6h (x : ShI) : (j6 x).look 10 = .ptr 1 [] := by kernel_rfl
theorem j6i (x : ShI) : (j6 x).look 12 = .ptr 2 [] := by kernel_rfl
theorem j6j (x : ShI) : (j6 x).look 13 = eW (hf x) := by kernel_rfl
theorem j6k (x : ShI) : (j6 x).hp 0 = some ⟨26, eSp x.a⟩ := by kernel_rfl
theorem j6l (x : ShI) : (j6 x).hp 1 = some (bkOf (j6 x) 1) := by kernel_rfl
theorem j6m (x : ShI) : (j6 x).hp 2 = some (bkOf (j6 x) 2) := by kernel_rfl
theorem j6n (x : ShI) : (bkOf (j6 x) 1).T = 26 ∧ (bkOf (j6 x) 2).T = 26 := ⟨by kernel_rfl, by kernel_rfl⟩
theorem j6o (x : ShI) : fzOf (bkOf (j6 x) 1).v = fzOf (eSp nilS) ∧ fzOf (bkOf (j6 x) 2).v = fzOf (eSp ⟨topW x.bits, 0#64⟩) := ⟨by kernel_rfl, by kernel_rfl⟩
theorem j6p (x : ShI) (E : Env) : cells E [] (bkOf (j6 x) 1).v = cells E [] (eSp nilS) := by kernel_rfl
theorem j6q (x : ShI) (E : Env) : cells E [] (bkOf (j6 x) 2).v = cells E [] (eSp ⟨topW x.bits, 0#64⟩) := by kernel_rfl
end Go.Rf

/- Spans: the contract of the document's shifts. -/
namespace Go.Rf
open Go.Proofs

theorem start47 (x : ShI) (st : St) (B1 B2 : Blk) (hnt : st.nt = 132) (hlo : st.lo = 0) (h14 : st.look 14 = eI x.c) (h0 : st.look 0 = eI x.op) (h3 : st.look 3 = eI x.d) (h4 : st.look 4 = eI x.bits) (h6 : st.look 6 = .ptr 0 []) (h10 : st.look 10 = .ptr 1 []) (h12 : st.look 12 = .ptr 2 []) (h13 : st.look 13 = eW (hf x))
    (b0 : st.hp 0 = some ⟨26, eSp x.a⟩) (b1 : st.hp 1 = some B1) (b2 : st.hp 2 = some B2) (hT : B1.T = 26 ∧ B2.T = 26) (hf' : fzOf B1.v = fzOf (eSp nilS) ∧ fzOf B2.v = fzOf (eSp ⟨topW x.bits, 0#64⟩)) (hc1 : ∀ E, cells E [] B1.v = cells E [] (eSp nilS)) (hc2 : ∀ E, cells E [] B2.v = cells E [] (eSp ⟨topW x.bits, 0#64⟩))
    {ws : World} {a : Act} {w : World} (hs : SRel E0 ws st a w) : SRel E0 ws (sH x ⟨x.c, ⟨topW x.bits, 0#64⟩⟩) a w := by
  have hk : KeptR st 3 (entH x ⟨x.c, ⟨topW x.bits, 0#64⟩⟩) (hbsH x ⟨x.c, ⟨topW x.bits, 0#64⟩⟩) := by
    refine ⟨fun y hy => ?_, fun y hy => ?_, by rw [hlo]; omega⟩
    · simp only [entH, List.mem_cons, List.not_mem_nil, or_false] at hy
      rcases hy with rfl | rfl | rfl | rfl | rfl | rfl | rfl | rfl
      · exact ⟨fun E y hv => by rw [← h14]; exact hv, trivial⟩
      · exact ⟨fun E y hv => by rw [← h0]; exact hv, trivial⟩
      · exact ⟨fun E y hv => by rw [← h3]; exact hv, trivial⟩
      · exact ⟨fun E y hv => by rw [← h4]; exact hv, trivial⟩
      · exact ⟨fun E y hv => by rw [← h6]; exact hv, by show 0 < 3; omega⟩
      · exact ⟨fun E y hv => by rw [← h10]; exact hv, by show 1 < 3; omega⟩
      · exact ⟨fun E y hv => by rw [← h12]; exact hv, by show 2 < 3; omega⟩
      · exact ⟨fun E y hv => by rw [← h13]; exact hv, trivial⟩
    · simp only [hbsH, List.mem_cons, List.not_mem_nil, or_false] at hy
      rcases hy with rfl | rfl | rfl
      · exact ⟨by show 0 < 3; omega, fun B' hB => by cases hB; exact ⟨nltSp _ _, _, b0, rfl, rfl, fun E hE => ⟨hE, rfl⟩⟩⟩
      · exact ⟨by show 1 < 3; omega, fun B' hB => by cases hB; exact ⟨nltSp _ _, B1, b1, hT.1, hf'.1, fun E _ => ⟨ok_of_pf _ _ (cSp.pf nilS), hc1 E⟩⟩⟩
      · exact ⟨by show 2 < 3; omega, fun B' hB => by cases hB; exact ⟨nltSp _ _, B2, b2, hT.2, hf'.2, fun E _ => ⟨ok_of_pf _ _ (cSp.pf _), hc2 E⟩⟩⟩
  have := hk.rel hs
  rw [hnt, hlo] at this
  exact this
/-- At a return. -/
theorem retE {cx : Cx} (hΓ : TabOk cx.P cx.Γ) (hI : InlOk cx.P cx.inl) {Λ : Hook} {fn : Func} {p : List Nat} {st : St} {r : AV} {ob : Ob} (h : evalK cx Λ fn .ret p st = some (r, ob)) (hob : ob.holds) (hr : st.hrest = fun _ => none)
    {ws : World} {a : Act} {w : World} (hs : SRel E0 ws st a w) : bodyPost cx.P fn (fun e w' => e = .returned (valT E0 r) ∧ RowKit.Below ws.heap.size ws w') .ret a w := by
  unfold evalK at h
  split at h <;> try (simp at h; done)
  rename_i o ob1 h1
  split at h <;> try (simp at h; done)
  rename_i r' ob2 h2
  split at h <;> try (simp at h; done)
  rename_i v hw h3
  split at h <;> simp at h
  rename_i u hu
  obtain ⟨rfl, rfl⟩ := h
  rw [Ob.and_holds] at hob
  have hrest := evalCode_rest (Λ := Λ) Code.ret p _ o ob1 h1
  rw [hr] at hrest
  simp only [evalCode, Option.some.injEq, Prod.mk.injEq] at h1
  obtain ⟨rfl, rfl⟩ := h1
  obtain ⟨e1, e2, e3⟩ := nrmT_spec _ _ hu
  have hm : MatchO E0 ws (.ret st) .ret a w := hs
  have := resOf_run (hp := fun _ => none) (fun n B hB => by simp at hB) (fun n b hb => by simp at hb) h2 hob.2 hrest hm
  refine bodyPost_mono this ?_
  rintro e w' ⟨E', k1, rfl, k3, k4⟩
  obtain ⟨_, f2, _⟩ := flatH_spec E' (fun _ => none) h3
  refine ⟨?_, k3.below⟩
  rw [← f2, (pfT_spec e1 E').2.1, e3]
noncomputable def GR3 : List Oper := opsIn 91 [1, 1, 0, 1, 2, 0]
theorem GR_eq : GR = .seq (.region 3 GR3.toArray false) .ret := by kernel_rfl
noncomputable def jR (x : ShI) : St := stOf1 (evalList cxZ GR3 (j3 x))
theorem ejR3 (x : ShI) : ∃ ob, evalList cxZ GR3 (j3 x) = some (jR x, ob) ∧ ob.holds := fl_two (L := []) (by kernel_rfl) (by kernel_rfl) (by simp)
theorem ejRr (x : ShI) : ∃ ob, evalK cxZ (fun _ => none) fS .ret [] (jR x) = some (eSp ⟨0#64, topW x.bits⟩, ob) ∧ ob.holds := fl_two (L := []) (by kernel_rfl) (by kernel_rfl) (by simp)
theorem jRr (x : ShI) : (jR x).hrest = fun _ => none := by kernel_rfl
structure ShI.ok (x : ShI) : Prop where
  c0 : 0 ≤ x.c.toInt
  d64 : x.d.toInt < 64
theorem ShS.go_iff {x : ShI} {s : ShS} : s.go x = true ↔ s.k.toInt ≤ x.d.toInt := by
  rw [ShS.go, leI, decide_eq_true_eq]
theorem ShS.dec (x : ShI) (hx : x.ok) (s : ShS) (h : 0 ≤ s.k.toInt) (hg : s.go x = true) : 0 ≤ (s.nxt x).k.toInt ∧ (s.nxt x).mu x < s.mu x := by
  have h1 := ShS.go_iff.1 hg
  have h2 := hx.d64
  have e : (s.nxt x).k.toInt = s.k.toInt + 1 := succ_int (x := s.k) (y := 64#64) (by have h5 : (64#64 : W).toInt = 64 := (by decide); omega)
  refine ⟨by omega, ?_⟩
  unfold ShS.mu
  rw [e]; omega
theorem calls91 (x : ShI) (hx : x.ok) (w : World) : Calls Tryz.prog 91 (x.args.map (val E0)).toArray w fun e w' => e = .returned (valT E0 (eSp (shD x))) ∧ RowKit.Below w.heap.size w w' := by
  have hfn : Tryz.prog.funcs[91]? = some fS := by kernel_rfl
  refine calls_of_wp hfn bodyG ?_
  have hnt : fS.ntmps = 132 := by kernel_rfl
  have hs0 := enter_rel (P := Tryz.prog) (fn := fS) (args := x.args) (by rw [hnt]; show 5 ≤ 132; omega) (fun v hv => by
    simp only [ShI.args, List.mem_cons, List.not_mem_nil, or_false] at hv
    rcases hv with rfl | rfl | rfl | rfl | rfl
    · rfl
    · exact cSp.pf x.a
    · rfl
    · rfl
    · rfl) w
  rw [hnt] at hs0
  refine wp_seq (codZ (ej1 x) hs0 fun a1 w1 hs1 => ?_)
  show (Code.seq G1 _).wp Tryz.prog _ a1 w1
  refine wp_seq (codZ (ej2 x) hs1 fun a2 w2 hs2 => ?_)
  show (Code.seq (.seq G2 (.cond (.tmp 28) GR .skip)) _).wp Tryz.prog _ a2 w2
  refine wp_seq (wp_seq (codZ (ej3 x) hs2 fun a3 w3 hs3 => ?_))
  cases ht : shT x with
  | true =>
    refine wp_cond_true (by rw [look_bool (j3g x) hs3, ht]) ?_
    have e : shD x = ⟨0#64, topW x.bits⟩ := by unfold shD; rw [ht]; rfl
    rw [e]
    rw [GR_eq]
    refine wp_seq (regZ (ejR3 x) hs3 fun a4 w4 hs4 => ?_)
    refine wp_ret ?_
    obtain ⟨ob, k1, k2⟩ := ejRr x
    exact retE (cx := cxZ) rtz1 hIZ k1 k2 (jRr x) hs4
  | false =>
    refine wp_cond_false (by rw [look_bool (j3g x) hs3, ht]) (wp_skip ?_)
    show (Code.seq G4 _).wp Tryz.prog _ a3 w3
    refine wp_seq (codZ (ej4 x) hs3 fun a4 w4 hs4 => ?_)
    show (Code.seq G5 _).wp Tryz.prog _ a4 w4
    refine wp_seq (codZ (ej5 x) hs4 fun a5 w5 hs5 => ?_)
    show (Code.seq (.seq G6 (.block 0 (.loop KH))) GE).wp Tryz.prog _ a5 w5
    refine wp_seq (wp_seq (codZ (ej6 x) hs5 fun a6 w6 hs6 => ?_))
    have hs7 := start47 x (j6 x) _ _ (j6a x) (j6b x) (j6c x) (j6d x) (j6e x) (j6f x) (j6g x) (j6h x) (j6i x) (j6j x) (j6k x) (j6l x) (j6m x) (j6n x) (j6o x) (j6p x) (j6q x) hs6
    have e : shD x = (x.run ⟨x.c, ⟨topW x.bits, 0#64⟩⟩).out := by unfold shD; rw [ht]; rfl
    refine wp_block (wp_loop_ix (fun s a w' => SRel E0 w (sH x s) a w' ∧ 0 ≤ s.k.toInt ∧ (x.run s).out = shD x) (ShS.mu x) ?_ ⟨x.c, ⟨topW x.bits, 0#64⟩⟩ a6 w6 ⟨hs7, hx.c0, e.symm⟩)
    rintro s a' w' ⟨hr, h1, h3⟩
    refine round47 x s (fun hg => ?_) hr (fun hg a2 w2 hs2 => ?_) (fun hg a2 w2 hs2 => ?_)
    · have h2 := ShS.go_iff.1 hg
      have h4 := hx.d64
      refine pow_n0 h1 ?_
      have := nat_of_int h1
      omega
    · show GE.wp Tryz.prog _ a2 w2
      have e : s.out = shD x := by
        rw [← h3]
        unfold ShI.run
        rw [runN_stop hg]
      rw [← e]
      obtain ⟨ob, k1, k2⟩ := ejE x s
      exact evalK_run (cx := cxZ) rtz1 hIZ k1 k2 (w7r x s) hs2
    · have hd := ShS.dec x hx s h1 hg
      refine ⟨s.nxt x, ⟨hs2, hd.1, ?_⟩, hd.2⟩
      rw [← h3]
      unfold ShI.run
      have hm : s.mu x ≤ 64 := by unfold ShS.mu; have := hx.d64; omega
      rw [runN_ge (ShS.dec x hx) 64 s h1 hm, runN_ge (ShS.dec x hx) 64 (s.nxt x) hd.1 (by omega), ← runN_ge (ShS.dec x hx) (s.mu x) (s.nxt x) hd.1 (by omega), runN_same (ShS.dec x hx) h1 (Nat.le_refl _) hg]
def con5O {α β γ δ ε : Type} (ca : Cod α) (cb : Cod β) (cc : Cod γ) (cd : Cod δ) (ce : Cod ε) (q : α → β → γ → δ → ε → Prop) (g : α → β → γ → δ → ε → AV) : Con
  | [a, b, c, d, e] => match ca.dec a, cb.dec b, cc.dec c, cd.dec d, ce.dec e with
    | some x, some y, some z, some t, some u => some (g x y z t u, .pr (q x y z t u))
    | _, _, _, _, _ => none
  | _ => none
theorem k91 : ConOk Tryz.prog 91 (con5O cI cSp cI cI cI (fun op a c d bits => ShI.ok ⟨op, a, c, d, bits⟩) fun op a c d bits => eSp (shD ⟨op, a, c, d, bits⟩)) := by
  intro args r ob hK hob ha
  unfold con5O at hK
  split at hK <;> try (simp at hK; done)
  split at hK <;> simp at hK
  rename_i a b c d e x y z t u e1 e2 e3 e4 e5
  obtain ⟨rfl, rfl⟩ := hK
  refine ⟨rfl, fun w => ?_⟩
  have := calls91 ⟨x, y, z, t, u⟩ hob w
  simp only [ShI.args, List.map_cons, List.map_nil] at this
  simp only [List.map_cons, List.map_nil, cI.val e1, cSp.val e2, cI.val e3, cI.val e4, cI.val e5]
  exact this
noncomputable def tz2 : List (FuncId × Con) := (91, con5O cI cSp cI cI cI (fun op a c d bits => ShI.ok ⟨op, a, c, d, bits⟩) fun op a c d bits => eSp (shD ⟨op, a, c, d, bits⟩)) :: tz1
theorem rtz2 : TabOk Tryz.prog (tabOf tz2) := tabOf_cons rtz1 k91
end Go.Rf
