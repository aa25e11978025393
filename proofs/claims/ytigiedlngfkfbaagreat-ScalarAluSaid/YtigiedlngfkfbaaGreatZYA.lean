/- Several texts as one: ZSy2 ZSy3 ZSy4 ZSy5 ZSy6 ZSy7 ZSy8. -/
import Derived.Test.YtigiedlngfkfbaaGreatZSy1
import Derived.Test.YtigiedlngfkfbaaGreatZp
import Derived.Test.YtigiedlngfkfbaaGreatRfI
set_option linter.unusedVariables false
set_option linter.unusedSimpArgs false
set_option maxRecDepth 100000

/- Spans: the document's step, walked. -/
namespace Go.Rf
open Go.Proofs

def cB16 : Cod (Nat → Bool) := FCod.bl.arr 16
def sl16 (n : Nat) : AV := .slc n [] (.lit .i64 16) 16
def updQ (f : Nat → Bool) (i : Nat) (v : Bool) : Nat → Bool := fun j => if j = i then v else f j
structure StI where
  now : Nat → Bool
  op : W
  a : Sp
  b : Sp
  i : W
  want : W
  next : Nat → Bool
  some : Bool
  s : W
  v : W
def pSO : List Nat := [1, 1, 1, 0, 1, 4]
def pSI : List Nat := [1, 1, 1, 0, 1, 4, 5, 1, 0, 4, 1, 4]
noncomputable def lpSI (p : List Nat) : Lp StI where
  keys := [17, 0, 16, 1, 5, 8, 4, 9, 14, 15]
  names := [0, 1, 2, 3]
  scr := wrAt Tryz.prog 130 p
  vals s := [eI s.v, sl16 0, eI s.s, eI s.op, eW s.want, .ptr 1 [], eI s.i, .ptr 2 [], sl16 3, eB s.some]
  blks s := [⟨4, cB16.enc s.now⟩, ⟨26, eSp s.a⟩, ⟨26, eSp s.b⟩, ⟨4, cB16.enc s.next⟩]
  dec vs bs := match vs, bs with
    | [v, _, s, op, w, _, i, _, _, o], [⟨_, f⟩, ⟨_, a⟩, ⟨_, b⟩, ⟨_, g⟩] => match cI.dec v, cI.dec s, cI.dec op, cW.dec w, cI.dec i, cB.dec o, cB16.dec f, cSp.dec a, cSp.dec b, cB16.dec g with
      | some v, some s, some op, some w, some i, some o, some f, some a, some b, some g => some ⟨f, op, a, b, i, w, g, o, s, v⟩
      | _, _, _, _, _, _, _, _, _, _ => none
    | _, _ => none
noncomputable def cxS : Cx := ⟨Tryz.prog, tabOf zl9, inlF Tryz.prog (tabOf zl9) noHooks 3⟩
theorem hIS : InlOk cxS.P cxS.inl := inlF_ok zg9 3
def bitA (x i : W) : W := shI x i &&& 1#64
def mkBad (s : W) (a : Sp) (i x : W) : Bool := ((s &&& 1#64 == 1#64) && ltB .u64 x (bitA a.lo i)) || ((s &&& 2#64 == 2#64) && ltB .u64 (bitA a.hi i) x)
def mkVal (s : W) (a : Sp) (i x : W) : W :=
  bif mkBad s a i x then 0#64 else bif x != bitA a.lo i then (bif x != bitA a.hi i then (s &&& ~~~1#64) &&& ~~~2#64 else s &&& ~~~1#64) else (bif x != bitA a.hi i then s &&& ~~~2#64 else s)
def StI.x (s : StI) : W := convB .i64 .u64 (s.v &&& 1#64)
def StI.y (s : StI) : W := convB .i64 .u64 (shrB .i64 s.v 1)
def StI.sa (s : StI) : W := s.s &&& 3#64
def StI.sb (s : StI) : W := shrB .i64 s.s 2
def StI.lt (s : StI) : Bool := ltB .i64 s.v 4#64
def StI.go (s : StI) : Bool := s.lt && s.now (ixN s.s)
def StI.wr (s : StI) : Bool := oneR s.op true s.x s.y != s.want
def StI.okB (s : StI) : Bool := (bif mkBad s.sa s.a s.i s.x then false else true) && (bif mkBad s.sb s.b s.i s.y then false else true)
def StI.idx (s : StI) : W := mkVal s.sa s.a s.i s.x + 4#64 * mkVal s.sb s.b s.i s.y
def StI.skip (s : StI) : StI := ⟨s.now, s.op, s.a, s.b, s.i, s.want, s.next, s.some, s.s, s.v + 1#64⟩
def StI.put (s : StI) : StI := ⟨s.now, s.op, s.a, s.b, s.i, s.want, updQ s.next (ixN s.idx) true, true, s.s, s.v + 1#64⟩
def StI.step (s : StI) : Rd StI := .br s.go (.br s.wr (.norm s.skip) (.br s.okB (.norm s.put) (.norm s.skip))) (.exit 2 s)
def StI.nxt (s : StI) : StI := if s.wr = false ∧ s.okB = true then s.put else s.skip
structure StI.inv (s : StI) : Prop where
  i0 : 0 ≤ s.i.toInt
  v4 : s.v.toNat ≤ 4
  s16 : s.s.toNat < 16
def StI.mu (s : StI) : Nat := 4 - s.v.toNat
theorem StI.lt_nat {s : StI} (h : s.inv) (hg : s.lt = true) : s.v.toNat < 4 := by
  have := h.v4
  rw [StI.lt, ltB_nat (by omega) (by decide), decide_eq_true_eq] at hg
  exact hg
theorem StI.nxt_v (s : StI) : s.nxt.v = s.v + 1#64 ∧ s.nxt.s = s.s ∧ s.nxt.i = s.i ∧ s.nxt.now = s.now ∧ s.nxt.op = s.op ∧ s.nxt.a = s.a ∧ s.nxt.b = s.b ∧ s.nxt.want = s.want := by
  unfold StI.nxt; split <;> exact ⟨rfl, rfl, rfl, rfl, rfl, rfl, rfl, rfl⟩
theorem StI.dec (s : StI) (h : s.inv) (hg : s.go = true) : s.nxt.inv ∧ s.nxt.mu < s.mu := by
  unfold StI.go at hg
  rw [Bool.and_eq_true] at hg
  have h1 := StI.lt_nat h hg.1
  have e : (s.v + 1#64).toNat = s.v.toNat + 1 := succ_nat (by omega)
  obtain ⟨q1, q2, q3, _⟩ := s.nxt_v
  refine ⟨⟨by rw [q3]; exact h.i0, by rw [q1, e]; omega, by rw [q2]; exact h.s16⟩, ?_⟩
  unfold StI.mu
  rw [q1, e]; omega
def StI.run (s : StI) : StI := runN StI.go StI.nxt 4 s
def StI.T (s : StI) : Rd StI := .exit 2 ⟨s.now, s.op, s.a, s.b, s.i, s.want, s.run.next, s.run.some, s.s, s.run.v⟩
theorem and_le' (x y : W) : (x &&& y).toNat ≤ x.toNat := by rw [BitVec.toNat_and]; exact Nat.and_le_left
theorem mkVal_le (s : W) (a : Sp) (i x : W) : (mkVal s a i x).toNat ≤ s.toNat := by
  unfold mkVal
  cases mkBad s a i x with
  | true => exact Nat.zero_le _
  | false =>
    cases (x != bitA a.lo i) <;> cases (x != bitA a.hi i)
    · exact Nat.le_refl _
    · exact and_le' _ _
    · exact and_le' _ _
    · exact Nat.le_trans (and_le' _ _) (and_le' _ _)
theorem StI.sa_nat (s : StI) : s.sa.toNat = s.s.toNat % 4 := by
  show (s.s &&& 3#64).toNat = _
  rw [BitVec.toNat_and]
  exact Nat.and_two_pow_sub_one_eq_mod s.s.toNat 2
theorem StI.sb_nat (s : StI) (h : s.s.toNat < 16) : s.sb.toNat = s.s.toNat / 4 := by
  show (s.s.sshiftRight 2).toNat = _
  rw [BitVec.sshiftRight_eq_of_msb_false (by rw [BitVec.msb_eq_decide]; simp; omega), BitVec.toNat_ushiftRight, Nat.shiftRight_eq_div_pow]
theorem StI.idx_lt (s : StI) (h : s.s.toNat < 16) : s.idx.toNat < 16 ∧ s.idx.toNat = (mkVal s.sa s.a s.i s.x).toNat + 4 * (mkVal s.sb s.b s.i s.y).toNat := by
  have h1 := mkVal_le s.sa s.a s.i s.x
  have h2 := mkVal_le s.sb s.b s.i s.y
  rw [s.sa_nat] at h1
  rw [s.sb_nat h] at h2
  have e : s.idx.toNat = (mkVal s.sa s.a s.i s.x).toNat + 4 * (mkVal s.sb s.b s.i s.y).toNat := by
    unfold StI.idx
    rw [BitVec.toNat_add, BitVec.toNat_mul]
    have : (4#64 : W).toNat = 4 := rfl
    rw [this]; omega
  exact ⟨by omega, e⟩
theorem goalSI (s : StI) (h : s.inv) : LoopGoal Tryz.prog (loopAt Tryz.prog 130 pSI) (lpSI pSI) StI.T s 4 81 1 := by
  refine lp_rule (cx := cxS) zg9 hIS (Λ := fun _ => none) (p := []) (lpSI pSI) StI.inv StI.mu StI.step StI.T 4 81 1 (fun _ => ⟨rfl, rfl⟩) ?_ ?_ s h
  · intro s r h hi
    refine fg_ok (L := [([s.lt], 0 ≤ toZ .i64 s.s ∧ toZ .i64 s.s < ((16 : Nat) : Int)), ([s.lt], (toZ .i64 s.s).toNat < 16), ([!s.wr, s.go], 0 ≤ toZ .i64 s.i), ([!s.wr, s.go], 0 ≤ toZ .i64 s.i), ([!s.wr, s.go], 0 ≤ toZ .i64 s.i), ([!s.wr, s.go], 0 ≤ toZ .i64 s.i),
      ([s.okB, !s.wr, s.go], 0 ≤ toZ .i64 s.idx ∧ toZ .i64 s.idx < ((16 : Nat) : Int)), ([s.okB, !s.wr, s.go], (toZ .i64 s.idx).toNat < 16)]) (by kernel_rfl) (fun e he _ => ?_)
    have h1 := hi.s16
    have h2 := (s.idx_lt h1).1
    have i1 : toZ .i64 s.s = s.s.toNat := toZ_nat (by omega)
    have i2 : toZ .i64 s.idx = s.idx.toNat := toZ_nat (by omega)
    simp only [List.mem_cons, List.not_mem_nil, or_false] at he
    rcases he with rfl | rfl | rfl | rfl | rfl | rfl | rfl | rfl
    · rw [i1]; omega
    · rw [i1]; omega
    · exact hi.i0
    · exact hi.i0
    · exact hi.i0
    · exact hi.i0
    · rw [i2]; omega
    · rw [i2]; omega
  · have hT : StI.T = fun s => .exit 2 (runN StI.go StI.nxt 4 s) := by
      funext s
      have k := runN_inv (go := StI.go) (next := StI.nxt) (fun t => t.now = s.now ∧ t.op = s.op ∧ t.a = s.a ∧ t.b = s.b ∧ t.i = s.i ∧ t.want = s.want ∧ t.s = s.s) (fun t ht _ => by
        obtain ⟨q1, q2, q3, q4, q5, q6, q7, q8⟩ := t.nxt_v
        rw [q2, q3, q4, q5, q6, q7, q8]; exact ht) 4 s ⟨rfl, rfl, rfl, rfl, rfl, rfl, rfl⟩
      obtain ⟨k1, k2, k3, k4, k5, k6, k7⟩ := k
      unfold StI.T StI.run
      rw [← k1, ← k2, ← k3, ← k4, ← k5, ← k6, ← k7]
    rw [hT]
    refine good_run (go := StI.go) (next := StI.nxt) StI.dec (fun s h => by simp only [StI.mu]; omega) ?_ ?_
    · intro s hi hg
      unfold StI.step StI.nxt
      cases h1 : s.wr <;> cases h2 : s.okB <;> simp [Rd.sel, hg, h1, h2]
    · intro s hi hg
      simp only [StI.step, Rd.sel, hg, Bool.false_eq_true, if_false]
end Go.Rf

/- Spans: the document's step gives a row of 16 marks. -/
namespace Go.Rf
open Go.Proofs

structure StO where
  now : Nat → Bool
  op : W
  a : Sp
  b : Sp
  i : W
  want : W
  next : Nat → Bool
  some : Bool
  s : W
noncomputable def lpSO : Lp StO where
  keys := [16, 0, 1, 5, 8, 4, 9, 14, 15]
  names := [0, 1, 2, 3]
  scr := wrAt Tryz.prog 130 pSO
  vals s := [eI s.s, sl16 0, eI s.op, eW s.want, .ptr 1 [], eI s.i, .ptr 2 [], sl16 3, eB s.some]
  blks s := [⟨4, cB16.enc s.now⟩, ⟨26, eSp s.a⟩, ⟨26, eSp s.b⟩, ⟨4, cB16.enc s.next⟩]
  dec vs bs := match vs, bs with
    | [s, _, op, w, _, i, _, _, o], [⟨_, f⟩, ⟨_, a⟩, ⟨_, b⟩, ⟨_, g⟩] => match cI.dec s, cI.dec op, cW.dec w, cI.dec i, cB.dec o, cB16.dec f, cSp.dec a, cSp.dec b, cB16.dec g with
      | some s, some op, some w, some i, some o, some f, some a, some b, some g => some ⟨f, op, a, b, i, w, g, o, s⟩
      | _, _, _, _, _, _, _, _, _ => none
    | _, _ => none
def StO.go (s : StO) : Bool := ltB .i64 s.s 16#64
def StO.inn (s : StO) : StI := StI.run ⟨s.now, s.op, s.a, s.b, s.i, s.want, s.next, s.some, s.s, 0#64⟩
def StO.nxt (s : StO) : StO := ⟨s.now, s.op, s.a, s.b, s.i, s.want, s.inn.next, s.inn.some, s.s + 1#64⟩
def StO.step (s : StO) : Rd StO := .br s.go (.norm s.nxt) (.exit 0 s)
structure StO.inv (s : StO) : Prop where
  i0 : 0 ≤ s.i.toInt
  s16 : s.s.toNat ≤ 16
def StO.mu (s : StO) : Nat := 16 - s.s.toNat
theorem StO.lt {s : StO} (h : s.inv) (hg : s.go = true) : s.s.toNat < 16 := by
  have := h.s16
  rw [StO.go, ltB_nat (by omega) (by decide), decide_eq_true_eq] at hg
  exact hg
theorem StO.dec (s : StO) (h : s.inv) (hg : s.go = true) : s.nxt.inv ∧ s.nxt.mu < s.mu := by
  have h1 := StO.lt h hg
  have e : (s.s + 1#64).toNat = s.s.toNat + 1 := succ_nat (by omega)
  refine ⟨⟨h.i0, ?_⟩, ?_⟩
  · show (s.s + 1#64).toNat ≤ 16; omega
  · show 16 - (s.s + 1#64).toNat < 16 - s.s.toNat; omega
def StO.run (s : StO) : StO := runN StO.go StO.nxt 16 s
def StO.T (s : StO) : Rd StO := .exit 0 ⟨s.now, s.op, s.a, s.b, s.i, s.want, s.run.next, s.run.some, s.run.s⟩
noncomputable def hSI : Hook := fun p => if p == [1, 0, 4, 1, 4] then some ((lpSI pSI).hk StI.T) else none
theorem goalSO (s : StO) (h : s.inv) : LoopGoal Tryz.prog (loopAt Tryz.prog 130 pSO) lpSO StO.T s 4 81 1 := by
  refine lp_rule (cx := cxS) zg9 hIS (Λ := hSI) (p := []) lpSO StO.inv StO.mu StO.step StO.T 4 81 1 (fun _ => ⟨rfl, rfl⟩) ?_ ?_ s h
  · intro s r h hi
    refine fl_ok (g := s.go) (L := [LoopGoal Tryz.prog (loopAt Tryz.prog 130 pSI) (lpSI pSI) StI.T ⟨s.now, s.op, s.a, s.b, s.i, s.want, s.next, s.some, s.s, 0#64⟩ 4 81 1]) (by kernel_rfl) ?_
    intro hg p hp
    simp only [List.mem_singleton] at hp
    subst hp
    exact goalSI _ ⟨hi.i0, by show (0#64 : W).toNat ≤ 4; decide, StO.lt hi hg⟩
  · have hT : StO.T = fun s => .exit 0 (runN StO.go StO.nxt 16 s) := by
      funext s
      have k := runN_inv (go := StO.go) (next := StO.nxt) (fun t => t.now = s.now ∧ t.op = s.op ∧ t.a = s.a ∧ t.b = s.b ∧ t.i = s.i ∧ t.want = s.want) (fun t ht _ => ht) 16 s ⟨rfl, rfl, rfl, rfl, rfl, rfl⟩
      obtain ⟨k1, k2, k3, k4, k5, k6⟩ := k
      unfold StO.T StO.run
      rw [← k1, ← k2, ← k3, ← k4, ← k5, ← k6]
    rw [hT]
    refine good_run (go := StO.go) (next := StO.nxt) StO.dec (fun s h => by simp only [StO.mu]; omega) ?_ ?_
    · intro s hi hg
      simp only [StO.step, Rd.sel, hg, if_true]
    · intro s hi hg
      simp only [StO.step, Rd.sel, hg, Bool.false_eq_true, if_false]

/-! The call. -/
structure SpA where
  f : Nat → Bool
  op : W
  a : Sp
  b : Sp
  i : W
  want : W
def SpA.st (x : SpA) : StO := ⟨x.f, x.op, x.a, x.b, x.i, x.want, fun _ => false, false, 0#64⟩
def SpA.next (x : SpA) : Nat → Bool := x.st.run.next
def SpA.some (x : SpA) : Bool := x.st.run.some
def SpA.args (x : SpA) : List AV := [sl16 0, eI x.op, eSp x.a, eSp x.b, eI x.i, eW x.want]
noncomputable def fB : Func := (Tryz.prog.funcs[130]?).getD default
noncomputable def codeIn (c : Code) (p : List Nat) : Code := match codeAt c p with
  | some d => d
  | none => .skip
noncomputable def bodyOf (f : Nat) : Code := match Tryz.prog.funcs[f]? with
  | some fn => match fn.body with
    | some c => c
    | none => .skip
  | none => .skip
noncomputable def opsIn (f : Nat) (p : List Nat) : List Oper := match codeIn (bodyOf f) p with
  | .region _ ops _ => ops.toList
  | _ => []
noncomputable def stOf1 (x : Option (St × Ob)) : St := match x with
  | some y => y.1
  | none => ⟨[], fun _ => .un, [], fun _ => none, 0, 0, 0⟩
noncomputable def outN1 (x : Option (Outc × Ob)) : St := match x with
  | some (.norm st, _) => st
  | _ => ⟨[], fun _ => .un, [], fun _ => none, 0, 0, 0⟩

def hpA (x : SpA) : Hp := hpB ⟨4, cB16.enc x.f⟩
noncomputable def m0 (x : SpA) : St := St.enter x.args (hpA x) 1 81
noncomputable def M1 : List Oper := opsIn 130 [1, 0]
noncomputable def opM : Oper := M1.headD default
noncomputable def M1b : List Oper := M1.tail
noncomputable def M0 : Code := codeIn (bodyOf 130) [0]
noncomputable def M2 : Code := codeIn (bodyOf 130) [1, 1]
theorem bodyM : fB.body = some (.seq M0 (.seq (.region 1 M1.toArray false) M2)) := by kernel_rfl
theorem M1_eq : M1 = opM :: M1b := by kernel_rfl
noncomputable def m1 (x : SpA) : St := outN1 (evalCode cxS (fun _ => none) M0 [] (m0 x))
theorem em1 (x : SpA) : ∃ ob, evalCode cxS (fun _ => none) M0 [] (m0 x) = some (.norm (m1 x), ob) ∧ ob.holds := fl_two (L := []) (by kernel_rfl) (by kernel_rfl) (by simp)

theorem regS {l : List Oper} {st st' : St} (he : ∃ ob, evalList cxS l st = some (st', ob) ∧ ob.holds) {id : Nat} {Es : Env} {ws : World} {a : Act} {w : World} (hs : SRel Es ws st a w) {Q : Exit → Act → World → Prop} (hQ : ∀ a' w', SRel Es ws st' a' w' → Q .normal a' w') :
    (Code.region id l.toArray false).wp Tryz.prog Q a w := by
  obtain ⟨ob, h1, h2⟩ := he
  exact region_wp (cx := cxS) zg9 hIS h1 h2 hs hQ
theorem lstS {l : List Oper} {st st' : St} (hg : noGd l = true) (he : ∃ ob, evalList cxS l st = some (st', ob) ∧ ob.holds) {Es : Env} {ws : World} {a : Act} {w : World} (hs : SRel Es ws st a w) {Q : Exit → Act → World → Prop} (hQ : ∀ a' w', SRel Es ws st' a' w' → Q .normal a' w') :
    wpList Tryz.prog #[] Q l a w := by
  obtain ⟨ob, h1, h2⟩ := he
  exact evalList_wp (cx := cxS) zg9 hIS hg h1 h2 hs hQ
theorem codS {c : Code} {Λ : Hook} {p : List Nat} {st st' : St} (he : ∃ ob, evalCode cxS Λ c p st = some (.norm st', ob) ∧ ob.holds) {Es : Env} {ws : World} {a : Act} {w : World} (hs : SRel Es ws st a w) {Q : Exit → Act → World → Prop} (hQ : ∀ a' w', SRel Es ws st' a' w' → Q .normal a' w') :
    c.wp Tryz.prog Q a w := by
  obtain ⟨ob, h1, h2⟩ := he
  refine wp_mono (evalCode_wp (cx := cxS) zg9 hIS c p st _ ob h1 h2 a w hs) fun e a' w' hm => ?_
  cases e <;> simp only [MatchO] at hm
  exact hQ a' w' hm

def sB : Sh := .bool
theorem flatB : Flat sB := ⟨by kernel_rfl, fun y => Sh.enc_len sB (by kernel_rfl) y, by decide, fun _ => by show sB.good = true; kernel_rfl⟩
/-- A row of 16 that was just made, said plainly. -/
theorem plain16 {D : SlD sB} {f : Nat → Bool} (h1 : D.Fix 4) (h2 : D.len = 16) (h3 : D.els = f) (h4 : D.cap = 16) (n : Nat) :
    (∀ E y, TRel E (D.at n) y → TRel E (sl16 n) y) ∧ D.blk.T = 4 ∧ fzOf D.blk.v = fzOf (cB16.enc f) ∧ ∀ E, ok E D.blk.v → ok E (cB16.enc f) ∧ cells E [] D.blk.v = cells E [] (cB16.enc f) := by
  obtain ⟨b, len, cap, pre, post, T, fz, els⟩ := D
  obtain ⟨_, hp, hf, ht, hpo, _⟩ := h1
  simp only at h2 h3 h4 hp hf ht hpo
  subst h2 h3 h4 hp hf ht
  have hpo' : post = [] := List.eq_nil_of_length_eq_zero (by rw [hpo]; rfl)
  subst hpo'
  refine ⟨fun E y h => ?_, rfl, rfl, fun E hE => ⟨hE, ?_⟩⟩
  · obtain ⟨q1, q2⟩ := h
    exact ⟨q1, q2⟩
  · show [] ++ cells E [] _ ++ [] = _
    rw [List.nil_append, List.append_nil]
    rfl

def entM (x : SpA) : List (Nat × AV) := [(0, sl16 0), (1, eI x.op), (4, eI x.i), (5, eW x.want), (8, .ptr 1 []), (9, .ptr 2 [])]
def hbsM (x : SpA) : List (Nat × Option Blk) := [(0, some ⟨4, cB16.enc x.f⟩), (1, some ⟨26, eSp x.a⟩), (2, some ⟨26, eSp x.b⟩)]
def m2 (x : SpA) : St := ⟨(24, sl16 3) :: entM x, fun _ => .un, (3, some ⟨4, cB16.enc fun _ => false⟩) :: hbsM x, fun _ => none, 4, 81, 1⟩
theorem nltB16 (n : Nat) (f : Nat → Bool) : nlt n (cB16.enc f) := trivial
theorem nltSp (n : Nat) (a : Sp) : nlt n (eSp a) := ⟨trivial, trivial, trivial⟩
theorem keptM (x : SpA) {st : St} {n : Nat} (hn : 3 ≤ n) (h0 : st.look 0 = sl16 0) (h1 : st.look 1 = eI x.op) (h4 : st.look 4 = eI x.i) (h5 : st.look 5 = eW x.want) (h8 : st.look 8 = .ptr 1 []) (h9 : st.look 9 = .ptr 2 [])
    (b0 : st.hp 0 = some ⟨4, cB16.enc x.f⟩) (b1 : st.hp 1 = some ⟨26, eSp x.a⟩) (b2 : st.hp 2 = some ⟨26, eSp x.b⟩) (hlo : st.lo ≤ n) : Kept st n (entM x) (hbsM x) := by
  refine ⟨fun y hy => ?_, fun y hy => ?_, hlo⟩
  · simp only [entM, List.mem_cons, List.not_mem_nil, or_false] at hy
    rcases hy with rfl | rfl | rfl | rfl | rfl | rfl
    · exact ⟨fun E y h => by rw [← h0]; exact h, by show 0 < n; omega⟩
    · exact ⟨fun E y h => by rw [← h1]; exact h, trivial⟩
    · exact ⟨fun E y h => by rw [← h4]; exact h, trivial⟩
    · exact ⟨fun E y h => by rw [← h5]; exact h, trivial⟩
    · exact ⟨fun E y h => by rw [← h8]; exact h, by show 1 < n; omega⟩
    · exact ⟨fun E y h => by rw [← h9]; exact h, by show 2 < n; omega⟩
  · simp only [hbsM, List.mem_cons, List.not_mem_nil, or_false] at hy
    rcases hy with rfl | rfl | rfl
    · exact ⟨by show 0 < n; omega, b0, fun B hB => by cases hB; exact nltB16 _ _⟩
    · exact ⟨by show 1 < n; omega, b1, fun B hB => by cases hB; exact nltSp _ _⟩
    · exact ⟨by show 2 < n; omega, b2, fun B hB => by cases hB; exact nltSp _ _⟩
theorem m1a (x : SpA) : (m1 x).nt = 81 := by kernel_rfl
theorem m1b (x : SpA) : (m1 x).lo = 1 := by kernel_rfl
theorem m1c (x : SpA) : (m1 x).next = 3 := by kernel_rfl
theorem m1d (x : SpA) : (m1 x).look 0 = sl16 0 := by kernel_rfl
theorem m1e (x : SpA) : (m1 x).look 1 = eI x.op := by kernel_rfl
theorem m1f (x : SpA) : (m1 x).look 4 = eI x.i := by kernel_rfl
theorem m1g (x : SpA) : (m1 x).look 5 = eW x.want := by kernel_rfl
theorem m1h (x : SpA) : (m1 x).look 8 = .ptr 1 [] := by kernel_rfl
theorem m1i (x : SpA) : (m1 x).look 9 = .ptr 2 [] := by kernel_rfl
theorem m1j (x : SpA) : (m1 x).hp 0 = some ⟨4, cB16.enc x.f⟩ := by kernel_rfl
theorem m1k (x : SpA) : (m1 x).hp 1 = some ⟨26, eSp x.a⟩ := by kernel_rfl
theorem m1l (x : SpA) : (m1 x).hp 2 = some ⟨26, eSp x.b⟩ := by kernel_rfl
theorem opMa : opM.guard = none := by kernel_rfl
theorem opMb : opM.op = .makeSlice 119 (.const (.int .i64 16)) (.const (.int .i64 16)) := by kernel_rfl
theorem opMc : opM.dst = some 24 := by kernel_rfl
theorem gM1 : noGd M1 = true := by kernel_rfl
theorem gM1b : noGd M1b = true := by kernel_rfl
noncomputable def inf4 : TypeInfo := (Tryz.prog.info? 4).getD default
theorem t70 : Tryz.prog.underlying 119 = some (.slice 4) := by kernel_rfl
theorem i4a : Tryz.prog.info? 4 = some inf4 := by kernel_rfl
theorem i4b : inf4.zero = some (.bool false) := by kernel_rfl
theorem i4c : inf4.size = 1 := by kernel_rfl
theorem i4d : inf4.bytes = 1 := by kernel_rfl
noncomputable def m3 (x : SpA) : St := stOf1 (evalList cxS M1b (m2 x))
theorem em3 (x : SpA) : ∃ ob, evalList cxS M1b (m2 x) = some (m3 x, ob) ∧ ob.holds := fl_two (L := []) (by kernel_rfl) (by kernel_rfl) (by simp)
noncomputable def M2a : Code := codeIn (bodyOf 130) [1, 1, 0]
noncomputable def M2b : Code := codeIn (bodyOf 130) [1, 1, 1, 0]
noncomputable def M2c : Code := codeIn (bodyOf 130) [1, 1, 1, 1, 0]
theorem M2_eq : M2 = .seq M2a (.seq M2b (.seq M2c .ret)) := by kernel_rfl
noncomputable def hSO : Hook := fun p => if p == [1, 4] then some (lpSO.hk StO.T) else none
noncomputable def m4 (x : SpA) : St := outN1 (evalCode cxS (fun _ => none) M2a [] (m3 x))
noncomputable def m5 (x : SpA) : St := outN1 (evalCode cxS hSO M2b [] (m4 x))
noncomputable def m6 (x : SpA) : St := outN1 (evalCode cxS (fun _ => none) M2c [] (m5 x))
theorem em4 (x : SpA) : ∃ ob, evalCode cxS (fun _ => none) M2a [] (m3 x) = some (.norm (m4 x), ob) ∧ ob.holds := fl_two (L := []) (by kernel_rfl) (by kernel_rfl) (by simp)
theorem em5 (x : SpA) (hi : 0 ≤ x.i.toInt) : ∃ ob, evalCode cxS hSO M2b [] (m4 x) = some (.norm (m5 x), ob) ∧ ob.holds := fl_two (L := [LoopGoal Tryz.prog (loopAt Tryz.prog 130 pSO) lpSO StO.T x.st 4 81 1]) (by kernel_rfl) (by kernel_rfl) (fun p hp => by
  simp only [List.mem_singleton] at hp
  subst hp
  exact goalSO _ ⟨hi, by show (0#64 : W).toNat ≤ 16; decide⟩)
theorem em6 (x : SpA) : ∃ ob, evalCode cxS (fun _ => none) M2c [] (m5 x) = some (.norm (m6 x), ob) ∧ ob.holds := fl_two (L := []) (by kernel_rfl) (by kernel_rfl) (by simp)
theorem m6a (x : SpA) : (m6 x).look 12 = sl16 3 := by kernel_rfl
theorem m6b (x : SpA) : (m6 x).look 13 = eB x.some := by kernel_rfl
theorem m6c (x : SpA) : (m6 x).hp 3 = some ⟨4, cB16.enc x.next⟩ := by kernel_rfl
theorem m6d (x : SpA) : (m6 x).hp 0 = some ⟨4, cB16.enc x.f⟩ := by kernel_rfl
end Go.Rf

/- Spans: the call of the document's step. -/
namespace Go.Rf
open Go.Proofs

def enterActE (E : Env) (fn : Func) (args : List AV) : Act := { tmps := (args.map (val E)).toArray ++ Array.replicate (fn.ntmps - (args.map (val E)).toArray.size) undef, defers := [] }
/-- At a function's entry one block is known. -/
theorem enterB_rel {fn : Func} {args : List AV} {B : Blk} {b : Nat} {w : World} (hlen : args.length ≤ fn.ntmps) (hargs : ∀ v ∈ args, ok (E1 b) v) (hok : ok (E1 b) B.v) (hb : w.heap[b]? = some (.cells (cells (E1 b) [] B.v).toArray B.T (fzOf B.v))) :
    SRel (E1 b) w (St.enter args (hpB B) 1 fn.ntmps) (enterActE (E1 b) fn args) w := by
  have hlt : b < w.heap.size := (Array.getElem?_eq_some_iff.1 hb).1
  have hE : ∀ m k, E1 b m = some k → m = 0 ∧ k = b := by
    intro m k hm
    unfold E1 at hm
    split at hm
    · exact ⟨rfl, by simpa using hm.symm⟩
    · cases hm
  have h9 : ∀ n, 1 ≤ n → E1 b n = none := by
    intro m hm
    unfold E1
    split
    · omega
    · rfl
  refine ⟨E1 b, ?_, ?_, rfl, ?_, ?_, ?_, h9, Tr.refl _ w, h9, Nat.le_refl _⟩
  · intro t
    simp only [St.look, St.enter, argEnt_look, Nat.zero_le, if_true, Nat.sub_zero, enterActE]
    simp only [Array.getD_eq_getD_getElem?, Array.getElem?_append]
    by_cases ht : t < args.length
    · have e : args[t]? = some args[t] := List.getElem?_eq_getElem ht
      simp only [e, List.size_toArray, List.length_map, ht, if_true]
      simp only [List.getElem?_toArray, List.getElem?_map, e, Option.map_some, Option.getD_some]
      exact TRel_of (hargs _ (List.getElem_mem ht))
    · have e : args[t]? = none := by simp; omega
      simp only [e, List.size_toArray, List.length_map, ht, if_false]
      refine ⟨trivial, ?_⟩
      simp only [Array.getElem?_replicate]
      split <;> rfl
  · simp [St.enter, enterActE]; omega
  · intro m C hm
    have hm' : hpB B m = some C := hm
    unfold hpB at hm'
    split at hm'
    · simp at hm'; subst hm'; exact ⟨b, rfl, hok, hb⟩
    · cases hm'
  · intro m m' k hm hm'
    rw [(hE m k hm).1, (hE m' k hm').1]
  · intro m k hm
    rw [(hE m k hm).2]; exact hlt
theorem results_tmp2 {fn : Func} {t u : Tmp} (h : fn.results = #[.tmp t, .tmp u]) (tmps : Array Value) (P : Program) (w : World) :
    (results fn tmps).run P w = .ok (.tuple #[tmps.getD t undef, tmps.getD u undef]) w := by
  simp [results, h]

def StepPost (x : SpA) (w : World) (e : Ending) (w' : World) : Prop :=
  ∃ b, e = .returned (.tuple #[.slice (some ⟨b, 0, none⟩) 16 16, .bool x.some]) ∧ w'.heap[b]? = some (.cells (cells E0 [] (cB16.enc x.next)).toArray 4 (0, 0)) ∧ w.heap.size ≤ b ∧ RowKit.Below w.heap.size w w'

theorem cellsB16 (E : Env) (f : Nat → Bool) : cells E [] (cB16.enc f) = cells E0 [] (cB16.enc f) := cells_pf E E0 _ (cB16.pf f) []
theorem zs4 : (Value.bool false).cells.toList = cells E0 [] (sB.enc false) := by kernel_rfl
theorem zs4n : (16 : Nat) = 16 := rfl
/-- The row made, over any state with what is known. -/
theorem makeM (x : SpA) (st : St) (hnt : st.nt = 81) (hlo : st.lo = 1) (hnx : st.next = 3) (h0 : st.look 0 = sl16 0) (h1 : st.look 1 = eI x.op) (h4 : st.look 4 = eI x.i) (h5 : st.look 5 = eW x.want) (h8 : st.look 8 = .ptr 1 []) (h9 : st.look 9 = .ptr 2 [])
    (b0 : st.hp 0 = some ⟨4, cB16.enc x.f⟩) (b1 : st.hp 1 = some ⟨26, eSp x.a⟩) (b2 : st.hp 2 = some ⟨26, eSp x.b⟩) {o : Oper} (hgd : o.guard = none) (ho : o.op = .makeSlice 119 (.const (.int .i64 16)) (.const (.int .i64 16))) (hd : o.dst = some 24) {rest : List Oper} {Q : Exit → Act → World → Prop}
    {i : TypeInfo} (ht : Tryz.prog.underlying 119 = some (.slice 4)) (hi : Tryz.prog.info? 4 = some i) (hz : i.zero = some (.bool false)) (hsz : i.size = 1) (hby : i.bytes = 1)
    {Es : Env} {ws : World} {a : Act} {w : World} (hs : SRel Es ws st a w) (hK : ∀ a' w', SRel Es ws (m2 x) a' w' → wpList Tryz.prog #[] Q rest a' w') : wpList Tryz.prog #[] Q (o :: rest) a w := by
  refine step_make flatB hs hgd (t := 119) (te := 4) ho hd (by rw [hnt]; omega) (k := 16) (kl := .i64) (kc := .i64) rfl rfl
    (keptM x (by rw [hnx]; omega) h0 h1 h4 h5 h8 h9 b0 b1 b2 (by rw [hlo, hnx]; omega)) i (.bool false) false ht hi hz hsz zs4 (by rw [hby]; omega) (by unfold maxLen; omega) ?_
  intro D a2 w2 d1 d2 d3 d4 hs2
  rw [hnt, hlo, hnx] at hs2
  obtain ⟨p1, p2, p3, p4⟩ := plain16 d1 d2 d3 d4 3
  have hk : KeptR (slSt D 3 24 (entM x) (hbsM x) 81 1) 4 ((24, sl16 3) :: entM x) ((3, some ⟨4, cB16.enc fun _ => false⟩) :: hbsM x) := by
    have h0 := (keptM x (st := slSt D 3 24 (entM x) (hbsM x) 81 1) (n := 4) (by omega) rfl rfl rfl rfl rfl rfl rfl rfl rfl (by show 1 ≤ 4; omega)).toR
    refine ⟨fun y hy => ?_, fun y hy => ?_, by show 1 ≤ 4; omega⟩
    · rcases List.mem_cons.1 hy with rfl | hy
      · exact ⟨fun E y h => p1 E y h, by show 3 < 4; omega⟩
      · exact h0.ent y hy
    · rcases List.mem_cons.1 hy with rfl | hy
      · exact ⟨by show 3 < 4; omega, fun B hB => by cases hB; exact ⟨trivial, D.blk, rfl, p2, p3, p4⟩⟩
      · exact h0.blk y hy
  exact hK a2 w2 (hk.rel hs2)
theorem resM : fB.results = #[.tmp 12, .tmp 13] := by kernel_rfl
theorem retM (x : SpA) (st : St) (f12 : st.look 12 = sl16 3) (f13 : st.look 13 = eB x.some) (b3' : st.hp 3 = some ⟨4, cB16.enc x.next⟩) (b0' : st.hp 0 = some ⟨4, cB16.enc x.f⟩) {b : Nat} {w : World} (hb : w.heap[b]? = some (.cells (cells E0 [] (cB16.enc x.f)).toArray 4 (0, 0)))
    {a6 : Act} {w6 : World} (hs6 : SRel (E1 b) w st a6 w6) : bodyPost Tryz.prog fB (StepPost x w) .ret a6 w6 := by
  obtain ⟨E, h1, h2, h3, h4, h5, h6, h7, h8, h9, h10⟩ := hs6
  obtain ⟨b3, q1, q2, q3⟩ := h4 3 _ b3'
  obtain ⟨b0, r1, r2, r3⟩ := h4 0 _ b0'
  have hb0 : E 0 = some b := h8.sub 0 b rfl
  obtain rfl : b0 = b := by rw [r1] at hb0; exact Option.some.inj hb0
  have v12 := h1 12
  have v13 := h1 13
  rw [f12] at v12
  rw [f13] at v13
  have e12 : a6.tmps.getD 12 undef = .slice (some ⟨b3, 0, none⟩) 16 16 := by
    rw [← v12.2]
    simp [sl16, valT, val, cells, q1, offOf, lenZ]
  have e13 : a6.tmps.getD 13 undef = .bool x.some := v13.2.symm
  refine bodyPost_ret (results_tmp2 (t := 12) (u := 13) resM _ _ _) h3 ?_
  refine ⟨b3, by rw [e12, e13], ?_, ?_, ⟨h8.os, h8.tape, h8.output, h8.size, fun k hk => ?_⟩⟩
  · rw [q3, cellsB16]; rfl
  · rcases h8.new 3 b3 q1 with h | h
    · cases h
    · exact h
  · by_cases hkb : k = b0
    · subst hkb
      rw [r3, cellsB16, hb]; rfl
    · refine h8.keep k hk (fun n hn => hkb ?_)
      unfold E1 at hn
      split at hn
      · simpa using hn.symm
      · cases hn
theorem calls130 (x : SpA) (hi : 0 ≤ x.i.toInt) {b : Nat} {w : World} (hb : w.heap[b]? = some (.cells (cells E0 [] (cB16.enc x.f)).toArray 4 (0, 0))) : Calls Tryz.prog 130 (x.args.map (val (E1 b))).toArray w (StepPost x w) := by
  have hfn : Tryz.prog.funcs[130]? = some fB := by kernel_rfl
  refine calls_of_wp hfn bodyM ?_
  have hnt : fB.ntmps = 81 := by kernel_rfl
  have hs0 := enterB_rel (fn := fB) (args := x.args) (B := ⟨4, cB16.enc x.f⟩) (b := b) (w := w) (by rw [hnt]; show 6 ≤ 81; omega) (fun v hv => by
    simp only [SpA.args, List.mem_cons, List.not_mem_nil, or_false] at hv
    rcases hv with rfl | rfl | rfl | rfl | rfl | rfl
    · show ((E1 b) 0).isSome = true; rfl
    · trivial
    · exact ok_of_pf _ _ (cSp.pf x.a)
    · exact ok_of_pf _ _ (cSp.pf x.b)
    · trivial
    · trivial) (ok_of_pf _ _ (cB16.pf x.f)) (by rw [cellsB16]; exact hb)
  rw [hnt] at hs0
  refine wp_seq (codS (em1 x) hs0 fun a1 w1 hs1 => ?_)
  show (Code.seq (.region 1 M1.toArray false) M2).wp Tryz.prog _ a1 w1
  refine wp_seq (list_region (by simpa using gM1) ?_)
  rw [List.toList_toArray, M1_eq]
  refine makeM x (m1 x) (m1a x) (m1b x) (m1c x) (m1d x) (m1e x) (m1f x) (m1g x) (m1h x) (m1i x) (m1j x) (m1k x) (m1l x) opMa opMb opMc t70 i4a i4b i4c i4d hs1 fun a2 w2 hs2' => ?_
  refine lstS gM1b (em3 x) hs2' fun a3 w3 hs3 => ?_
  show M2.wp Tryz.prog _ a3 w3
  rw [M2_eq]
  refine wp_seq (codS (em4 x) hs3 fun a4 w4 hs4 => ?_)
  show (Code.seq M2b (.seq M2c .ret)).wp Tryz.prog _ a4 w4
  refine wp_seq (codS (em5 x hi) hs4 fun a5 w5 hs5 => ?_)
  show (Code.seq M2c .ret).wp Tryz.prog _ a5 w5
  refine wp_seq (codS (em6 x) hs5 fun a6 w6 hs6 => ?_)
  refine wp_ret ?_
  exact retM x (m6 x) (m6a x) (m6b x) (m6c x) (m6d x) hb hs6
end Go.Rf

/- Spans: the document's least, its loop's states. -/
namespace Go.Rf
open Go.Proofs

structure LeI where
  op : W
  a : Sp
  b : Sp
  want : W
structure LeS where
  f : Nat → Bool
  out : W
  i : W
noncomputable def fL : Func := (Tryz.prog.funcs[88]?).getD default
def LeI.args (x : LeI) : List AV := [eI x.op, eSp x.a, eSp x.b, eW x.want]
noncomputable def n0 (x : LeI) : St := St.enter x.args (fun _ => none) 0 53
noncomputable def N0 : Code := codeIn (bodyOf 88) [0]
noncomputable def N1 : List Oper := opsIn 88 [1, 0]
noncomputable def opN : Oper := N1.headD default
noncomputable def N1b : List Oper := N1.tail
noncomputable def N2 : Code := codeIn (bodyOf 88) [1, 1, 0]
noncomputable def N3 : Code := codeIn (bodyOf 88) [1, 1, 1, 0]
noncomputable def N4 : Code := codeIn (bodyOf 88) [1, 1, 1, 1, 0, 0]
noncomputable def NL : Code := loopAt Tryz.prog 88 [1, 1, 1, 1, 0, 1, 4]
noncomputable def N5 : Code := codeIn (bodyOf 88) [1, 1, 1, 1, 1]
theorem bodyN : fL.body = some (.seq N0 (.seq (.region 1 N1.toArray false) (.seq N2 (.seq N3 (.seq (.seq N4 (.block 0 (.loop NL))) N5))))) := by kernel_rfl
/-! A round. -/
noncomputable def L5 : List Oper := opsIn 88 [1, 1, 1, 1, 0, 1, 4, 5, 0, 0]
noncomputable def L7 : List Oper := opsIn 88 [1, 1, 1, 1, 0, 1, 4, 5, 1, 0, 4, 0]
noncomputable def L8 : List Oper := opsIn 88 [1, 1, 1, 1, 0, 1, 4, 5, 1, 0, 4, 1, 0]
noncomputable def L9 : List Oper := opsIn 88 [1, 1, 1, 1, 0, 1, 4, 5, 1, 0, 4, 1, 1, 0, 0]
noncomputable def L10 : List Oper := opsIn 88 [1, 1, 1, 1, 0, 1, 4, 5, 1, 0, 4, 1, 1, 0, 1, 2, 0]
noncomputable def L11 : List Oper := opsIn 88 [1, 1, 1, 1, 0, 1, 4, 5, 1, 0, 4, 1, 1, 0, 1, 2, 1]
noncomputable def L12 : List Oper := opsIn 88 [1, 1, 1, 1, 0, 1, 4, 5, 1, 0, 4, 1, 1, 1, 0]
noncomputable def L13 : List Oper := opsIn 88 [1, 1, 1, 1, 0, 1, 4, 5, 1, 0, 4, 1, 1, 1, 1]
noncomputable def L6 : List Oper := opsIn 88 [1, 1, 1, 1, 0, 1, 4, 5, 1, 1]
noncomputable def L7a : List Oper := L7.take 6
noncomputable def opL : Oper := (L7.drop 6).headD default
noncomputable def L7b : List Oper := L7.drop 7
noncomputable def L11a : List Oper := L11.take 6
noncomputable def opR : Oper := (L11.drop 6).headD default
noncomputable def L11b : List Oper := L11.drop 7
theorem L7_eq : L7 = L7a ++ (opL :: L7b) := by kernel_rfl
theorem L11_eq : L11 = L11a ++ (opR :: L11b) := by kernel_rfl
noncomputable def NLe : Code := .seq (.seq (.region 5 L5.toArray false) (.cond (.tmp 19) .skip (.exit 0)))
  (.seq (.block 1 (.seq (.region 7 L7.toArray false) (.seq (.region 8 L8.toArray false) (.seq (.seq (.region 9 L9.toArray false) (.cond (.tmp 34) (.seq (.region 10 L10.toArray false) (.region 11 L11.toArray false)) .skip)) (.seq (.region 12 L12.toArray false) (.region 13 L13.toArray false))))))
    (.region 6 L6.toArray false))
theorem NL_eq : NL = NLe := by kernel_rfl
def entL (x : LeI) (s : LeS) : List (Nat × AV) := [(9, sl16 2), (10, eW s.out), (11, eI s.i), (0, eI x.op), (3, eW x.want), (5, .ptr 0 []), (6, .ptr 1 [])]
def hbsL (x : LeI) (s : LeS) : List (Nat × Option Blk) := [(0, some ⟨26, eSp x.a⟩), (1, some ⟨26, eSp x.b⟩), (2, some ⟨4, cB16.enc s.f⟩)]
def nL (x : LeI) (s : LeS) : St := ⟨entL x s, fun _ => .un, hbsL x s, fun _ => none, 3, 53, 0⟩
/-! The states of a round. -/
def LeS.spa (x : LeI) (s : LeS) (w : W) : SpA := ⟨s.f, x.op, x.a, x.b, s.i, w⟩
noncomputable def v5 (x : LeI) (s : LeS) : St := stOf1 (evalList cxS L5 (nL x s))
noncomputable def v7 (x : LeI) (s : LeS) : St := stOf1 (evalList cxS L7a (v5 x s))
def v7c (x : LeI) (s : LeS) : St := bkSt (.tup (.cons (sl16 3) (.cons (eB (s.spa x x.want).some) .nil))) ⟨4, cB16.enc (s.spa x x.want).next⟩ 3 29 (entL x s) (hbsL x s) 53 0
noncomputable def v7b (x : LeI) (s : LeS) : St := stOf1 (evalList cxS L7b (v7c x s))
noncomputable def v8 (x : LeI) (s : LeS) : St := stOf1 (evalList cxS L8 (v7b x s))
noncomputable def v9 (x : LeI) (s : LeS) : St := stOf1 (evalList cxS L9 (v8 x s))
theorem f5 (x : LeI) (s : LeS) : ∃ ob, evalList cxS L5 (nL x s) = some (v5 x s, ob) ∧ ob.holds := fl_two (L := []) (by kernel_rfl) (by kernel_rfl) (by simp)
theorem f7 (x : LeI) (s : LeS) : ∃ ob, evalList cxS L7a (v5 x s) = some (v7 x s, ob) ∧ ob.holds := fl_two (L := []) (by kernel_rfl) (by kernel_rfl) (by simp)
theorem f7b (x : LeI) (s : LeS) : ∃ ob, evalList cxS L7b (v7c x s) = some (v7b x s, ob) ∧ ob.holds := fl_two (L := []) (by kernel_rfl) (by kernel_rfl) (by simp)
theorem f8 (x : LeI) (s : LeS) : ∃ ob, evalList cxS L8 (v7b x s) = some (v8 x s, ob) ∧ ob.holds := fl_two (L := []) (by kernel_rfl) (by kernel_rfl) (by simp)
theorem f9 (x : LeI) (s : LeS) : ∃ ob, evalList cxS L9 (v8 x s) = some (v9 x s, ob) ∧ ob.holds := fl_two (L := []) (by kernel_rfl) (by kernel_rfl) (by simp)
/-- Where the bit is got. -/
noncomputable def vA (x : LeI) (s : LeS) : St := stOf1 (evalList cxS L12 (v9 x s))
noncomputable def vB (x : LeI) (s : LeS) : St := stOf1 (evalList cxS L13 (vA x s))
noncomputable def vC (x : LeI) (s : LeS) : St := stOf1 (evalList cxS L6 (vB x s))
theorem fA (x : LeI) (s : LeS) : ∃ ob, evalList cxS L12 (v9 x s) = some (vA x s, ob) ∧ ob.holds := fl_two (L := []) (by kernel_rfl) (by kernel_rfl) (by simp)
theorem fB' (x : LeI) (s : LeS) : ∃ ob, evalList cxS L13 (vA x s) = some (vB x s, ob) ∧ ob.holds := fl_two (L := []) (by kernel_rfl) (by kernel_rfl) (by simp)
theorem fC (x : LeI) (s : LeS) : ∃ ob, evalList cxS L6 (vB x s) = some (vC x s, ob) ∧ ob.holds := fl_two (L := []) (by kernel_rfl) (by kernel_rfl) (by simp)
/-- Where it is not. -/
noncomputable def u10 (x : LeI) (s : LeS) : St := stOf1 (evalList cxS L10 (v9 x s))
noncomputable def u11 (x : LeI) (s : LeS) : St := stOf1 (evalList cxS L11a (u10 x s))
def ent2 (x : LeI) (s : LeS) : List (Nat × AV) := [(10, eW s.out), (11, eI s.i), (0, eI x.op), (3, eW x.want), (5, .ptr 0 []), (6, .ptr 1 []), (14, eW (1#64 - x.want))]
def hbs2 (x : LeI) : List (Nat × Option Blk) := [(0, some ⟨26, eSp x.a⟩), (1, some ⟨26, eSp x.b⟩)]
def u11c (x : LeI) (s : LeS) : St := bkSt (.tup (.cons (sl16 4) (.cons (eB (s.spa x (1#64 - x.want)).some) .nil))) ⟨4, cB16.enc (s.spa x (1#64 - x.want)).next⟩ 4 44 (ent2 x s) (hbs2 x) 53 0
noncomputable def u11b (x : LeI) (s : LeS) : St := stOf1 (evalList cxS L11b (u11c x s))
noncomputable def uA (x : LeI) (s : LeS) : St := stOf1 (evalList cxS L12 (u11b x s))
noncomputable def uB (x : LeI) (s : LeS) : St := stOf1 (evalList cxS L13 (uA x s))
noncomputable def uC (x : LeI) (s : LeS) : St := stOf1 (evalList cxS L6 (uB x s))
theorem g10 (x : LeI) (s : LeS) : ∃ ob, evalList cxS L10 (v9 x s) = some (u10 x s, ob) ∧ ob.holds := fl_two (L := []) (by kernel_rfl) (by kernel_rfl) (by simp)
theorem g11 (x : LeI) (s : LeS) : ∃ ob, evalList cxS L11a (u10 x s) = some (u11 x s, ob) ∧ ob.holds := fl_two (L := []) (by kernel_rfl) (by kernel_rfl) (by simp)
theorem g11b (x : LeI) (s : LeS) : ∃ ob, evalList cxS L11b (u11c x s) = some (u11b x s, ob) ∧ ob.holds := fl_two (L := []) (by kernel_rfl) (by kernel_rfl) (by simp)
theorem gA (x : LeI) (s : LeS) : ∃ ob, evalList cxS L12 (u11b x s) = some (uA x s, ob) ∧ ob.holds := fl_two (L := []) (by kernel_rfl) (by kernel_rfl) (by simp)
theorem gB (x : LeI) (s : LeS) : ∃ ob, evalList cxS L13 (uA x s) = some (uB x s, ob) ∧ ob.holds := fl_two (L := []) (by kernel_rfl) (by kernel_rfl) (by simp)
theorem gC (x : LeI) (s : LeS) : ∃ ob, evalList cxS L6 (uB x s) = some (uC x s, ob) ∧ ob.holds := fl_two (L := []) (by kernel_rfl) (by kernel_rfl) (by simp)
end Go.Rf

/- Spans: a round of the document's least. -/
namespace Go.Rf
open Go.Proofs

def LeS.one (x : LeI) (s : LeS) : Bool := (s.spa x x.want).some
def LeS.bit (x : LeI) (s : LeS) : W := if s.one x = true then x.want else 1#64 - x.want
def LeS.nxt (x : LeI) (s : LeS) : LeS := ⟨(s.spa x (s.bit x)).next, 2#64 * s.out + s.bit x, s.i - 1#64⟩
def LeS.go (s : LeS) : Bool := leB .i64 0#64 s.i
structure Seven (x : LeI) (st : St) (f : AV) (out i : W) : Prop where
  nt : st.nt = 53
  lo : st.lo = 0
  l9 : st.look 9 = f
  l10 : st.look 10 = eW out
  l11 : st.look 11 = eI i
  l0 : st.look 0 = eI x.op
  l3 : st.look 3 = eW x.want
  l5 : st.look 5 = .ptr 0 []
  l6 : st.look 6 = .ptr 1 []
  b0 : st.hp 0 = some ⟨26, eSp x.a⟩
  b1 : st.hp 1 = some ⟨26, eSp x.b⟩
theorem s5 (x : LeI) (s : LeS) : (v5 x s).look 19 = .bool fun _ => s.go := by kernel_rfl
theorem s7a (x : LeI) (s : LeS) : (v7 x s).nt = 53 := by kernel_rfl
theorem s7b (x : LeI) (s : LeS) : (v7 x s).lo = 0 := by kernel_rfl
theorem s7c (x : LeI) (s : LeS) : (v7 x s).next = 3 := by kernel_rfl
theorem s7d (x : LeI) (s : LeS) : (v7 x s).look 9 = sl16 2 := by kernel_rfl
theorem s7e (x : LeI) (s : LeS) : (v7 x s).look 10 = eW s.out := by kernel_rfl
theorem s7f (x : LeI) (s : LeS) : (v7 x s).look 11 = eI s.i := by kernel_rfl
theorem s7g (x : LeI) (s : LeS) : (v7 x s).look 0 = eI x.op := by kernel_rfl
theorem s7h (x : LeI) (s : LeS) : (v7 x s).look 3 = eW x.want := by kernel_rfl
theorem s7i (x : LeI) (s : LeS) : (v7 x s).look 5 = .ptr 0 [] := by kernel_rfl
theorem s7j (x : LeI) (s : LeS) : (v7 x s).look 6 = .ptr 1 [] := by kernel_rfl
theorem s7k (x : LeI) (s : LeS) : (v7 x s).hp 0 = some ⟨26, eSp x.a⟩ := by kernel_rfl
theorem s7l (x : LeI) (s : LeS) : (v7 x s).hp 1 = some ⟨26, eSp x.b⟩ := by kernel_rfl
theorem s7m (x : LeI) (s : LeS) : (v7 x s).hp 2 = some ⟨4, cB16.enc s.f⟩ := by kernel_rfl
theorem s7 (x : LeI) (s : LeS) : Seven x (v7 x s) (sl16 2) s.out s.i := ⟨s7a x s, s7b x s, s7d x s, s7e x s, s7f x s, s7g x s, s7h x s, s7i x s, s7j x s, s7k x s, s7l x s⟩
theorem opLa : opL.guard = none := by kernel_rfl
theorem opLb (x : LeI) (s : LeS) : eff Tryz.prog (opd (v7 x s).look) opL.op = some (.call 130 [sl16 2, eI x.op, eSp x.a, eSp x.b, eI s.i, eW x.want]) := by kernel_rfl
theorem opLc : opL.dst = some 29 := by kernel_rfl
theorem s9 (x : LeI) (s : LeS) : (v9 x s).look 34 = .bool fun _ => !s.one x := by kernel_rfl
theorem sCa (x : LeI) (s : LeS) : (vC x s).nt = 53 := by kernel_rfl
theorem sCb (x : LeI) (s : LeS) : (vC x s).lo = 0 := by kernel_rfl
theorem sCc (x : LeI) (s : LeS) : (vC x s).look 9 = sl16 3 := by kernel_rfl
theorem sCd (x : LeI) (s : LeS) : (vC x s).look 10 = eW (2#64 * s.out + x.want) := by kernel_rfl
theorem sCe (x : LeI) (s : LeS) : (vC x s).look 11 = eI (s.i - 1#64) := by kernel_rfl
theorem sCf (x : LeI) (s : LeS) : (vC x s).look 0 = eI x.op := by kernel_rfl
theorem sCg (x : LeI) (s : LeS) : (vC x s).look 3 = eW x.want := by kernel_rfl
theorem sCh (x : LeI) (s : LeS) : (vC x s).look 5 = .ptr 0 [] := by kernel_rfl
theorem sCi (x : LeI) (s : LeS) : (vC x s).look 6 = .ptr 1 [] := by kernel_rfl
theorem sCj (x : LeI) (s : LeS) : (vC x s).hp 0 = some ⟨26, eSp x.a⟩ := by kernel_rfl
theorem sCk (x : LeI) (s : LeS) : (vC x s).hp 1 = some ⟨26, eSp x.b⟩ := by kernel_rfl
theorem sCl (x : LeI) (s : LeS) : (vC x s).hp 3 = some ⟨4, cB16.enc (s.spa x x.want).next⟩ := by kernel_rfl
theorem sC (x : LeI) (s : LeS) : Seven x (vC x s) (sl16 3) (2#64 * s.out + x.want) (s.i - 1#64) := ⟨sCa x s, sCb x s, sCc x s, sCd x s, sCe x s, sCf x s, sCg x s, sCh x s, sCi x s, sCj x s, sCk x s⟩
theorem tUa (x : LeI) (s : LeS) : (u11 x s).nt = 53 := by kernel_rfl
theorem tUb (x : LeI) (s : LeS) : (u11 x s).lo = 0 := by kernel_rfl
theorem tUc (x : LeI) (s : LeS) : (u11 x s).next = 4 := by kernel_rfl
theorem tUd (x : LeI) (s : LeS) : (u11 x s).look 9 = sl16 2 := by kernel_rfl
theorem tUe (x : LeI) (s : LeS) : (u11 x s).look 10 = eW s.out := by kernel_rfl
theorem tUf (x : LeI) (s : LeS) : (u11 x s).look 11 = eI s.i := by kernel_rfl
theorem tUg (x : LeI) (s : LeS) : (u11 x s).look 0 = eI x.op := by kernel_rfl
theorem tUh (x : LeI) (s : LeS) : (u11 x s).look 3 = eW x.want := by kernel_rfl
theorem tUi (x : LeI) (s : LeS) : (u11 x s).look 5 = .ptr 0 [] := by kernel_rfl
theorem tUj (x : LeI) (s : LeS) : (u11 x s).look 6 = .ptr 1 [] := by kernel_rfl
theorem tUk (x : LeI) (s : LeS) : (u11 x s).hp 0 = some ⟨26, eSp x.a⟩ := by kernel_rfl
theorem tUl (x : LeI) (s : LeS) : (u11 x s).hp 1 = some ⟨26, eSp x.b⟩ := by kernel_rfl
theorem tUm (x : LeI) (s : LeS) : (u11 x s).hp 2 = some ⟨4, cB16.enc s.f⟩ := by kernel_rfl
theorem tUn (x : LeI) (s : LeS) : (u11 x s).look 14 = eW (1#64 - x.want) := by kernel_rfl
theorem tU (x : LeI) (s : LeS) : Seven x (u11 x s) (sl16 2) s.out s.i := ⟨tUa x s, tUb x s, tUd x s, tUe x s, tUf x s, tUg x s, tUh x s, tUi x s, tUj x s, tUk x s, tUl x s⟩
theorem opRa : opR.guard = none := by kernel_rfl
theorem opRb (x : LeI) (s : LeS) : eff Tryz.prog (opd (u11 x s).look) opR.op = some (.call 130 [sl16 2, eI x.op, eSp x.a, eSp x.b, eI s.i, eW (1#64 - x.want)]) := by kernel_rfl
theorem opRc : opR.dst = some 44 := by kernel_rfl
theorem tCa (x : LeI) (s : LeS) : (uC x s).nt = 53 := by kernel_rfl
theorem tCb (x : LeI) (s : LeS) : (uC x s).lo = 0 := by kernel_rfl
theorem tCc (x : LeI) (s : LeS) : (uC x s).look 9 = sl16 4 := by kernel_rfl
theorem tCd (x : LeI) (s : LeS) : (uC x s).look 10 = eW (2#64 * s.out + (1#64 - x.want)) := by kernel_rfl
theorem tCe (x : LeI) (s : LeS) : (uC x s).look 11 = eI (s.i - 1#64) := by kernel_rfl
theorem tCf (x : LeI) (s : LeS) : (uC x s).look 0 = eI x.op := by kernel_rfl
theorem tCg (x : LeI) (s : LeS) : (uC x s).look 3 = eW x.want := by kernel_rfl
theorem tCh (x : LeI) (s : LeS) : (uC x s).look 5 = .ptr 0 [] := by kernel_rfl
theorem tCi (x : LeI) (s : LeS) : (uC x s).look 6 = .ptr 1 [] := by kernel_rfl
theorem tCj (x : LeI) (s : LeS) : (uC x s).hp 0 = some ⟨26, eSp x.a⟩ := by kernel_rfl
theorem tCk (x : LeI) (s : LeS) : (uC x s).hp 1 = some ⟨26, eSp x.b⟩ := by kernel_rfl
theorem tCl (x : LeI) (s : LeS) : (uC x s).hp 4 = some ⟨4, cB16.enc (s.spa x (1#64 - x.want)).next⟩ := by kernel_rfl
theorem tC (x : LeI) (s : LeS) : Seven x (uC x s) (sl16 4) (2#64 * s.out + (1#64 - x.want)) (s.i - 1#64) := ⟨tCa x s, tCb x s, tCc x s, tCd x s, tCe x s, tCf x s, tCg x s, tCh x s, tCi x s, tCj x s, tCk x s⟩
theorem gL5 : noGd L5 = true := by kernel_rfl
theorem gL7 : noGd L7 = true := by kernel_rfl
theorem gL7a : noGd L7a = true := by kernel_rfl
theorem gL7b : noGd L7b = true := by kernel_rfl
theorem gL11 : noGd L11 = true := by kernel_rfl
theorem gL11a : noGd L11a = true := by kernel_rfl
theorem gL11b : noGd L11b = true := by kernel_rfl
end Go.Rf

/- Spans: the contract of the document's least. -/
namespace Go.Rf
open Go.Proofs

theorem TRel_sl16 {E : Env} {ρ : Nat → Nat} {n m : Nat} (hm : m < n) {y : Value} (h : TRel E (sl16 (ρ m)) y) : TRel (ren ρ n E) (sl16 m) y := by
  obtain ⟨h1, h2⟩ := h
  have hE : ren ρ n E m = E (ρ m) := by simp [ren, hm]
  refine ⟨?_, ?_⟩
  · show (ren ρ n E m).isSome = true
    rw [hE]; exact h1
  · rw [← h2]
    simp [sl16, valT, val, cells, hE]
theorem TRel_ptr {E : Env} {ρ : Nat → Nat} {n m : Nat} (hm : m < n) {y : Value} (h : TRel E (.ptr (ρ m) []) y) : TRel (ren ρ n E) (.ptr m []) y := by
  obtain ⟨h1, h2⟩ := h
  have hE : ren ρ n E m = E (ρ m) := by simp [ren, hm]
  refine ⟨?_, ?_⟩
  · show (ren ρ n E m).isSome = true
    rw [hE]; exact h1
  · rw [← h2]
    simp [valT, val, cells, hE]
/-- A new state of the loop. -/
theorem seven_new (x : LeI) {st : St} {k : Nat} (hk : 3 ≤ k) {g : Nat → Bool} {out i : W} (h : Seven x st (sl16 k) out i) (hb : st.hp k = some ⟨4, cB16.enc g⟩) {ws : World} {a : Act} {w : World} (hs : SRel E0 ws st a w) : SRel E0 ws (nL x ⟨g, out, i⟩) a w := by
  have hK : KeptN st (fun m => if m = 2 then k else m) 3 (entL x ⟨g, out, i⟩) (hbsL x ⟨g, out, i⟩) := by
    refine ⟨?_, ?_, ?_⟩
    · intro i j hi hj e
      have e' : (if i = 2 then k else i) = (if j = 2 then k else j) := e
      split at e' <;> split at e' <;> omega
    · intro y hy E v hv
      simp only [entL, List.mem_cons, List.not_mem_nil, or_false] at hy
      rcases hy with rfl | rfl | rfl | rfl | rfl | rfl | rfl
      · exact TRel_sl16 (ρ := fun m => if m = 2 then k else m) (m := 2) (by omega) (by simp only [if_true]; rw [← h.l9]; exact hv)
      · exact TRel_pf rfl (by rw [← h.l10]; exact hv)
      · exact TRel_pf rfl (by rw [← h.l11]; exact hv)
      · exact TRel_pf rfl (by rw [← h.l0]; exact hv)
      · exact TRel_pf rfl (by rw [← h.l3]; exact hv)
      · exact TRel_ptr (ρ := fun m => if m = 2 then k else m) (m := 0) (by omega) (by show TRel E (.ptr 0 []) v; rw [← h.l5]; exact hv)
      · exact TRel_ptr (ρ := fun m => if m = 2 then k else m) (m := 1) (by omega) (by show TRel E (.ptr 1 []) v; rw [← h.l6]; exact hv)
    · intro y hy
      simp only [hbsL, List.mem_cons, List.not_mem_nil, or_false] at hy
      rcases hy with rfl | rfl | rfl
      · exact ⟨by show 0 < 3; omega, fun B' hB => by cases hB; exact ⟨_, h.b0, rfl, rfl, fun E _ => ⟨ok_of_pf _ _ (cSp.pf x.a), cells_pf _ _ _ (cSp.pf x.a) []⟩⟩⟩
      · exact ⟨by show 1 < 3; omega, fun B' hB => by cases hB; exact ⟨_, h.b1, rfl, rfl, fun E _ => ⟨ok_of_pf _ _ (cSp.pf x.b), cells_pf _ _ _ (cSp.pf x.b) []⟩⟩⟩
      · exact ⟨by show 2 < 3; omega, fun B' hB => by cases hB; exact ⟨_, hb, rfl, rfl, fun E _ => ⟨ok_of_pf _ _ (cB16.pf g), cells_pf _ _ _ (cB16.pf g) []⟩⟩⟩
  have := hK.rel hs h.lo
  rw [h.nt] at this
  exact this

theorem seven_kept (x : LeI) {s : LeS} {st : St} {n : Nat} (hn : 3 ≤ n) (h : Seven x st (sl16 2) s.out s.i) (hb : st.hp 2 = some ⟨4, cB16.enc s.f⟩) : KeptR st n (entL x s) (hbsL x s) := by
  refine Kept.toR ⟨fun y hy => ?_, fun y hy => ?_, by rw [h.lo]; omega⟩
  · simp only [entL, List.mem_cons, List.not_mem_nil, or_false] at hy
    rcases hy with rfl | rfl | rfl | rfl | rfl | rfl | rfl
    · exact ⟨fun E y hv => by rw [← h.l9]; exact hv, by show 2 < n; omega⟩
    · exact ⟨fun E y hv => by rw [← h.l10]; exact hv, trivial⟩
    · exact ⟨fun E y hv => by rw [← h.l11]; exact hv, trivial⟩
    · exact ⟨fun E y hv => by rw [← h.l0]; exact hv, trivial⟩
    · exact ⟨fun E y hv => by rw [← h.l3]; exact hv, trivial⟩
    · exact ⟨fun E y hv => by rw [← h.l5]; exact hv, by show 0 < n; omega⟩
    · exact ⟨fun E y hv => by rw [← h.l6]; exact hv, by show 1 < n; omega⟩
  · simp only [hbsL, List.mem_cons, List.not_mem_nil, or_false] at hy
    rcases hy with rfl | rfl | rfl
    · exact ⟨by show 0 < n; omega, h.b0, fun B hB => by cases hB; exact nltSp _ _⟩
    · exact ⟨by show 1 < n; omega, h.b1, fun B hB => by cases hB; exact nltSp _ _⟩
    · exact ⟨by show 2 < n; omega, hb, fun B hB => by cases hB; exact nltB16 _ _⟩
theorem seven_kept2 (x : LeI) {s : LeS} {st : St} {n : Nat} (hn : 3 ≤ n) (h : Seven x st (sl16 2) s.out s.i) (h14 : st.look 14 = eW (1#64 - x.want)) : KeptR st n (ent2 x s) (hbs2 x) := by
  refine Kept.toR ⟨fun y hy => ?_, fun y hy => ?_, by rw [h.lo]; omega⟩
  · simp only [ent2, List.mem_cons, List.not_mem_nil, or_false] at hy
    rcases hy with rfl | rfl | rfl | rfl | rfl | rfl | rfl
    · exact ⟨fun E y hv => by rw [← h.l10]; exact hv, trivial⟩
    · exact ⟨fun E y hv => by rw [← h.l11]; exact hv, trivial⟩
    · exact ⟨fun E y hv => by rw [← h.l0]; exact hv, trivial⟩
    · exact ⟨fun E y hv => by rw [← h.l3]; exact hv, trivial⟩
    · exact ⟨fun E y hv => by rw [← h.l5]; exact hv, by show 0 < n; omega⟩
    · exact ⟨fun E y hv => by rw [← h.l6]; exact hv, by show 1 < n; omega⟩
    · exact ⟨fun E y hv => by rw [← h14]; exact hv, trivial⟩
  · simp only [hbs2, List.mem_cons, List.not_mem_nil, or_false] at hy
    rcases hy with rfl | rfl
    · exact ⟨by show 0 < n; omega, h.b0, fun B hB => by cases hB; exact nltSp _ _⟩
    · exact ⟨by show 1 < n; omega, h.b1, fun B hB => by cases hB; exact nltSp _ _⟩

/-- A call of the document's step. -/
theorem call_step (p : SpA) (hi : 0 ≤ p.i.toInt) {st : St} {k : Nat} (hnt : st.nt = 53) (hlo : st.lo = 0) (hnx : st.next = k) (hb2 : st.hp 2 = some ⟨4, cB16.enc p.f⟩) {o : Oper} {rest : List Oper} {Q : Exit → Act → World → Prop}
    (hgd : o.guard = none) (hev : eff Tryz.prog (opd st.look) o.op = some (.call 130 [sl16 2, eI p.op, eSp p.a, eSp p.b, eI p.i, eW p.want])) {dst : Nat} (hd : o.dst = some dst) (hdst : dst < 53) {ents : List (Nat × AV)} {hbs : List (Nat × Option Blk)} (hk : KeptR st k ents hbs)
    {ws : World} {a : Act} {w : World} (hs : SRel E0 ws st a w)
    (hK : ∀ a' w', SRel E0 ws (bkSt (.tup (.cons (sl16 k) (.cons (eB p.some) .nil))) ⟨4, cB16.enc p.next⟩ k dst ents hbs 53 0) a' w' → wpList Tryz.prog #[] Q rest a' w') :
    wpList Tryz.prog #[] Q (o :: rest) a w := by
  subst hnx
  refine step_callB (Δ := Unit) hs hgd hev (fun _ => .tup (.cons (sl16 st.next) (.cons (eB p.some) .nil))) (fun _ => ⟨4, cB16.enc p.next⟩) (fun _ => True) ?_ hd (by rw [hnt]; exact hdst) hk ?_
  · intro E hH ha
    obtain ⟨b, b1, b2, b3⟩ := hH 2 _ hb2
    have hrow : w.heap[b]? = some (.cells (cells E0 [] (cB16.enc p.f)).toArray 4 (0, 0)) := by rw [b3, cellsB16]; rfl
    have e : ([sl16 2, eI p.op, eSp p.a, eSp p.b, eI p.i, eW p.want].map (val E)).toArray = (p.args.map (val (E1 b))).toArray := by
      congr 1
      simp only [SpA.args, List.map_cons, List.map_nil]
      have e1 : val E (sl16 2) = val (E1 b) (sl16 0) := by simp [sl16, val, cells, b1, E1]
      have e2 : val E (eSp p.a) = val (E1 b) (eSp p.a) := val_pf (cSp.pf p.a) E (E1 b)
      have e3 : val E (eSp p.b) = val (E1 b) (eSp p.b) := val_pf (cSp.pf p.b) E (E1 b)
      rw [e1, e2, e3]
      rfl
    rw [e]
    refine (calls130 p hi hrow).mono ?_
    rintro e w' ⟨b', rfl, q1, q2, q3⟩
    refine ⟨(), _, b', rfl, trivial, ?_, ?_, q2, q3⟩
    · intro E' hE'
      refine ⟨⟨?_, trivial, trivial⟩, ?_⟩
      · show (E' st.next).isSome = true
        rw [hE']; rfl
      · have e1 : val E' (sl16 st.next) = .slice (some ⟨b', 0, none⟩) 16 16 := by simp [sl16, val, cells, hE', offOf, lenZ]
        show Value.tuple [val E' (sl16 st.next), val E' (eB p.some)].toArray = _
        rw [e1]; rfl
    · intro E'
      refine ⟨ok_of_pf _ _ (cB16.pf _), ?_⟩
      rw [cellsB16]; exact q1
  · intro _ a' w' _ hs'
    rw [hnt, hlo] at hs'
    exact hK a' w' hs'
end Go.Rf

/- Spans: the document's least by its contract. -/
namespace Go.Rf
open Go.Proofs

theorem look_bool {st : St} {t : Nat} {c : Bool} (h : st.look t = .bool fun _ => c) {Es : Env} {ws : World} {a : Act} {w : World} (hs : SRel Es ws st a w) : a.eval (.tmp t) = .bool c := by
  obtain ⟨E, h1, _⟩ := hs
  have q := h1 t
  rw [h] at q
  exact q.2.symm
theorem pred_int {i : W} (h : 0 ≤ i.toInt) : (i - 1#64).toInt = i.toInt - 1 := by
  rw [BitVec.toInt_sub]
  have := BitVec.toInt_lt (x := i)
  have e : (1#64 : W).toInt = 1 := by decide
  rw [e, Int.bmod_eq_of_le] <;> omega
theorem LeS.go_iff {s : LeS} : s.go = true ↔ 0 ≤ s.i.toInt := by
  have z : (0#64 : W).toInt = 0 := rfl
  rw [LeS.go, leI, decide_eq_true_eq, z]

/-- A round. -/
theorem round44 (x : LeI) (s : LeS) {ws : World} {a : Act} {w : World} (hs : SRel E0 ws (nL x s) a w) {Q : Exit → Act → World → Prop}
    (hexit : s.go = false → ∀ a' w', SRel E0 ws (v5 x s) a' w' → Q (.exit 0) a' w') (hnext : s.go = true → ∀ a' w', SRel E0 ws (nL x (s.nxt x)) a' w' → Q .normal a' w') : NL.wp Tryz.prog Q a w := by
  rw [NL_eq]
  refine wp_seq (wp_seq (regS (f5 x s) hs fun a1 w1 hs1 => ?_))
  cases hg : s.go with
  | false =>
    refine wp_cond_false (by rw [look_bool (s5 x s) hs1, hg]) ?_
    exact wp_exit (hexit hg _ _ hs1)
  | true =>
    have hi := LeS.go_iff.1 hg
    refine wp_cond_true (by rw [look_bool (s5 x s) hs1, hg]) (wp_skip ?_)
    show (Code.seq (.block 1 _) (.region 6 L6.toArray false)).wp Tryz.prog _ a1 w1
    refine wp_seq (wp_block (wp_seq (list_region (by simpa using gL7) ?_)))
    rw [List.toList_toArray, L7_eq]
    refine wpList_app _ (noGd_spec gL7a) _ _ ?_
    refine lstS gL7a (f7 x s) hs1 fun a2 w2 hs2 => ⟨rfl, ?_⟩
    refine call_step (s.spa x x.want) hi (s7a x s) (s7b x s) (s7c x s) (s7m x s) opLa (opLb x s) opLc (by omega) (seven_kept x (by omega) (s7 x s) (s7m x s)) hs2 ?_
    intro a3 w3 hs3
    refine lstS gL7b (f7b x s) hs3 fun a4 w4 hs4 => ?_
    show (Code.seq (.region 8 L8.toArray false) _).wp Tryz.prog _ a4 w4
    refine wp_seq (regS (f8 x s) hs4 fun a5 w5 hs5 => ?_)
    show (Code.seq (.seq (.region 9 L9.toArray false) _) _).wp Tryz.prog _ a5 w5
    refine wp_seq (wp_seq (regS (f9 x s) hs5 fun a6 w6 hs6 => ?_))
    cases ho : s.one x with
    | true =>
      refine wp_cond_false (by rw [look_bool (s9 x s) hs6, ho]; rfl) (wp_skip ?_)
      show (Code.seq (.region 12 L12.toArray false) (.region 13 L13.toArray false)).wp Tryz.prog _ a6 w6
      refine wp_seq (regS (fA x s) hs6 fun a7 w7 hs7 => ?_)
      show (Code.region 13 L13.toArray false).wp Tryz.prog _ a7 w7
      refine regS (fB' x s) hs7 fun a8 w8 hs8 => ?_
      show (Code.region 6 L6.toArray false).wp Tryz.prog _ a8 w8
      refine regS (fC x s) hs8 fun a9 w9 hs9 => ?_
      refine hnext hg a9 w9 ?_
      have hb : s.bit x = x.want := by unfold LeS.bit; rw [if_pos ho]
      have := seven_new x (k := 3) (by omega) (sC x s) (sCl x s) hs9
      unfold LeS.nxt
      rw [hb]
      exact this
    | false =>
      refine wp_cond_true (by rw [look_bool (s9 x s) hs6, ho]; rfl) ?_
      refine wp_seq (regS (g10 x s) hs6 fun a7 w7 hs7 => ?_)
      show (Code.region 11 L11.toArray false).wp Tryz.prog _ a7 w7
      refine list_region (by simpa using gL11) ?_
      rw [List.toList_toArray, L11_eq]
      refine wpList_app _ (noGd_spec gL11a) _ _ ?_
      refine lstS gL11a (g11 x s) hs7 fun a8 w8 hs8 => ⟨rfl, ?_⟩
      refine call_step (s.spa x (1#64 - x.want)) hi (tUa x s) (tUb x s) (tUc x s) (tUm x s) opRa (opRb x s) opRc (by omega) (seven_kept2 x (by omega) (tU x s) (tUn x s)) hs8 ?_
      intro a9 w9 hs9
      refine lstS gL11b (g11b x s) hs9 fun a10 w10 hs10 => ?_
      show (Code.seq (.region 12 L12.toArray false) (.region 13 L13.toArray false)).wp Tryz.prog _ a10 w10
      refine wp_seq (regS (gA x s) hs10 fun a11 w11 hs11 => ?_)
      show (Code.region 13 L13.toArray false).wp Tryz.prog _ a11 w11
      refine regS (gB x s) hs11 fun a12 w12 hs12 => ?_
      show (Code.region 6 L6.toArray false).wp Tryz.prog _ a12 w12
      refine regS (gC x s) hs12 fun a13 w13 hs13 => ?_
      refine hnext hg a13 w13 ?_
      have hb : s.bit x = 1#64 - x.want := by unfold LeS.bit; rw [if_neg (by rw [ho]; decide)]
      have := seven_new x (k := 4) (by omega) (tC x s) (tCl x s) hs13
      unfold LeS.nxt
      rw [hb]
      exact this

/-! The whole. -/
def now0 : Nat → Bool := updQ (fun _ => false) 15 true
def LeS.mu (s : LeS) : Nat := (s.i.toInt + 1).toNat
def LeI.run (x : LeI) (s : LeS) : LeS := runN LeS.go (LeS.nxt x) 64 s
def leastD (x : LeI) : W := (x.run ⟨now0, 0#64, 63#64⟩).out
noncomputable def n1 (x : LeI) : St := outN1 (evalCode cxS (fun _ => none) N0 [] (n0 x))
theorem en1 (x : LeI) : ∃ ob, evalCode cxS (fun _ => none) N0 [] (n0 x) = some (.norm (n1 x), ob) ∧ ob.holds := fl_two (L := []) (by kernel_rfl) (by kernel_rfl) (by simp)
def ent0 (x : LeI) : List (Nat × AV) := [(0, eI x.op), (3, eW x.want), (5, .ptr 0 []), (6, .ptr 1 [])]
def n2 (x : LeI) : St := ⟨(15, sl16 2) :: ent0 x, fun _ => .un, (2, some ⟨4, cB16.enc fun _ => false⟩) :: hbs2 x, fun _ => none, 3, 53, 0⟩
noncomputable def n3 (x : LeI) : St := stOf1 (evalList cxS N1b (n2 x))
noncomputable def n4 (x : LeI) : St := outN1 (evalCode cxS (fun _ => none) N2 [] (n3 x))
noncomputable def n5 (x : LeI) : St := outN1 (evalCode cxS (fun _ => none) N3 [] (n4 x))
noncomputable def n6 (x : LeI) : St := outN1 (evalCode cxS (fun _ => none) N4 [] (n5 x))
theorem en3 (x : LeI) : ∃ ob, evalList cxS N1b (n2 x) = some (n3 x, ob) ∧ ob.holds := fl_two (L := []) (by kernel_rfl) (by kernel_rfl) (by simp)
theorem en4 (x : LeI) : ∃ ob, evalCode cxS (fun _ => none) N2 [] (n3 x) = some (.norm (n4 x), ob) ∧ ob.holds := fl_two (L := [(15 : Nat) < 16]) (by kernel_rfl) (by kernel_rfl) (by simp)
theorem en5 (x : LeI) : ∃ ob, evalCode cxS (fun _ => none) N3 [] (n4 x) = some (.norm (n5 x), ob) ∧ ob.holds := fl_two (L := []) (by kernel_rfl) (by kernel_rfl) (by simp)
theorem en6 (x : LeI) : ∃ ob, evalCode cxS (fun _ => none) N4 [] (n5 x) = some (.norm (n6 x), ob) ∧ ob.holds := fl_two (L := []) (by kernel_rfl) (by kernel_rfl) (by simp)
theorem n6a (x : LeI) : (n6 x).nt = 53 := by kernel_rfl
theorem n6b (x : LeI) : (n6 x).lo = 0 := by kernel_rfl
theorem n6c (x : LeI) : (n6 x).look 9 = sl16 2 := by kernel_rfl
theorem n6d (x : LeI) : (n6 x).look 10 = .lit .u64 0 := by kernel_rfl
theorem n6e (x : LeI) : (n6 x).look 11 = .lit .i64 63 := by kernel_rfl
theorem n6f (x : LeI) : (n6 x).look 0 = eI x.op := by kernel_rfl
theorem n6g (x : LeI) : (n6 x).look 3 = eW x.want := by kernel_rfl
theorem n6h (x : LeI) : (n6 x).look 5 = .ptr 0 [] := by kernel_rfl
theorem n6i (x : LeI) : (n6 x).look 6 = .ptr 1 [] := by kernel_rfl
theorem n6j (x : LeI) : (n6 x).hp 0 = some ⟨26, eSp x.a⟩ := by kernel_rfl
theorem n6k (x : LeI) : (n6 x).hp 1 = some ⟨26, eSp x.b⟩ := by kernel_rfl
noncomputable def bk15 (x : LeI) : Blk := ((n6 x).hp 2).getD ⟨0, .un⟩
theorem n6l (x : LeI) : (n6 x).hp 2 = some (bk15 x) := by kernel_rfl
theorem n6m (x : LeI) : (bk15 x).T = 4 := by kernel_rfl
theorem n6n (x : LeI) : fzOf (bk15 x).v = fzOf (cB16.enc now0) := by kernel_rfl
theorem n6o (x : LeI) (E : Env) : cells E [] (bk15 x).v = cells E [] (cB16.enc now0) := by kernel_rfl
theorem start44 (x : LeI) (st : St) (B : Blk) (hnt : st.nt = 53) (hlo : st.lo = 0) (h9 : st.look 9 = sl16 2) (h10 : st.look 10 = .lit .u64 0) (h11 : st.look 11 = .lit .i64 63) (h0 : st.look 0 = eI x.op) (h3 : st.look 3 = eW x.want) (h5 : st.look 5 = .ptr 0 []) (h6 : st.look 6 = .ptr 1 [])
    (b0 : st.hp 0 = some ⟨26, eSp x.a⟩) (b1 : st.hp 1 = some ⟨26, eSp x.b⟩) (b2 : st.hp 2 = some B) (hT : B.T = 4) (hf : fzOf B.v = fzOf (cB16.enc now0)) (hc : ∀ E, cells E [] B.v = cells E [] (cB16.enc now0)) {ws : World} {a : Act} {w : World} (hs : SRel E0 ws st a w) :
    SRel E0 ws (nL x ⟨now0, 0#64, 63#64⟩) a w := by
  have hk : KeptR st 3 (entL x ⟨now0, 0#64, 63#64⟩) (hbsL x ⟨now0, 0#64, 63#64⟩) := by
    refine ⟨fun y hy => ?_, fun y hy => ?_, by rw [hlo]; omega⟩
    · simp only [entL, List.mem_cons, List.not_mem_nil, or_false] at hy
      rcases hy with rfl | rfl | rfl | rfl | rfl | rfl | rfl
      · exact ⟨fun E y hv => by rw [← h9]; exact hv, by show 2 < 3; omega⟩
      · exact ⟨fun E y hv => by rw [h10] at hv; exact ⟨trivial, hv.2⟩, trivial⟩
      · exact ⟨fun E y hv => by rw [h11] at hv; exact ⟨trivial, hv.2⟩, trivial⟩
      · exact ⟨fun E y hv => by rw [← h0]; exact hv, trivial⟩
      · exact ⟨fun E y hv => by rw [← h3]; exact hv, trivial⟩
      · exact ⟨fun E y hv => by rw [← h5]; exact hv, by show 0 < 3; omega⟩
      · exact ⟨fun E y hv => by rw [← h6]; exact hv, by show 1 < 3; omega⟩
    · simp only [hbsL, List.mem_cons, List.not_mem_nil, or_false] at hy
      rcases hy with rfl | rfl | rfl
      · exact ⟨by show 0 < 3; omega, fun B' hB => by cases hB; exact ⟨nltSp _ _, _, b0, rfl, rfl, fun E hE => ⟨hE, rfl⟩⟩⟩
      · exact ⟨by show 1 < 3; omega, fun B' hB => by cases hB; exact ⟨nltSp _ _, _, b1, rfl, rfl, fun E hE => ⟨hE, rfl⟩⟩⟩
      · exact ⟨by show 2 < 3; omega, fun B' hB => by cases hB; exact ⟨nltB16 _ _, B, b2, hT, hf, fun E _ => ⟨ok_of_pf _ _ (cB16.pf now0), hc E⟩⟩⟩
  have := hk.rel hs
  rw [hnt, hlo] at this
  exact this
theorem end44 (x : LeI) (s : LeS) : ∃ ob, evalK cxS (fun _ => none) fL N5 [] (v5 x s) = some (eW s.out, ob) ∧ ob.holds := fl_two (L := []) (by kernel_rfl) (by kernel_rfl) (by simp)
theorem end44r (x : LeI) (s : LeS) : (v5 x s).hrest = fun _ => none := by kernel_rfl
theorem opNa : opN.guard = none := by kernel_rfl
theorem opNb : opN.op = .makeSlice 119 (.const (.int .i64 16)) (.const (.int .i64 16)) := by kernel_rfl
theorem opNc : opN.dst = some 15 := by kernel_rfl
theorem gN1 : noGd N1 = true := by kernel_rfl
theorem gN1b : noGd N1b = true := by kernel_rfl
theorem N1_eq : N1 = opN :: N1b := by kernel_rfl
theorem n1a (x : LeI) : (n1 x).nt = 53 := by kernel_rfl
theorem n1b (x : LeI) : (n1 x).lo = 0 := by kernel_rfl
theorem n1c (x : LeI) : (n1 x).next = 2 := by kernel_rfl
theorem n1d (x : LeI) : (n1 x).look 0 = eI x.op := by kernel_rfl
theorem n1e (x : LeI) : (n1 x).look 3 = eW x.want := by kernel_rfl
theorem n1f (x : LeI) : (n1 x).look 5 = .ptr 0 [] := by kernel_rfl
theorem n1g (x : LeI) : (n1 x).look 6 = .ptr 1 [] := by kernel_rfl
theorem n1h (x : LeI) : (n1 x).hp 0 = some ⟨26, eSp x.a⟩ := by kernel_rfl
theorem n1i (x : LeI) : (n1 x).hp 1 = some ⟨26, eSp x.b⟩ := by kernel_rfl
theorem keptN (x : LeI) {st : St} {n : Nat} (hn : 2 ≤ n) (h0 : st.look 0 = eI x.op) (h3 : st.look 3 = eW x.want) (h5 : st.look 5 = .ptr 0 []) (h6 : st.look 6 = .ptr 1 []) (b0 : st.hp 0 = some ⟨26, eSp x.a⟩) (b1 : st.hp 1 = some ⟨26, eSp x.b⟩) (hlo : st.lo ≤ n) : Kept st n (ent0 x) (hbs2 x) := by
  refine ⟨fun y hy => ?_, fun y hy => ?_, hlo⟩
  · simp only [ent0, List.mem_cons, List.not_mem_nil, or_false] at hy
    rcases hy with rfl | rfl | rfl | rfl
    · exact ⟨fun E y h => by rw [← h0]; exact h, trivial⟩
    · exact ⟨fun E y h => by rw [← h3]; exact h, trivial⟩
    · exact ⟨fun E y h => by rw [← h5]; exact h, by show 0 < n; omega⟩
    · exact ⟨fun E y h => by rw [← h6]; exact h, by show 1 < n; omega⟩
  · simp only [hbs2, List.mem_cons, List.not_mem_nil, or_false] at hy
    rcases hy with rfl | rfl
    · exact ⟨by show 0 < n; omega, b0, fun B hB => by cases hB; exact nltSp _ _⟩
    · exact ⟨by show 1 < n; omega, b1, fun B hB => by cases hB; exact nltSp _ _⟩
theorem makeN (x : LeI) (st : St) (hnt : st.nt = 53) (hlo : st.lo = 0) (hnx : st.next = 2) (h0 : st.look 0 = eI x.op) (h3 : st.look 3 = eW x.want) (h5 : st.look 5 = .ptr 0 []) (h6 : st.look 6 = .ptr 1 []) (b0 : st.hp 0 = some ⟨26, eSp x.a⟩) (b1 : st.hp 1 = some ⟨26, eSp x.b⟩)
    {o : Oper} (hgd : o.guard = none) (ho : o.op = .makeSlice 119 (.const (.int .i64 16)) (.const (.int .i64 16))) (hd : o.dst = some 15) {rest : List Oper} {Q : Exit → Act → World → Prop}
    {i : TypeInfo} (ht : Tryz.prog.underlying 119 = some (.slice 4)) (hi : Tryz.prog.info? 4 = some i) (hz : i.zero = some (.bool false)) (hsz : i.size = 1) (hby : i.bytes = 1)
    {Es : Env} {ws : World} {a : Act} {w : World} (hs : SRel Es ws st a w) (hK : ∀ a' w', SRel Es ws (n2 x) a' w' → wpList Tryz.prog #[] Q rest a' w') : wpList Tryz.prog #[] Q (o :: rest) a w := by
  refine step_make flatB hs hgd (t := 119) (te := 4) ho hd (by rw [hnt]; omega) (k := 16) (kl := .i64) (kc := .i64) rfl rfl
    (keptN x (by rw [hnx]; omega) h0 h3 h5 h6 b0 b1 (by rw [hlo, hnx]; omega)) i (.bool false) false ht hi hz hsz zs4 (by rw [hby]; omega) (by unfold maxLen; omega) ?_
  intro D a2 w2 d1 d2 d3 d4 hs2
  rw [hnt, hlo, hnx] at hs2
  obtain ⟨p1, p2, p3, p4⟩ := plain16 d1 d2 d3 d4 2
  have hk : KeptR (slSt D 2 15 (ent0 x) (hbs2 x) 53 0) 3 ((15, sl16 2) :: ent0 x) ((2, some ⟨4, cB16.enc fun _ => false⟩) :: hbs2 x) := by
    have h0 := (keptN x (st := slSt D 2 15 (ent0 x) (hbs2 x) 53 0) (n := 3) (by omega) rfl rfl rfl rfl rfl rfl (by show 0 ≤ 3; omega)).toR
    refine ⟨fun y hy => ?_, fun y hy => ?_, by show 0 ≤ 3; omega⟩
    · rcases List.mem_cons.1 hy with rfl | hy
      · exact ⟨fun E y h => p1 E y h, by show 2 < 3; omega⟩
      · exact h0.ent y hy
    · rcases List.mem_cons.1 hy with rfl | hy
      · exact ⟨by show 2 < 3; omega, fun B hB => by cases hB; exact ⟨trivial, D.blk, rfl, p2, p3, p4⟩⟩
      · exact h0.blk y hy
  exact hK a2 w2 (hk.rel hs2)
theorem calls88 (x : LeI) (w : World) : Calls Tryz.prog 88 (x.args.map (val E0)).toArray w fun e w' => e = .returned (valT E0 (eW (leastD x))) ∧ RowKit.Below w.heap.size w w' := by
  have hfn : Tryz.prog.funcs[88]? = some fL := by kernel_rfl
  refine calls_of_wp hfn bodyN ?_
  have hnt : fL.ntmps = 53 := by kernel_rfl
  have hs0 := enter_rel (P := Tryz.prog) (fn := fL) (args := x.args) (by rw [hnt]; show 4 ≤ 53; omega) (fun v hv => by
    simp only [LeI.args, List.mem_cons, List.not_mem_nil, or_false] at hv
    rcases hv with rfl | rfl | rfl | rfl
    · rfl
    · exact cSp.pf x.a
    · exact cSp.pf x.b
    · rfl) w
  rw [hnt] at hs0
  refine wp_seq (codS (en1 x) hs0 fun a1 w1 hs1 => ?_)
  show (Code.seq (.region 1 N1.toArray false) _).wp Tryz.prog _ a1 w1
  refine wp_seq (list_region (by simpa using gN1) ?_)
  rw [List.toList_toArray, N1_eq]
  refine makeN x (n1 x) (n1a x) (n1b x) (n1c x) (n1d x) (n1e x) (n1f x) (n1g x) (n1h x) (n1i x) opNa opNb opNc t70 i4a i4b i4c i4d hs1 fun a2 w2 hs2 => ?_
  refine lstS gN1b (en3 x) hs2 fun a3 w3 hs3 => ?_
  show (Code.seq N2 _).wp Tryz.prog _ a3 w3
  refine wp_seq (codS (en4 x) hs3 fun a4 w4 hs4 => ?_)
  show (Code.seq N3 _).wp Tryz.prog _ a4 w4
  refine wp_seq (codS (en5 x) hs4 fun a5 w5 hs5 => ?_)
  show (Code.seq (.seq N4 (.block 0 (.loop NL))) N5).wp Tryz.prog _ a5 w5
  refine wp_seq (wp_seq (codS (en6 x) hs5 fun a6 w6 hs6 => ?_))
  have hs7 : SRel E0 w (nL x ⟨now0, 0#64, 63#64⟩) a6 w6 := start44 x (n6 x) (bk15 x) (n6a x) (n6b x) (n6c x) (n6d x) (n6e x) (n6f x) (n6g x) (n6h x) (n6i x) (n6j x) (n6k x) (n6l x) (n6m x) (n6n x) (n6o x) hs6
  · refine wp_block (wp_loop_ix (fun s a w' => SRel E0 w (nL x s) a w' ∧ -1 ≤ s.i.toInt ∧ s.i.toInt ≤ 63 ∧ (x.run s).out = leastD x) LeS.mu ?_ ⟨now0, 0#64, 63#64⟩ a6 w6 ⟨hs7, by decide, by decide, rfl⟩)
    rintro s a' w' ⟨hr, h1, h2, h3⟩
    have dec : ∀ s : LeS, (-1 ≤ s.i.toInt ∧ s.i.toInt ≤ 63) → s.go = true → (-1 ≤ (s.nxt x).i.toInt ∧ (s.nxt x).i.toInt ≤ 63) ∧ (s.nxt x).mu < s.mu := by
      intro s hs hg
      have h0 := LeS.go_iff.1 hg
      have e : (s.nxt x).i.toInt = s.i.toInt - 1 := pred_int h0
      refine ⟨by omega, ?_⟩
      unfold LeS.mu
      rw [e]; omega
    refine round44 x s hr (fun hg a2 w2 hs2 => ?_) (fun hg a2 w2 hs2 => ?_)
    · show N5.wp Tryz.prog _ a2 w2
      have e : s.out = leastD x := by
        rw [← h3]
        unfold LeI.run
        rw [runN_stop hg]
      rw [← e]
      obtain ⟨ob, k1, k2⟩ := end44 x s
      exact evalK_run (cx := cxS) zg9 hIS k1 k2 (end44r x s) hs2
    · have hd := dec s ⟨h1, h2⟩ hg
      refine ⟨s.nxt x, ⟨hs2, hd.1.1, hd.1.2, ?_⟩, hd.2⟩
      rw [← h3]
      unfold LeI.run
      have hm : s.mu ≤ 64 := by unfold LeS.mu; omega
      have hm2 : (s.nxt x).mu ≤ 64 := by omega
      rw [runN_ge dec 64 s ⟨h1, h2⟩ hm, runN_ge dec 64 (s.nxt x) hd.1 hm2, ← runN_ge dec s.mu (s.nxt x) hd.1 (by omega), runN_same dec ⟨h1, h2⟩ (Nat.le_refl _) hg]
theorem k88 : ConOk Tryz.prog 88 (con4 cI cSp cSp cW fun op a b want => eW (leastD ⟨op, a, b, want⟩)) := by
  intro args r ob hK hob ha
  unfold con4 at hK
  split at hK <;> try (simp at hK; done)
  split at hK <;> simp at hK
  rename_i a b c d x y z t e1 e2 e3 e4
  obtain ⟨rfl, rfl⟩ := hK
  refine ⟨rfl, fun w => ?_⟩
  have := calls88 ⟨x, y, z, t⟩ w
  simp only [LeI.args, List.map_cons, List.map_nil] at this
  simp only [List.map_cons, List.map_nil, cI.val e1, cSp.val e2, cSp.val e3, cW.val e4]
  exact this
end Go.Rf
