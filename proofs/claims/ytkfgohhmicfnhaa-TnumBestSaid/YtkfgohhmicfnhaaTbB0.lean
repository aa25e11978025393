/- Several texts as one: Tb6 Tb7 Tb8 Tb9 TbA. -/
import Derived.Test.YtkfgohhmicfnhaaTbA0
set_option linter.unusedVariables false
set_option linter.unusedSimpArgs false
set_option maxRecDepth 100000

/- Tnums: the law TnumBest: its inner loop. -/
namespace Go.Rf
open Go.Proofs

def pOp : List Nat := [1, 1, 1, 0, 1, 4, 5]
def pX : List Nat := pOp ++ [1, 1, 0, 4, 1, 1, 1, 1, 1, 0, 1, 4, 5]
def pY : List Nat := pX ++ [1, 1, 0, 4, 1, 1, 4]
structure YI where
  op : W
  x : W
  D : SlD sU
structure YS where
  first : Bool
  best : Tn
  j : W
noncomputable def lpY (I : YI) : Lp YS where
  keys := [44, 45, 46, 6, 12, 9, 10]
  names := [3]
  scr := wrAt Try.prog 6 pY
  vals s := [I.D.at 5, eI (BitVec.ofNat 64 I.D.len), eI s.j, eI I.op, eW I.x, eB s.first, .ptr 3 []]
  blks s := [⟨24, eTn s.best⟩]
  dec vs bs := match vs, bs with
    | [_, _, j, _, _, f, _], [⟨_, b⟩] => match cI.dec j, cB.dec f, cTn.dec b with
      | some j, some f, some b => some ⟨f, b, j⟩
      | _, _, _ => none
    | _, _ => none
  fx := [(5, some I.D.blk)]
def YS.lt (I : YI) (s : YS) : Bool := ltB .i64 s.j (BitVec.ofNat 64 I.D.len)
noncomputable def YS.n (I : YI) (s : YS) : W := aluV I.op true I.x (elU I.D (ixN s.j))
noncomputable def jR (b : Tn) (n : W) : Tn := Tn.mux (bad2 b ⟨n, 0#64⟩) nil (made (joL b ⟨n, 0#64⟩))
noncomputable def YS.n1 (I : YI) (s : YS) : YS := ⟨false, jR ⟨s.n I, 0#64⟩ (s.n I), s.j + 1#64⟩
noncomputable def YS.n2 (I : YI) (s : YS) : YS := ⟨s.first, jR s.best (s.n I), s.j + 1#64⟩
noncomputable def YS.nxt (I : YI) (s : YS) : YS := if s.first = true then s.n1 I else s.n2 I
noncomputable def YS.step (I : YI) (s : YS) : Rd YS := .br (s.lt I) (.br s.first (.norm (s.n1 I)) (.norm (s.n2 I))) (.exit 4 s)
structure YS.inv (I : YI) (s : YS) : Prop where
  big : I.D.len < 2 ^ 62
  le : s.j.toNat ≤ I.D.len
def YS.mu (I : YI) (s : YS) : Nat := I.D.len - s.j.toNat
theorem YS.lt_iff {I : YI} {s : YS} (h : s.inv I) : s.lt I = true ↔ s.j.toNat < I.D.len := by
  have h1 := h.big
  have h2 := h.le
  unfold YS.lt
  rw [ltB_nat (by omega) (by rw [ofNat_toNat (by omega)]; omega), ofNat_toNat (by omega), decide_eq_true_eq]
theorem YS.nxt_j (I : YI) (s : YS) : (s.nxt I).j = s.j + 1#64 := by unfold YS.nxt; split <;> rfl
theorem YS.dec (I : YI) (s : YS) (h : s.inv I) (hg : s.lt I = true) : (s.nxt I).inv I ∧ (s.nxt I).mu I < s.mu I := by
  rw [YS.lt_iff h] at hg
  have h1 := h.big
  have e : (s.nxt I).j.toNat = s.j.toNat + 1 := by rw [YS.nxt_j]; exact succ_nat (by omega)
  refine ⟨⟨h1, by omega⟩, ?_⟩
  unfold YS.mu; omega
noncomputable def YS.T (I : YI) (s : YS) : Rd YS := .exit 4 (runN (YS.lt I) (YS.nxt I) I.D.len s)
theorem goalY (I : YI) (s : YS) (h : s.inv I) : LoopGoal Try.prog (loopAt Try.prog 6 pY) (lpY I) (YS.T I) s 6 83 0 := by
  refine lp_rule (cx := cxB) gB1 hIB (Λ := fun _ => none) (p := []) (lpY I) (YS.inv I) (YS.mu I) (YS.step I) (YS.T I) 6 83 0 (fun _ => ⟨rfl, rfl⟩) ?_ ?_ s h
  · intro s r hh hi
    refine fl_ok (g := s.lt I) (L := [0 ≤ toZ .i64 s.j ∧ toZ .i64 s.j < toZ .i64 (BitVec.ofNat 64 I.D.len), I.D.pre.length = I.D.pre.length, (toZ .i64 s.j).toNat < I.D.len]) (by kernel_rfl) (fun hg p hp => ?_)
    rw [YS.lt_iff hi] at hg
    have h1 := hi.big
    have e1 : toZ .i64 s.j = s.j.toNat := toZ_nat (by omega)
    have e2 : toZ .i64 (BitVec.ofNat 64 I.D.len) = I.D.len := by rw [toZ_nat (by rw [ofNat_toNat (by omega)]; omega), ofNat_toNat (by omega)]
    simp only [List.mem_cons, List.not_mem_nil, or_false] at hp
    rcases hp with rfl | rfl | rfl
    · rw [e1, e2]; omega
    · trivial
    · rw [e1]; omega
  · show ∀ s, s.inv I → Good (YS.inv I) (YS.mu I) (fun s => .exit 4 (runN (YS.lt I) (YS.nxt I) I.D.len s)) s (s.step I).sel
    refine good_run (go := YS.lt I) (next := YS.nxt I) (YS.dec I) (fun s h => by unfold YS.mu; omega) ?_ ?_
    · intro s hi hg
      simp only [YS.step, Rd.sel, hg, if_true]
      unfold YS.nxt
      cases s.first <;> rfl
    · intro s hi hg
      simp only [YS.step, Rd.sel, hg, Bool.false_eq_true, if_false]

/-! What has been joined. -/
def HS (S : W → Prop) (first : Bool) (best : Tn) : Prop := (first = true ∧ ∀ n, ¬ S n) ∨ (first = false ∧ HullT S best)
theorem jR_eq {b : Tn} (hb : may b = true) (n : W) : jR b n = tJoin b ⟨n, 0#64⟩ := by
  have hm : may ⟨n, 0#64⟩ = true := (of_mem n).may
  unfold jR
  rw [bad2_false hb hm, join_eq hb hm]; rfl
theorem HullT.may {S : W → Prop} {t : Tn} (h : HullT S t) : Rf.may t = true := by
  obtain ⟨n, hn⟩ := h.some
  exact (h.mem n hn).may
theorem hs_step {S : W → Prop} {I : YI} {s : YS} (h : HS S s.first s.best) : HS (fun x => S x ∨ x = s.n I) (s.nxt I).first (s.nxt I).best := by
  right
  rcases h with ⟨h1, h2⟩ | ⟨h1, h2⟩
  · have e : s.nxt I = s.n1 I := by unfold YS.nxt; rw [if_pos h1]
    rw [e]
    refine ⟨rfl, ?_⟩
    show HullT _ (jR ⟨s.n I, 0#64⟩ (s.n I))
    rw [jR_eq (of_mem _).may]
    exact hull_cong (hull_join (hull_one (s.n I)) (s.n I)) (fun x => by
      constructor
      · rintro (h | h) <;> exact .inr h
      · rintro (h | h)
        · exact absurd h (h2 x)
        · exact .inl h)
  · have e : s.nxt I = s.n2 I := by unfold YS.nxt; rw [h1]; rfl
    rw [e]
    refine ⟨h1, ?_⟩
    show HullT _ (jR s.best (s.n I))
    rw [jR_eq h2.may]
    exact hull_join h2 (s.n I)
noncomputable def ySeq (I : YI) (f : Bool) (b : Tn) : Nat → YS
  | 0 => ⟨f, b, 0#64⟩
  | k + 1 => (ySeq I f b k).nxt I
theorem ySeq_j (I : YI) (f : Bool) (b : Tn) : ∀ k, (ySeq I f b k).j = BitVec.ofNat 64 k
  | 0 => rfl
  | k + 1 => by
    show ((ySeq I f b k).nxt I).j = _
    rw [YS.nxt_j, ySeq_j I f b k, ofNat_succ]
theorem ySeq_hs {I : YI} {f : Bool} {b : Tn} {S : W → Prop} (h : HS S f b) : ∀ k, k ≤ 64 → HS (fun x => S x ∨ ∃ j, j < k ∧ x = aluV I.op true I.x (elU I.D j)) (ySeq I f b k).first (ySeq I f b k).best
  | 0, _ => by
    have e : (fun x => S x ∨ ∃ j, j < 0 ∧ x = aluV I.op true I.x (elU I.D j)) = S := by funext x; simp
    rw [e]; exact h
  | k + 1, hk => by
    have := hs_step (I := I) (ySeq_hs (I := I) h k (by omega))
    have en : (ySeq I f b k).n I = aluV I.op true I.x (elU I.D k) := by
      unfold YS.n
      rw [ySeq_j, ixN_ofNat (by omega)]
    rw [en] at this
    have e : (fun x => (S x ∨ ∃ j, j < k ∧ x = aluV I.op true I.x (elU I.D j)) ∨ x = aluV I.op true I.x (elU I.D k)) = (fun x => S x ∨ ∃ j, j < k + 1 ∧ x = aluV I.op true I.x (elU I.D j)) := by
      funext x
      apply propext
      constructor
      · rintro ((h | ⟨j, h1, h2⟩) | h)
        · exact .inl h
        · exact .inr ⟨j, by omega, h2⟩
        · exact .inr ⟨k, by omega, h⟩
      · rintro (h | ⟨j, h1, h2⟩)
        · exact .inl (.inl h)
        · by_cases e : j = k
          · subst e; exact .inr h2
          · exact .inl (.inr ⟨j, by omega, h2⟩)
    rw [e] at this
    exact this
theorem yRun (I : YI) (f : Bool) (b : Tn) (hl : I.D.len < 2 ^ 62) : runN (YS.lt I) (YS.nxt I) I.D.len ⟨f, b, 0#64⟩ = ySeq I f b I.D.len :=
  runN_count (go := YS.lt I) (next := YS.nxt I) (ySeq I f b) I.D.len (fun k hk => by
    unfold YS.lt
    rw [ySeq_j, ltB_ofNat (by omega) (by omega)]) (fun k hk => rfl)
end Go.Rf

/- Tnums: the law TnumBest: its states. -/
namespace Go.Rf
open Go.Proofs

noncomputable def L0 : List Oper := opsB 6 [0]
noncomputable def L1 : List Oper := opsB 6 [1, 0, 0]
noncomputable def L2 : List Oper := opsB 6 [1, 0, 1, 2, 0]
noncomputable def L3 : Code := codB 6 [1, 1, 0]
noncomputable def L4 : List Oper := opsB 6 [1, 1, 1, 0, 0]
noncomputable def L5 : List Oper := opsB 6 (pOp ++ [0])
noncomputable def L6 : List Oper := opsB 6 (pOp ++ [1, 1, 0, 4, 0])
noncomputable def L7 : List Oper := opsB 6 (pOp ++ [1, 1, 0, 4, 1, 0])
noncomputable def L8 : List Oper := opsB 6 (pOp ++ [1, 1, 0, 4, 1, 1, 0, 0])
noncomputable def L9 : List Oper := opsB 6 (pOp ++ [1, 1, 0, 4, 1, 1, 0, 1, 2, 0])
noncomputable def L10 : List Oper := opsB 6 (pOp ++ [1, 1, 0, 4, 1, 1, 1, 0])
noncomputable def L11 : List Oper := opsB 6 (pOp ++ [1, 1, 0, 4, 1, 1, 1, 1, 0])
noncomputable def L12 : List Oper := opsB 6 (pOp ++ [1, 1, 0, 4, 1, 1, 1, 1, 1, 0, 0])
noncomputable def L24 : List Oper := opsB 6 (pOp ++ [1, 1, 0, 4, 1, 1, 1, 1, 1, 1, 0])
noncomputable def L25 : List Oper := opsB 6 (pOp ++ [1, 1, 0, 4, 1, 1, 1, 1, 1, 1, 1, 2, 0])
noncomputable def L26 : List Oper := opsB 6 (pOp ++ [1, 1, 1])
noncomputable def L27 : List Oper := opsB 6 [1, 1, 1, 1, 0]
noncomputable def L13 : List Oper := opsB 6 (pX ++ [0])
noncomputable def L14 : List Oper := opsB 6 (pX ++ [1, 1, 0, 4, 0])
noncomputable def L15 : List Oper := opsB 6 (pX ++ [1, 1, 0, 4, 1, 0])
noncomputable def L23 : List Oper := opsB 6 (pX ++ [1, 1, 1])
noncomputable def CY : Code := .block 4 (.loop (loopAt Try.prog 6 pY))
noncomputable def rndX : Code := .seq (.region 13 L13.toArray false) (.seq (.cond (.tmp 40) .skip (.exit 2)) (.seq (.block 3 (.seq (.region 14 L14.toArray false) (.seq (.region 15 L15.toArray false) CY))) (.region 23 L23.toArray false)))
noncomputable def bodOp : Code := .seq (.region 6 L6.toArray false) (.seq (.region 7 L7.toArray false) (.seq (.seq (.region 8 L8.toArray false) (.cond (.tmp 35) (.seq (.region 9 L9.toArray false) .ret) .skip))
  (.seq (.region 10 L10.toArray false) (.seq (.region 11 L11.toArray false) (.seq (.seq (.region 12 L12.toArray false) (.block 2 (.loop rndX))) (.seq (.region 24 L24.toArray false) (.cond (.tmp 81) (.seq (.region 25 L25.toArray false) .ret) .skip)))))))
noncomputable def rndO : Code := .seq (.region 5 L5.toArray false) (.seq (.cond (.tmp 25) .skip (.exit 0)) (.seq (.block 1 bodOp) (.region 26 L26.toArray false)))
theorem body6 : Try.f6.body = some (.seq (.region 0 L0.toArray false) (.seq (.seq (.region 1 L1.toArray false) (.cond (.tmp 18) (.seq (.region 2 L2.toArray false) .ret) .skip))
  (.seq L3 (.seq (.seq (.region 4 L4.toArray false) (.block 0 (.loop rndO))) (.seq (.region 27 L27.toArray false) .ret))))) := by kernel_rfl
noncomputable def L12a : List Oper := L12.take 1
noncomputable def oC12 : Oper := opB L12 1
noncomputable def L12b : List Oper := L12.drop 2
theorem L12_eq : L12 = L12a ++ (oC12 :: L12b) := by kernel_rfl
noncomputable def L15a : List Oper := L15.take 1
noncomputable def oC15 : Oper := opB L15 1
noncomputable def L15b : List Oper := L15.drop 2
theorem L15_eq : L15 = L15a ++ (oC15 :: L15b) := by kernel_rfl
theorem gL12 : noGd L12 = true := by kernel_rfl
theorem gL12a : noGd L12a = true := by kernel_rfl
theorem gL12b : noGd L12b = true := by kernel_rfl
theorem gL15 : noGd L15 = true := by kernel_rfl
theorem gL15a : noGd L15a = true := by kernel_rfl
theorem gL15b : noGd L15b = true := by kernel_rfl
end Go.Rf

/- Tnums: the law TnumBest: its states evaluated. -/
namespace Go.Rf
open Go.Proofs

noncomputable def outC (x : Option (Outc × Ob)) : St := match x with
  | some (.norm st, _) => st
  | _ => ⟨[], fun _ => .un, [], fun _ => none, 0, 0, 0⟩
def hbO (a b : Tn) : List (Nat × Option Blk) := [(0, some ⟨24, eTn a⟩), (1, some ⟨24, eTn b⟩)]
def enO' (i : W) : List (Nat × AV) := [(2, .ptr 0 []), (3, .ptr 1 []), (24, eI i)]
def enO (i : W) : List (Nat × AV) := (23, cOps.enc opsF) :: enO' i
def stO (a b : Tn) (i : W) : St := ⟨enO i, fun _ => .un, hbO a b, fun _ => none, 2, 83, 0⟩
def hbP (a b got best : Tn) : List (Nat × Option Blk) := [(0, some ⟨24, eTn a⟩), (1, some ⟨24, eTn b⟩), (2, some ⟨24, eTn got⟩), (3, some ⟨24, eTn best⟩)]
def enP (i op : W) (f : Bool) : List (Nat × AV) := [(2, .ptr 0 []), (3, .ptr 1 []), (23, cOps.enc opsF), (24, eI i), (6, eI op), (7, .ptr 2 []), (9, eB f), (10, .ptr 3 [])]
def stP (a b got best : Tn) (i op : W) (f : Bool) : St := ⟨enP i op f, fun _ => .un, hbP a b got best, fun _ => none, 4, 83, 0⟩
def enX (i op : W) (f : Bool) (len j : W) : List (Nat × AV) := (38, eI len) :: (39, eI j) :: enP i op f
def stX (a b got best : Tn) (i op : W) (f : Bool) (j : W) (D : SlD sU) : St := slSt D 4 37 (enX i op f (BitVec.ofNat 64 D.len) j) (hbP a b got best) 83 0
section
variable (a b : Tn)
noncomputable def u0 : St := St.enter [eTn a, eTn b] (fun _ => none) 0 83
noncomputable def u1 : St := outB (evalList cxB L0 (u0 a b))
noncomputable def u2 : St := outB (evalList cxB L1 (u1 a b))
noncomputable def u3 : St := outC (evalCode cxB (fun _ => none) L3 [] (u2 a b))
noncomputable def u4 : St := outB (evalList cxB L4 (u3 a b))
theorem eu1 : ∃ ob, evalList cxB L0 (u0 a b) = some (u1 a b, ob) ∧ ob.holds := fl_two (L := []) (by kernel_rfl) (by kernel_rfl) (by simp)
theorem eu2 : ∃ ob, evalList cxB L1 (u1 a b) = some (u2 a b, ob) ∧ ob.holds := fl_two (L := []) (by kernel_rfl) (by kernel_rfl) (by simp)
theorem u2g : (u2 a b).look 18 = .bool fun _ => !true := by kernel_rfl
theorem eu3 : ∃ ob, evalCode cxB (fun _ => none) L3 [] (u2 a b) = some (.norm (u3 a b), ob) ∧ ob.holds := fl_two (L := []) (by kernel_rfl) (by kernel_rfl) (by simp)
theorem eu4 : ∃ ob, evalList cxB L4 (u3 a b) = some (u4 a b, ob) ∧ ob.holds := fl_two (L := []) (by kernel_rfl) (by kernel_rfl) (by simp)
theorem u4a : (u4 a b).nt = 83 := by kernel_rfl
theorem u4b : (u4 a b).lo = 0 := by kernel_rfl
theorem u4c : ((enO' 0#64).map fun x => unlit ((u4 a b).look x.1)) = (enO' 0#64).map (·.2) := by kernel_rfl
noncomputable def v23 : AV := match (u4 a b).look 23 with
  | .arr _ v => v
  | _ => .un
theorem u4e : (u4 a b).look 23 = .arr 6 (v23 a b) := by kernel_rfl
theorem u4f : cOps.dec (.arr 6 (v23 a b)) = some opsF := by kernel_rfl
theorem u4d : ((hbO (narrD a 5#64) (narrD b 5#64)).map fun x => (u4 a b).hp x.1) = (hbO (narrD a 5#64) (narrD b 5#64)).map (·.2) := by kernel_rfl
variable (i : W)
noncomputable def o5 : St := outB (evalList cxB L5 (stO a b i))
noncomputable def o6 : St := outB (evalList cxB L6 (o5 a b i))
noncomputable def o7 : St := outB (evalList cxB L7 (o6 a b i))
noncomputable def o8 : St := outB (evalList cxB L8 (o7 a b i))
noncomputable def o10 : St := outB (evalList cxB L10 (o8 a b i))
noncomputable def o11 : St := outB (evalList cxB L11 (o10 a b i))
theorem eo5 : ∃ ob, evalList cxB L5 (stO a b i) = some (o5 a b i, ob) ∧ ob.holds := fl_two (L := []) (by kernel_rfl) (by kernel_rfl) (by simp)
theorem o5g : (o5 a b i).look 25 = .bool fun _ => ltB .i64 i 6#64 := by kernel_rfl
theorem eo6 (hi : i.toNat < 6) : ∃ ob, evalList cxB L6 (o5 a b i) = some (o6 a b i, ob) ∧ ob.holds := fl_two (L := [0 ≤ toZ .i64 i ∧ toZ .i64 i < ((6 : Nat) : Int)]) (by kernel_rfl) (by kernel_rfl) (fun p hp => by
  simp only [List.mem_singleton] at hp
  subst hp
  rw [toZ_nat (by omega)]; omega)
theorem eo7 : ∃ ob, evalList cxB L7 (o6 a b i) = some (o7 a b i, ob) ∧ ob.holds := fl_two (L := []) (by kernel_rfl) (by kernel_rfl) (by simp)
theorem eo8 : ∃ ob, evalList cxB L8 (o7 a b i) = some (o8 a b i, ob) ∧ ob.holds := fl_two (L := []) (by kernel_rfl) (by kernel_rfl) (by simp)
theorem o8g : (o8 a b i).look 35 = .bool fun _ => doneE (opsF (ixN i)) a b != 0#64 := by kernel_rfl
theorem eo10 : ∃ ob, evalList cxB L10 (o8 a b i) = some (o10 a b i, ob) ∧ ob.holds := fl_two (L := []) (by kernel_rfl) (by kernel_rfl) (by simp)
theorem eo11 : ∃ ob, evalList cxB L11 (o10 a b i) = some (o11 a b i, ob) ∧ ob.holds := fl_two (L := []) (by kernel_rfl) (by kernel_rfl) (by simp)
theorem o11a : (o11 a b i).nt = 83 := by kernel_rfl
theorem o11b : (o11 a b i).lo = 0 := by kernel_rfl
theorem o11c : ((enP i (opsF (ixN i)) true).map fun x => unlit ((o11 a b i).look x.1)) = (enP i (opsF (ixN i)) true).map (·.2) := by kernel_rfl
def hbQ (a b got : Tn) : List (Nat × Option Blk) := [(0, some ⟨24, eTn a⟩), (1, some ⟨24, eTn b⟩), (2, some ⟨24, eTn got⟩)]
theorem o11d : ((hbQ a b (doneT (opsF (ixN i)) a b)).map fun x => (o11 a b i).hp x.1) = (hbQ a b (doneT (opsF (ixN i)) a b)).map (·.2) := by kernel_rfl
noncomputable def bQ : Blk := ((o11 a b i).hp 3).getD ⟨0, .un⟩
theorem o11e : (o11 a b i).hp 3 = some (bQ a b i) := by kernel_rfl
theorem o11f : (bQ a b i).T = 24 := by kernel_rfl
theorem o11g : fzOf (bQ a b i).v = fzOf (eTn nil) := by kernel_rfl
theorem o11h (E : Env) : cells E [] (bQ a b i).v = cells E [] (eTn nil) := by kernel_rfl
end
end Go.Rf

/- Tnums: the law TnumBest: the states of its middle loop. -/
namespace Go.Rf
open Go.Proofs

section
variable (a b got best : Tn) (i op : W) (f : Bool) (j : W) (D : SlD sU)
noncomputable def w12 : St := outB (evalList cxB L12a (stP a b got best i op f))
theorem ew12 : ∃ ob, evalList cxB L12a (stP a b got best i op f) = some (w12 a b got best i op f, ob) ∧ ob.holds := fl_two (L := []) (by kernel_rfl) (by kernel_rfl) (by simp)
theorem w12a : (w12 a b got best i op f).nt = 83 := by kernel_rfl
theorem w12b : (w12 a b got best i op f).lo = 0 := by kernel_rfl
theorem w12c : (w12 a b got best i op f).next = 4 := by kernel_rfl
theorem w12d : ((enP i op f).map fun x => unlit ((w12 a b got best i op f).look x.1)) = (enP i op f).map (·.2) := by kernel_rfl
theorem w12e : ((hbP a b got best).map fun x => (w12 a b got best i op f).hp x.1) = (hbP a b got best).map (·.2) := by kernel_rfl
theorem w12f : eff Try.prog (opd (w12 a b got best i op f).look) oC12.op = some (.call 34 [(w12 a b got best i op f).look 36]) := by kernel_rfl
theorem w12g : nrmL [(w12 a b got best i op f).look 36] = some [eTn a] := by kernel_rfl
theorem oC12a : oC12.guard = none := by kernel_rfl
theorem oC12b : oC12.dst = some 37 := by kernel_rfl
theorem enP_n : ((enP i op f).all fun x => nltB 4 x.2) = true := by kernel_rfl
theorem hbP_n : ((hbP a b got best).all fun x => Nat.blt x.1 4 && match x.2 with | some B => nltB 4 B.v | none => true) = true := by kernel_rfl
/-- After the call. -/
def stM (D : SlD sU) : St := slSt D 4 37 (enP i op f) (hbP a b got best) 83 0
noncomputable def w13 : St := outB (evalList cxB L12b (stM a b got best i op f D))
theorem ew13 (hl : D.len < 2 ^ 63) : ∃ ob, evalList cxB L12b (stM a b got best i op f D) = some (w13 a b got best i op f D, ob) ∧ ob.holds := fl_two (L := [0 ≤ toZ .i64 (BitVec.ofNat 64 D.len)]) (by kernel_rfl) (by kernel_rfl) (fun p hp => by
  simp only [List.mem_singleton] at hp
  subst hp
  rw [toZ_nat (by rw [ofNat_toNat (by omega)]; exact hl)]; omega)
theorem w13a : (w13 a b got best i op f D).nt = 83 := by kernel_rfl
theorem w13b : (w13 a b got best i op f D).lo = 0 := by kernel_rfl
def enXD (i op : W) (f : Bool) (j : W) (D : SlD sU) : List (Nat × AV) := (37, D.at 4) :: enX i op f (BitVec.ofNat 64 D.len) j
def hbXD (a b got best : Tn) (D : SlD sU) : List (Nat × Option Blk) := (4, some D.blk) :: hbP a b got best
theorem w13c : ((enXD i op f 0#64 D).map fun x => unlit ((w13 a b got best i op f D).look x.1)) = (enXD i op f 0#64 D).map (·.2) := by kernel_rfl
theorem w13d : ((hbXD a b got best D).map fun x => (w13 a b got best i op f D).hp x.1) = (hbXD a b got best D).map (·.2) := by kernel_rfl
theorem enXD_n : ((enXD i op f j D).all fun x => nltB 5 x.2) = true := by kernel_rfl
theorem hbXD_n : ((hbXD a b got best D).all fun x => Nat.blt x.1 5 && match x.2 with | some B => nltB 5 B.v | none => true) = true := by kernel_rfl
/-! A round. -/
noncomputable def x13 : St := outB (evalList cxB L13 (stX a b got best i op f j D))
theorem ex13 : ∃ ob, evalList cxB L13 (stX a b got best i op f j D) = some (x13 a b got best i op f j D, ob) ∧ ob.holds := fl_two (L := []) (by kernel_rfl) (by kernel_rfl) (by simp)
theorem x13g : (x13 a b got best i op f j D).look 40 = .bool fun _ => ltB .i64 j (BitVec.ofNat 64 D.len) := by kernel_rfl
noncomputable def x14 : St := outB (evalList cxB L14 (x13 a b got best i op f j D))
theorem ex14 (hl : D.len < 2 ^ 62) (hj : j.toNat < D.len) : ∃ ob, evalList cxB L14 (x13 a b got best i op f j D) = some (x14 a b got best i op f j D, ob) ∧ ob.holds := fl_two (L := [0 ≤ toZ .i64 j ∧ toZ .i64 j < toZ .i64 (BitVec.ofNat 64 D.len), D.pre.length = D.pre.length, (toZ .i64 j).toNat < D.len]) (by kernel_rfl) (by kernel_rfl) (fun p hp => by
  have h1 : toZ .i64 j = j.toNat := toZ_nat (by omega)
  have h2 : toZ .i64 (BitVec.ofNat 64 D.len) = D.len := by rw [toZ_nat (by rw [ofNat_toNat (by omega)]; omega), ofNat_toNat (by omega)]
  simp only [List.mem_cons, List.not_mem_nil, or_false] at hp
  rcases hp with rfl | rfl | rfl
  · rw [h1, h2]; omega
  · trivial
  · rw [h1]; omega)
noncomputable def x15 : St := outB (evalList cxB L15a (x14 a b got best i op f j D))
theorem ex15 : ∃ ob, evalList cxB L15a (x14 a b got best i op f j D) = some (x15 a b got best i op f j D, ob) ∧ ob.holds := fl_two (L := []) (by kernel_rfl) (by kernel_rfl) (by simp)
def enY (i op : W) (f : Bool) (j x : W) (D : SlD sU) : List (Nat × AV) := (12, eW x) :: enXD i op f j D
theorem x15a : (x15 a b got best i op f j D).nt = 83 := by kernel_rfl
theorem x15b : (x15 a b got best i op f j D).lo = 0 := by kernel_rfl
theorem x15c : (x15 a b got best i op f j D).next = 5 := by kernel_rfl
theorem x15d : ((enY i op f j (elU D (ixN j)) D).map fun x => unlit ((x15 a b got best i op f j D).look x.1)) = (enY i op f j (elU D (ixN j)) D).map (·.2) := by kernel_rfl
theorem x15e : ((hbXD a b got best D).map fun x => (x15 a b got best i op f j D).hp x.1) = (hbXD a b got best D).map (·.2) := by kernel_rfl
theorem x15f : eff Try.prog (opd (x15 a b got best i op f j D).look) oC15.op = some (.call 34 [(x15 a b got best i op f j D).look 43]) := by kernel_rfl
theorem x15g : nrmL [(x15 a b got best i op f j D).look 43] = some [eTn b] := by kernel_rfl
theorem oC15a : oC15.guard = none := by kernel_rfl
theorem oC15b : oC15.dst = some 44 := by kernel_rfl
theorem enY_n (x : W) : ((enY i op f j x D).all fun x => nltB 5 x.2) = true := by kernel_rfl
variable (x : W) (D2 : SlD sU)
def stY : St := slSt D2 5 44 (enY i op f j x D) (hbXD a b got best D) 83 0
noncomputable def x16 : St := outB (evalList cxB L15b (stY a b got best i op f j D x D2))
theorem ex16 (hl : D2.len < 2 ^ 63) : ∃ ob, evalList cxB L15b (stY a b got best i op f j D x D2) = some (x16 a b got best i op f j D x D2, ob) ∧ ob.holds := fl_two (L := [0 ≤ toZ .i64 (BitVec.ofNat 64 D2.len)]) (by kernel_rfl) (by kernel_rfl) (fun p hp => by
  simp only [List.mem_singleton] at hp
  subst hp
  rw [toZ_nat (by rw [ofNat_toNat (by omega)]; exact hl)]; omega)
noncomputable def hkY (I : YI) : Hook := fun p => if p == [4] then some ((lpY I).hk (YS.T I)) else none
noncomputable def x17 : St := outC (evalCode cxB (hkY ⟨op, x, D2⟩) CY [] (x16 a b got best i op f j D x D2))
theorem ex17 (hl : D2.len < 2 ^ 62) : ∃ ob, evalCode cxB (hkY ⟨op, x, D2⟩) CY [] (x16 a b got best i op f j D x D2) = some (.norm (x17 a b got best i op f j D x D2), ob) ∧ ob.holds :=
  fl_two (L := [LoopGoal Try.prog (loopAt Try.prog 6 pY) (lpY ⟨op, x, D2⟩) (YS.T ⟨op, x, D2⟩) ⟨f, best, 0#64⟩ 6 83 0]) (by kernel_rfl) (by kernel_rfl) (fun p hp => by
    simp only [List.mem_singleton] at hp
    subst hp
    exact goalY _ _ ⟨hl, Nat.zero_le _⟩)
noncomputable def x23 : St := outB (evalList cxB L23 (x17 a b got best i op f j D x D2))
theorem ex23 : ∃ ob, evalList cxB L23 (x17 a b got best i op f j D x D2) = some (x23 a b got best i op f j D x D2, ob) ∧ ob.holds := fl_two (L := []) (by kernel_rfl) (by kernel_rfl) (by simp)
noncomputable def yEnd : YS := runN (YS.lt ⟨op, x, D2⟩) (YS.nxt ⟨op, x, D2⟩) D2.len ⟨f, best, 0#64⟩
theorem x23a : (x23 a b got best i op f j D x D2).nt = 83 := by kernel_rfl
theorem x23b : (x23 a b got best i op f j D x D2).lo = 0 := by kernel_rfl
theorem x23c : ((enXD i op (yEnd best op f x D2).first (j + 1#64) D).map fun z => unlit ((x23 a b got best i op f j D x D2).look z.1)) = (enXD i op (yEnd best op f x D2).first (j + 1#64) D).map (·.2) := by kernel_rfl
theorem x23d : ((hbXD a b got (yEnd best op f x D2).best D).map fun z => (x23 a b got best i op f j D x D2).hp z.1) = (hbXD a b got (yEnd best op f x D2).best D).map (·.2) := by kernel_rfl
/-! What is told of it. -/
noncomputable def r24 : St := outB (evalList cxB L24 (x13 a b got best i op f j D))
theorem er24 : ∃ ob, evalList cxB L24 (x13 a b got best i op f j D) = some (r24 a b got best i op f j D, ob) ∧ ob.holds := fl_two (L := []) (by kernel_rfl) (by kernel_rfl) (by simp)
noncomputable def r26 : St := outB (evalList cxB L26 (r24 a b got best i op f j D))
theorem er26 : ∃ ob, evalList cxB L26 (r24 a b got best i op f j D) = some (r26 a b got best i op f j D, ob) ∧ ob.holds := fl_two (L := []) (by kernel_rfl) (by kernel_rfl) (by simp)
theorem r26a : (r26 a b got best i op f j D).nt = 83 := by kernel_rfl
theorem r26b : (r26 a b got best i op f j D).lo = 0 := by kernel_rfl
theorem r26c : ((enO (i + 1#64)).map fun z => unlit ((r26 a b got best i op f j D).look z.1)) = (enO (i + 1#64)).map (·.2) := by kernel_rfl
theorem r26d : ((hbO a b).map fun z => (r26 a b got best i op f j D).hp z.1) = (hbO a b).map (·.2) := by kernel_rfl
theorem enO_n : ((enO i).all fun x => nltB 2 x.2) = true := by kernel_rfl
theorem hbO_n : ((hbO a b).all fun x => Nat.blt x.1 2 && match x.2 with | some B => nltB 2 B.v | none => true) = true := by kernel_rfl
noncomputable def telD : Bool := ((op != 2#64) && !(got.v == best.v && got.m == best.m)) || !inD best got
theorem r24g : (r24 a b got best i op f j D).look 81 = .bool fun _ => telD got best op := by kernel_rfl
end
end Go.Rf

/- Tnums: the law TnumBest walked. -/
namespace Go.Rf
open Go.Proofs

/-- Facts of a tnum that is narrow. -/
structure Nrw (t : Tn) : Prop where
  may : may t = true
  few : cntM t.m 64 ≤ 5
theorem nrw (t : Tn) : Nrw (narrD t 5#64) := by
  rw [narrow_run]
  exact ⟨narrow_may t, narrow_few t⟩
/-- What has come, up to the j-th of the one's. -/
def Came (op : W) (a b : Tn) (j : Nat) (n : W) : Prop := ∃ u v, u < j ∧ v < lenA b 64 ∧ n = aluV op true (elA a 64 u) (elA b 64 v)
theorem came_all {op : W} {a b : Tn} (ha : may a = true) (hb : may b = true) (n : W) : Came op a b (lenA a 64) n ↔ Out (aluV op true) a b n := by
  constructor
  · rintro ⟨u, v, h1, h2, h3⟩
    exact ⟨_, _, (all_mem ha _).1 ⟨u, h1, rfl⟩, (all_mem hb _).1 ⟨v, h2, rfl⟩, h3⟩
  · rintro ⟨x, y, h1, h2, h3⟩
    obtain ⟨u, u1, u2⟩ := (all_mem ha x).2 h1
    obtain ⟨v, v1, v2⟩ := (all_mem hb y).2 h2
    exact ⟨u, v, u1, v1, by rw [h3, ← u2, ← v2]⟩
theorem lenA_pos (t : Tn) (i : Nat) : 0 < lenA t i := by rw [lenA_pow]; exact Nat.two_pow_pos _
/-- Nothing is found wrong. -/
theorem tel_ok {a b best : Tn} {f : Bool} {j : Nat} (ha : may a = true) (hb : may b = true) (hj : j < 6) (hs : HS (Came (opsF j) a b (lenA a 64)) f best) : telD (doneT (opsF j) a b) best (opsF j) = false := by
  have hex : ∃ n, Came (opsF j) a b (lenA a 64) n := ⟨_, 0, 0, lenA_pos _ _, lenA_pos _ _, rfl⟩
  rcases hs with ⟨_, h⟩ | ⟨_, h⟩
  · obtain ⟨n, hn⟩ := hex
    exact absurd hn (h n)
  · have h' : HullT (Out (aluV (opsF j) true) a b) best := hull_cong h (came_all ha hb)
    have hin : inD best (doneT (opsF j) a b) = true := by
      rw [inD_eq]
      exact hull_isIn h' (fun n hn => sound_done j hj n hn)
    unfold telD
    rw [hin]
    by_cases h2 : j = 2
    · subst h2
      have : (opsF 2 != 2#64) = false := by decide
      rw [this]; rfl
    · have e : doneT (opsF j) a b = best := hull_uniq (best_done ha hb j hj h2) h'
      rw [e]
      simp

theorem toP' (a b got : Tn) (i op : W) (st : St) (B : Blk) (hnt : st.nt = 83) (hlo : st.lo = 0) (h1 : ((enP i op true).map fun x => unlit (st.look x.1)) = (enP i op true).map (·.2)) (h2 : ((hbQ a b got).map fun x => st.hp x.1) = (hbQ a b got).map (·.2)) (hB : st.hp 3 = some B) (hT : B.T = 24) (hf : fzOf B.v = fzOf (eTn nil)) (hc : ∀ E, cells E [] B.v = cells E [] (eTn nil))
    {ws : World} {a1 : Act} {w1 : World} (hs : SRel E0 ws st a1 w1) : SRel E0 ws (stP a b got nil i op true) a1 w1 := by
  have k1 : Kept st 4 (enP i op true) (hbQ a b got) := kept_of h1 h2 (enP_n i op true) (by kernel_rfl) (kept_lo hlo 4)
  have k2 := k1.toR
  have k3 : KeptR st 4 (enP i op true) (hbP a b got nil) := ⟨k2.ent, fun x hx => by
    simp only [hbP, List.mem_cons, List.not_mem_nil, or_false] at hx
    rcases hx with rfl | rfl | rfl | rfl
    · exact k2.blk _ (by simp [hbQ])
    · exact k2.blk _ (by simp [hbQ])
    · exact k2.blk _ (by simp [hbQ])
    · exact ⟨by show 3 < 4; omega, fun B' hB' => by cases hB'; exact ⟨nltB_nlt (by kernel_rfl), B, hB, hT, hf, fun E _ => ⟨ok_of_pf _ _ (cTn.pf nil), hc E⟩⟩⟩, by rw [hlo]; omega⟩
  have := k3.rel hs
  rw [hnt, hlo] at this
  exact this
theorem toP (a b : Tn) (i : W) {ws : World} {a1 : Act} {w1 : World} (hs : SRel E0 ws (o11 a b i) a1 w1) : SRel E0 ws (stP a b (doneT (opsF (ixN i)) a b) nil i (opsF (ixN i)) true) a1 w1 :=
  toP' a b _ i _ (o11 a b i) (bQ a b i) (o11a a b i) (o11b a b i) (o11c a b i) (o11d a b i) (o11e a b i) (o11f a b i) (o11g a b i) (o11h a b i) hs
theorem toO' (a b : Tn) (v : AV) (st : St) (hnt : st.nt = 83) (hlo : st.lo = 0) (h1 : ((enO' 0#64).map fun x => unlit (st.look x.1)) = (enO' 0#64).map (·.2)) (h2 : ((hbO a b).map fun x => st.hp x.1) = (hbO a b).map (·.2)) (h3 : st.look 23 = .arr 6 v) (h4 : cOps.dec (.arr 6 v) = some opsF)
    {ws : World} {a1 : Act} {w1 : World} (hs : SRel E0 ws st a1 w1) : SRel E0 ws (stO a b 0#64) a1 w1 :=
  norm_rel (kept_cons (x := (23, cOps.enc opsF)) (fun E y h => by
    have h' : TRel E (st.look 23) y := h
    rw [h3] at h'
    exact ⟨ok_of_pf _ _ (cOps.pf opsF), (cOps.val h4 E).symm.trans h'.2⟩) (by kernel_rfl) (kept_of h1 h2 (by kernel_rfl) (hbO_n a b) (kept_lo hlo 2))) hnt hlo hs
theorem toO (a b : Tn) {ws : World} {a1 : Act} {w1 : World} (hs : SRel E0 ws (u4 a b) a1 w1) : SRel E0 ws (stO (narrD a 5#64) (narrD b 5#64) 0#64) a1 w1 :=
  toO' _ _ (v23 a b) (u4 a b) (u4a a b) (u4b a b) (u4c a b) (u4d a b) (u4e a b) (u4f a b) hs

section
variable {a b : Tn} (ha : Nrw a) (hb : Nrw b)
include ha hb
/-- The middle loop. -/
theorem loopX (got best : Tn) (i op : W) {D : SlD sU} (hDl : D.len = lenA a 64) (hDe : ∀ k, k < lenA a 64 → D.els k = elA a 64 k) {ws : World} {Q : Exit → Act → World → Prop}
    (hQ : ∀ f best' a' w', HS (Came op a b (lenA a 64)) f best' → SRel E0 ws (x13 a b got best' i op f (BitVec.ofNat 64 (lenA a 64)) D) a' w' → Q (.exit 2) a' w')
    {a0 : Act} {w0 : World} (hs : SRel E0 ws (stX a b got best i op true 0#64 D) a0 w0) : (Code.loop rndX).wp Try.prog Q a0 w0 := by
  have hla := lenA_le ha.few (Nat.le_refl 64)
  have hlb := lenA_le hb.few (Nat.le_refl 64)
  refine wp_loop_ix (fun j a' w' => j ≤ lenA a 64 ∧ ∃ f best', HS (Came op a b j) f best' ∧ SRel E0 ws (stX a b got best' i op f (BitVec.ofNat 64 j) D) a' w') (fun j => lenA a 64 - j) ?_ 0 a0 w0
    ⟨Nat.zero_le _, true, best, .inl ⟨rfl, fun n hn => by obtain ⟨u, v, h, _⟩ := hn; omega⟩, hs⟩
  rintro j a1 w1 ⟨hj, f, best', hh, hs1⟩
  refine wp_seq (regB (ex13 a b got best' i op f _ D) hs1 fun a2 w2 hs2 => ?_)
  have hc := boolB (x13g a b got best' i op f (BitVec.ofNat 64 j) D) hs2
  rw [hDl, ltB_ofNat (by omega) (by omega)] at hc
  show (Code.seq (.cond (.tmp 40) .skip (.exit 2)) _).wp Try.prog _ a2 w2
  by_cases hlt : j < lenA a 64
  · refine wp_seq (wp_cond_true (by rw [hc, decide_eq_true hlt]) (wp_skip ?_))
    show (Code.seq (.block 3 (.seq (.region 14 L14.toArray false) (.seq (.region 15 L15.toArray false) CY))) (.region 23 L23.toArray false)).wp Try.prog _ a2 w2
    have hjn : (BitVec.ofNat 64 j : W).toNat = j := ofNat_toNat (by omega)
    refine wp_seq (wp_block (wp_seq (regB (ex14 a b got best' i op f _ D (by omega) (by rw [hjn]; omega)) hs2 fun a3 w3 hs3 => ?_)))
    show (Code.seq (.region 15 L15.toArray false) CY).wp Try.prog _ a3 w3
    refine wp_seq (list_region (by simpa using gL15) ?_)
    rw [List.toList_toArray, L15_eq]
    refine wpList_app _ (noGd_spec gL15a) _ _ ?_
    refine lstB gL15a (ex15 a b got best' i op f _ D) hs3 fun a4 w4 hs4 => ⟨rfl, ?_⟩
    have hk : Kept (x15 a b got best' i op f (BitVec.ofNat 64 j) D) (x15 a b got best' i op f (BitVec.ofNat 64 j) D).next (enY i op f (BitVec.ofNat 64 j) (elU D (ixN (BitVec.ofNat 64 j))) D) (hbXD a b got best' D) := by
      rw [x15c]
      exact kept_of (x15d a b got best' i op f _ D) (x15e a b got best' i op f _ D) (enY_n i op f _ D _) (hbXD_n a b got best' D) (kept_lo (x15b a b got best' i op f _ D) 5)
    refine step_makes (P := Try.prog) hs4 oC15a (x15f a b got best' i op f _ D) (x15g a b got best' i op f _ D) (all_makes b hb.few) oC15b (by rw [x15a]; omega)
      hk (flatU.good _) ?_
    intro D2 a5 w5 d1 d2 d3 hs5
    rw [x15a, x15b, x15c] at hs5
    have hl2 : D2.len < 2 ^ 62 := by omega
    refine lstB gL15b (ex16 a b got best' i op f _ D _ D2 (by omega)) hs5 fun a6 w6 hs6 => ?_
    show CY.wp Try.prog _ a6 w6
    refine codeB (ex17 a b got best' i op f _ D _ D2 hl2) hs6 fun a7 w7 hs7 => ?_
    show (Code.region 23 L23.toArray false).wp Try.prog _ a7 w7
    refine regB (ex23 a b got best' i op f _ D _ D2) hs7 fun a8 w8 hs8 => ?_
    have hs9 := norm_rel (kept_of (x23c a b got best' i op f (BitVec.ofNat 64 j) D (elU D (ixN (BitVec.ofNat 64 j))) D2) (x23d a b got best' i op f (BitVec.ofNat 64 j) D (elU D (ixN (BitVec.ofNat 64 j))) D2) (enXD_n _ _ _ _ _) (hbXD_n _ _ _ _ _) (kept_lo (x23b a b got best' i op f (BitVec.ofNat 64 j) D (elU D (ixN (BitVec.ofNat 64 j))) D2) 5)) (x23a a b got best' i op f (BitVec.ofNat 64 j) D (elU D (ixN (BitVec.ofNat 64 j))) D2) (x23b a b got best' i op f (BitVec.ofNat 64 j) D (elU D (ixN (BitVec.ofNat 64 j))) D2) hs8
    rw [ofNat_succ] at hs9
    have ex : elU D (ixN (BitVec.ofNat 64 j)) = elA a 64 j := by rw [ixN_ofNat (by omega)]; exact hDe j hlt
    have hy : HS (Came op a b (j + 1)) (yEnd best' op f (elU D (ixN (BitVec.ofNat 64 j))) D2).first (yEnd best' op f (elU D (ixN (BitVec.ofNat 64 j))) D2).best := by
      unfold yEnd
      rw [yRun ⟨op, elU D (ixN (BitVec.ofNat 64 j)), D2⟩ f best' hl2]
      have := ySeq_hs (I := ⟨op, elU D (ixN (BitVec.ofNat 64 j)), D2⟩) hh D2.len (by omega)
      have e : (fun n => Came op a b j n ∨ ∃ k, k < D2.len ∧ n = aluV op true (elU D (ixN (BitVec.ofNat 64 j))) (elU D2 k)) = Came op a b (j + 1) := by
        funext n
        apply propext
        rw [ex]
        constructor
        · rintro (⟨u, v, h1, h2, h3⟩ | ⟨k, h1, h2⟩)
          · exact ⟨u, v, by omega, h2, h3⟩
          · exact ⟨j, k, by omega, by omega, by rw [h2]; unfold elU; rw [d3 k (by omega)]⟩
        · rintro ⟨u, v, h1, h2, h3⟩
          by_cases e : u = j
          · subst e
            exact .inr ⟨v, by omega, by rw [h3]; unfold elU; rw [d3 v h2]⟩
          · exact .inl ⟨u, v, by omega, h2, h3⟩
      exact e ▸ this
    exact ⟨j + 1, ⟨by omega, _, _, hy, hs9⟩, by omega⟩
  · refine wp_seq (wp_cond_false (by rw [hc, decide_eq_false hlt]) ?_)
    obtain rfl : j = lenA a 64 := by omega
    exact wp_exit (hQ f best' a2 w2 hh hs2)
/-- What a round of the outer loop does. -/
theorem bodO (j : Nat) (hj : j < 6) {ws : World} {Q : Exit → Act → World → Prop} (hQ : ∀ a' w', SRel E0 ws (stO a b (BitVec.ofNat 64 (j + 1))) a' w' → Q .normal a' w')
    {a5 : Act} {w5 : World} (hs5 : SRel E0 ws (o5 a b (BitVec.ofNat 64 j)) a5 w5) : (Code.seq (.block 1 bodOp) (.region 26 L26.toArray false)).wp Try.prog Q a5 w5 := by
  have hla := lenA_le ha.few (Nat.le_refl 64)
  have hx : ixN (BitVec.ofNat 64 j) = j := ixN_ofNat (by omega)
  have hjn : (BitVec.ofNat 64 j : W).toNat = j := ofNat_toNat (by omega)
  refine wp_seq (wp_block (wp_seq (regB (eo6 a b _ (by rw [hjn]; exact hj)) hs5 fun a6 w6 hs6 => ?_)))
  show (Code.seq (.region 7 L7.toArray false) _).wp Try.prog _ a6 w6
  refine wp_seq (regB (eo7 a b _) hs6 fun a7 w7 hs7 => ?_)
  show (Code.seq (.seq (.region 8 L8.toArray false) _) _).wp Try.prog _ a7 w7
  refine wp_seq (wp_seq (regB (eo8 a b _) hs7 fun a8 w8 hs8 => ?_))
  have hc := boolB (o8g a b (BitVec.ofNat 64 j)) hs8
  have hne : (doneE (opsF (ixN (BitVec.ofNat 64 j))) a b != 0#64) = false := by
    rw [done_err]
    unfold errB
    rw [bad2_false ha.may hb.may]; rfl
  rw [hne] at hc
  refine wp_cond_false hc (wp_skip ?_)
  show (Code.seq (.region 10 L10.toArray false) _).wp Try.prog _ a8 w8
  refine wp_seq (regB (eo10 a b _) hs8 fun a9 w9 hs9 => ?_)
  show (Code.seq (.region 11 L11.toArray false) _).wp Try.prog _ a9 w9
  refine wp_seq (regB (eo11 a b _) hs9 fun aa wa hsa => ?_)
  have hsP := toP a b (BitVec.ofNat 64 j) hsa
  rw [hx] at hsP
  show (Code.seq (.seq (.region 12 L12.toArray false) (.block 2 (.loop rndX))) _).wp Try.prog _ aa wa
  refine wp_seq (wp_seq (list_region (by simpa using gL12) ?_))
  rw [List.toList_toArray, L12_eq]
  refine wpList_app _ (noGd_spec gL12a) _ _ ?_
  refine lstB gL12a (ew12 a b _ _ _ _ _) hsP fun ab wb hsb => ⟨rfl, ?_⟩
  have hk : Kept (w12 a b (doneT (opsF j) a b) nil (BitVec.ofNat 64 j) (opsF j) true) (w12 a b (doneT (opsF j) a b) nil (BitVec.ofNat 64 j) (opsF j) true).next (enP (BitVec.ofNat 64 j) (opsF j) true) (hbP a b (doneT (opsF j) a b) nil) := by
    rw [w12c]
    exact kept_of (w12d a b _ _ _ _ _) (w12e a b _ _ _ _ _) (enP_n _ _ _) (hbP_n a b _ _) (kept_lo (w12b a b _ _ _ _ _) 4)
  refine step_makes (P := Try.prog) hsb oC12a (w12f a b _ _ _ _ _) (w12g a b _ _ _ _ _) (all_makes a ha.few) oC12b (by rw [w12a]; omega) hk (flatU.good _) ?_
  intro D ac wc d1 d2 d3 hsc
  rw [w12a, w12b, w12c] at hsc
  refine lstB gL12b (ew13 a b _ _ _ _ _ D (by omega)) hsc fun ad wd hsd => ?_
  have hsX := norm_rel (kept_of (w13c a b (doneT (opsF j) a b) nil (BitVec.ofNat 64 j) (opsF j) true D) (w13d a b (doneT (opsF j) a b) nil (BitVec.ofNat 64 j) (opsF j) true D) (enXD_n _ _ _ _ _) (hbXD_n _ _ _ _ _) (kept_lo (w13b a b (doneT (opsF j) a b) nil (BitVec.ofNat 64 j) (opsF j) true D) 5)) (w13a a b (doneT (opsF j) a b) nil (BitVec.ofNat 64 j) (opsF j) true D) (w13b a b (doneT (opsF j) a b) nil (BitVec.ofNat 64 j) (opsF j) true D) hsd
  show (Code.block 2 (.loop rndX)).wp Try.prog _ ad wd
  refine wp_block (loopX ha hb (doneT (opsF j) a b) nil (BitVec.ofNat 64 j) (opsF j) d2 d3 ?_ hsX)
  intro f best' ae we hh hse
  show (Code.seq (.region 24 L24.toArray false) (.cond (.tmp 81) (.seq (.region 25 L25.toArray false) .ret) .skip)).wp Try.prog _ ae we
  refine wp_seq (regB (er24 a b _ _ _ _ _ _ D) hse fun af wf hsf => ?_)
  have hc2 := boolB (r24g a b (doneT (opsF j) a b) best' (BitVec.ofNat 64 j) (opsF j) f (BitVec.ofNat 64 (lenA a 64)) D) hsf
  rw [tel_ok ha.may hb.may hj hh] at hc2
  refine wp_cond_false hc2 (wp_skip ?_)
  show (Code.region 26 L26.toArray false).wp Try.prog _ af wf
  refine regB (er26 a b _ _ _ _ _ _ D) hsf fun ag wg hsg => ?_
  have hsO := norm_rel (kept_of (r26c a b (doneT (opsF j) a b) best' (BitVec.ofNat 64 j) (opsF j) f (BitVec.ofNat 64 (lenA a 64)) D) (r26d a b (doneT (opsF j) a b) best' (BitVec.ofNat 64 j) (opsF j) f (BitVec.ofNat 64 (lenA a 64)) D) (enO_n _) (hbO_n _ _) (kept_lo (r26b a b (doneT (opsF j) a b) best' (BitVec.ofNat 64 j) (opsF j) f (BitVec.ofNat 64 (lenA a 64)) D) 2)) (r26a a b (doneT (opsF j) a b) best' (BitVec.ofNat 64 j) (opsF j) f (BitVec.ofNat 64 (lenA a 64)) D) (r26b a b (doneT (opsF j) a b) best' (BitVec.ofNat 64 j) (opsF j) f (BitVec.ofNat 64 (lenA a 64)) D) hsg
  rw [ofNat_succ] at hsO
  exact hQ ag wg hsO
/-- The outer loop. -/
theorem loopO {ws : World} {Q : Exit → Act → World → Prop} (hQ : ∀ a' w', SRel E0 ws (o5 a b (BitVec.ofNat 64 6)) a' w' → Q (.exit 0) a' w')
    {a0 : Act} {w0 : World} (hs : SRel E0 ws (stO a b 0#64) a0 w0) : (Code.loop rndO).wp Try.prog Q a0 w0 := by
  refine wp_loop_ix (fun j a' w' => j ≤ 6 ∧ SRel E0 ws (stO a b (BitVec.ofNat 64 j)) a' w') (fun j => 6 - j) ?_ 0 a0 w0 ⟨Nat.zero_le _, hs⟩
  rintro j a1 w1 ⟨hj, hs1⟩
  refine wp_seq (regB (eo5 a b _) hs1 fun a2 w2 hs2 => ?_)
  have hc := boolB (o5g a b (BitVec.ofNat 64 j)) hs2
  rw [show (6#64 : W) = BitVec.ofNat 64 6 from rfl, ltB_ofNat (by omega) (by omega)] at hc
  show (Code.seq (.cond (.tmp 25) .skip (.exit 0)) _).wp Try.prog _ a2 w2
  by_cases hlt : j < 6
  · refine wp_seq (wp_cond_true (by rw [hc, decide_eq_true hlt]) (wp_skip ?_))
    refine bodO ha hb j hlt (fun a3 w3 hs3 => ?_) hs2
    exact ⟨j + 1, ⟨by omega, hs3⟩, by omega⟩
  · refine wp_seq (wp_cond_false (by rw [hc, decide_eq_false hlt]) ?_)
    obtain rfl : j = 6 := by omega
    exact wp_exit (hQ a2 w2 hs2)
end
noncomputable def oE (a b : Tn) : St := outB (evalList cxB L27 (o5 a b (BitVec.ofNat 64 6)))
theorem eoE (a b : Tn) : ∃ ob, evalList cxB L27 (o5 a b (BitVec.ofNat 64 6)) = some (oE a b, ob) ∧ ob.holds := fl_two (L := []) (by kernel_rfl) (by kernel_rfl) (by simp)
theorem eoR (a b : Tn) : ∃ ob, evalK cxB (fun _ => none) Try.f6 .ret [] (oE a b) = some (eB true, ob) ∧ ob.holds := fl_two (L := []) (by kernel_rfl) (by kernel_rfl) (by simp)
theorem oEr (a b : Tn) : (oE a b).hrest = fun _ => none := by kernel_rfl
theorem calls6 (a b : Tn) (w : World) : Calls Try.prog 6 ([eTn a, eTn b].map (val E0)).toArray w fun e w' => e = .returned (.bool true) ∧ RowKit.Below w.heap.size w w' := by
  refine calls_of_wp Try.func6 body6 ?_
  have hnt : Try.f6.ntmps = 83 := by kernel_rfl
  have hs0 := enter_rel (P := Try.prog) (fn := Try.f6) (args := [eTn a, eTn b]) (by rw [hnt]; show 2 ≤ 83; omega) (fun v hv => by
    simp only [List.mem_cons, List.not_mem_nil, or_false] at hv
    rcases hv with rfl | rfl
    · exact cTn.pf a
    · exact cTn.pf b) w
  rw [hnt] at hs0
  refine wp_seq (regB (eu1 a b) hs0 fun a1 w1 hs1 => ?_)
  show (Code.seq (.seq (.region 1 L1.toArray false) _) _).wp Try.prog _ a1 w1
  refine wp_seq (wp_seq (regB (eu2 a b) hs1 fun a2 w2 hs2 => ?_))
  refine wp_cond_false (boolB (u2g a b) hs2) (wp_skip ?_)
  show (Code.seq L3 _).wp Try.prog _ a2 w2
  refine wp_seq (codeB (eu3 a b) hs2 fun a3 w3 hs3 => ?_)
  show (Code.seq (.seq (.region 4 L4.toArray false) (.block 0 (.loop rndO))) _).wp Try.prog _ a3 w3
  refine wp_seq (wp_seq (regB (eu4 a b) hs3 fun a4 w4 hs4 => ?_))
  have hsO := toO a b hs4
  refine wp_block (loopO (nrw a) (nrw b) (fun a5 w5 hs5 => ?_) hsO)
  show (Code.seq (.region 27 L27.toArray false) .ret).wp Try.prog _ a5 w5
  refine wp_seq (regB (eoE _ _) hs5 fun a6 w6 hs6 => ?_)
  obtain ⟨ob, k1, k2⟩ := eoR (narrD a 5#64) (narrD b 5#64)
  exact evalK_run (cx := cxB) gB1 hIB k1 k2 (oEr _ _) hs6
end Go.Rf
