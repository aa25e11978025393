/- Several texts as one: Sh1 Sh2 Sh3 Sh4 Sh5 Sh6. -/
import Derived.Test.YtigiedlngfkfbaaSf5
set_option linter.unusedVariables false
set_option linter.unusedSimpArgs false
set_option maxRecDepth 100000

/- Scalars: the operations on tnums and spans. -/
namespace Go.Rf
open Go.Proofs

theorem k93 : ConOk Try.prog 93 (con2 T.cTn T.cTn fun a b => T.resTE (T.bad2 a b) (T.tAdd a b)) := con2_ok rsf3 (Λ := noHooks) 3 (fun _ _ => rfl) (fun x y => Ev.of (by kernel_rfl))
theorem k94 : ConOk Try.prog 94 (con2 T.cTn T.cTn fun a b => T.resTE (T.bad2 a b) (T.tSub a b)) := con2_ok rsf3 (Λ := noHooks) 3 (fun _ _ => rfl) (fun x y => Ev.of (by kernel_rfl))
theorem k96 : ConOk Try.prog 96 (con2 T.cTn T.cTn fun a b => T.resTE (T.bad2 a b) (T.tOr a b)) := con2_ok rsf3 (Λ := noHooks) 3 (fun _ _ => rfl) (fun x y => Ev.of (by kernel_rfl))
theorem k98 : ConOk Try.prog 98 (con2 T.cTn T.cTn fun a b => T.resTE (T.bad2 a b) (T.tXor a b)) := con2_ok rsf3 (Λ := noHooks) 3 (fun _ _ => rfl) (fun x y => Ev.of (by kernel_rfl))
theorem k99 : ConOk Try.prog 99 (con2 T.cTn cI fun a n => T.resTE (T.badSh a n) (T.tLsh a n)) := con2_ok rsf3 (Λ := noHooks) 3 (fun _ _ => rfl) (fun x y => Ev.of (by kernel_rfl))
theorem k100 : ConOk Try.prog 100 (con2 T.cTn cI fun a n => T.resTE (T.badSh a n) (T.tRsh a n)) := con2_ok rsf3 (Λ := noHooks) 3 (fun _ _ => rfl) (fun x y => Ev.of (by kernel_rfl))
theorem k101 : ConOk Try.prog 101 (con3 T.cTn cI cI fun a n s => T.resTE (T.badArsh a n s) (T.tArsh a n s)) := con3_ok rsf3 (Λ := noHooks) 3 (fun _ _ _ => rfl) (fun x y z => Ev.of (by kernel_rfl))
theorem k79 : ConOk Try.prog 79 (con2 T.cTn cI fun a n => pair (T.eTn (T.tCut a n)) (eI (T.eCut a n))) := con2_ok rsf3 (Λ := noHooks) 3 (fun _ _ => rfl) (fun x y => Ev.of (by kernel_rfl))
theorem k81 : ConOk Try.prog 81 (con3 cSp cSp cW fun a b t => eSp (sumS a b t)) := con3_ok rsf3 (Λ := noHooks) 3 (fun _ _ _ => rfl) (fun a b t => Ev.of (by kernel_rfl))
theorem k82 : ConOk Try.prog 82 (con3 cSp cSp cW fun a b t => eSp (lessS a b t)) := con3_ok rsf3 (Λ := noHooks) 3 (fun _ _ _ => rfl) (fun a b t => Ev.of (by kernel_rfl))
theorem k84 : ConOk Try.prog 84 (con2 cSp cSp fun a b => eSp (partsS a b)) :=
  con2_ok rsf3 (Λ := noHooks) 3 (fun _ _ => rfl) (fun a b => Ev.fg (L := [([!(b.lo == 0#64), !(b.hi == 0#64)], b.hi ≠ 0#64), ([!(b.lo == 0#64), !(b.hi == 0#64)], b.lo ≠ 0#64)]) (by kernel_rfl) (by
    intro e he hg
    simp only [List.mem_cons, List.not_mem_nil, or_false] at he
    rcases he with rfl | rfl
    · have := hg _ (List.mem_cons_of_mem _ (List.mem_cons_self ..)); simpa using this
    · have := hg _ (List.mem_cons_self ..); simpa using this))
theorem k89 : ConOk Try.prog 89 (con2 cSp cSp fun a b => eSp (restS a b)) :=
  con2_ok rsf3 (Λ := noHooks) 3 (fun _ _ => rfl) (fun a b => Ev.fg (L := [([b.lo == b.hi, !(restC1 a b)], b.lo ≠ 0#64), ([b.lo == b.hi, !(restC1 a b)], b.lo ≠ 0#64), ([restC2 a b, !(restC1 a b)], b.lo ≠ 0#64), ([restC2 a b, !(restC1 a b)], b.lo ≠ 0#64)]) (by kernel_rfl) (by
    intro e he hg
    simp only [List.mem_cons, List.not_mem_nil, or_false] at he
    rcases he with rfl | rfl | rfl | rfl
    · exact rest_n0 (hg _ (List.mem_cons_of_mem _ (List.mem_cons_self ..))) (by have := hg _ (List.mem_cons_self ..); simpa using this)
    · exact rest_n0 (hg _ (List.mem_cons_of_mem _ (List.mem_cons_self ..))) (by have := hg _ (List.mem_cons_self ..); simpa using this)
    · exact rest_n0 (hg _ (List.mem_cons_of_mem _ (List.mem_cons_self ..))) (by have := hg _ (List.mem_cons_self ..); simp [restC2] at this; exact this.1)
    · exact rest_n0 (hg _ (List.mem_cons_of_mem _ (List.mem_cons_self ..))) (by have := hg _ (List.mem_cons_self ..); simp [restC2] at this; exact this.1)))
theorem k83 : ConOk Try.prog 83 (con2 cW cW fun x y => pair (eW (mulHi x y)) (eW (x * y))) := con2_ok rsf3 (Λ := noHooks) 3 (fun _ _ => rfl) (fun a b => Ev.of (by kernel_rfl))
noncomputable def th1 : List (FuncId × Con) :=
  (93, con2 T.cTn T.cTn fun a b => T.resTE (T.bad2 a b) (T.tAdd a b)) ::
  (94, con2 T.cTn T.cTn fun a b => T.resTE (T.bad2 a b) (T.tSub a b)) ::
  (96, con2 T.cTn T.cTn fun a b => T.resTE (T.bad2 a b) (T.tOr a b)) ::
  (98, con2 T.cTn T.cTn fun a b => T.resTE (T.bad2 a b) (T.tXor a b)) ::
  (99, con2 T.cTn cI fun a n => T.resTE (T.badSh a n) (T.tLsh a n)) ::
  (100, con2 T.cTn cI fun a n => T.resTE (T.badSh a n) (T.tRsh a n)) ::
  (101, con3 T.cTn cI cI fun a n s => T.resTE (T.badArsh a n s) (T.tArsh a n s)) ::
  (79, con2 T.cTn cI fun a n => pair (T.eTn (T.tCut a n)) (eI (T.eCut a n))) ::
  (81, con3 cSp cSp cW fun a b t => eSp (sumS a b t)) ::
  (82, con3 cSp cSp cW fun a b t => eSp (lessS a b t)) ::
  (84, con2 cSp cSp fun a b => eSp (partsS a b)) ::
  (89, con2 cSp cSp fun a b => eSp (restS a b)) ::
  (83, con2 cW cW fun x y => pair (eW (mulHi x y)) (eW (x * y))) :: sf3
theorem rth1 : TabOk Try.prog (tabOf th1) := tabOf_cons (tabOf_cons (tabOf_cons (tabOf_cons (tabOf_cons (tabOf_cons (tabOf_cons (tabOf_cons (tabOf_cons (tabOf_cons (tabOf_cons (tabOf_cons (tabOf_cons rsf3 k83) k89) k84) k82) k81) k79) k101) k100) k99) k98) k96) k94) k93
theorem k54 : ConOk Try.prog 54 (con4 cI cB cSp cSp fun op w a b => resSE (aluBad op a b) (aluS op w a b)) :=
  con4_ok rth1 (Λ := noHooks) 6 (fun _ _ _ _ => rfl) (fun op w a b => Ev.fl (g := !(aluBad op a b)) (L := obsN (cutS b 32#64) 32#64 ++ obsN b 64#64) (by kernel_rfl) (fun _ p hp => by
    rw [List.mem_append] at hp
    rcases hp with hp | hp
    · exact obsN_hold _ _ (.inl rfl) p hp
    · exact obsN_hold _ _ (.inr rfl) p hp))
end Go.Rf

/- Scalars: products of tnums. -/
namespace Go.Rf
open Go.Proofs
noncomputable def th2 : List (FuncId × Con) := (54, con4 cI cB cSp cSp fun op w a b => resSE (aluBad op a b) (aluS op w a b)) :: th1
theorem rth2 : TabOk Try.prog (tabOf th2) := tabOf_cons rth1 k54
noncomputable def lpMu : Lp T.MulS where
  keys := [0, 1, 3]
  names := [0, 1, 7]
  scr := wrAt Try.prog 122 [1, 1, 0, 4]
  vals s := [.ptr 0 [], .ptr 1 [], .ptr 7 []]
  blks s := [⟨24, T.eTn s.a⟩, ⟨24, T.eTn s.b⟩, ⟨24, T.eTn s.s⟩]
  dec _ bs := match bs with
    | [⟨_, x⟩, ⟨_, y⟩, ⟨_, z⟩] => match T.cTn.dec x, T.cTn.dec y, T.cTn.dec z with
      | some a, some b, some c => some ⟨a, b, c⟩
      | _, _, _ => none
    | _ => none
theorem mulGoal' (a b : Tn) : LoopGoal Try.prog (loopAt Try.prog 122 [1, 1, 0, 4]) lpMu T.mulT ⟨a, b, ⟨0#64, 0#64⟩⟩ 8 50 6 := by
  refine lp_rule (cx := ⟨Try.prog, tabOf th2, inlF Try.prog (tabOf th2) noHooks 2⟩) rth2 (inlF_ok rth2 2) (Λ := fun _ => none) (p := []) lpMu (fun _ => True) T.MulS.size T.MulS.step T.mulT 8 50 6 (fun _ => ⟨rfl, rfl⟩) ?_ ?_ _ trivial
  · intro s r h _
    exact ⟨.tt, by kernel_rfl, trivial⟩
  · intro s _
    unfold T.MulS.step
    cases hg : s.go with
    | false =>
      simp only [Rd.sel, Bool.false_eq_true, if_false, Good, T.mulT]
      rw [T.MulS.fin, hg]; rfl
    | true =>
      have hsz := (T.MulS.go_size s).1 hg
      have key : ∀ s', s' = s.next → Good (fun _ => True) T.MulS.size T.mulT s (.norm s') := by
        intro s' e
        subst e
        refine ⟨trivial, ?_, ?_⟩
        · rw [T.MulS.size_next]; omega
        · simp only [T.mulT, Rd.sel, T.MulS.fin_next s hg]
      cases ha : s.any with
      | true =>
        simp only [Rd.sel, if_true]
        exact key _ (by simp only [T.MulS.next, ha, cond_true])
      | false =>
        cases hz : s.zero with
        | true =>
          simp only [Rd.sel, if_true, Bool.false_eq_true, if_false]
          exact key _ (by simp only [T.MulS.next, ha, hz, cond_true, cond_false])
        | false =>
          simp only [Rd.sel, if_true, Bool.false_eq_true, if_false]
          exact key _ (by simp only [T.MulS.next, ha, hz, cond_true, cond_false])
noncomputable def hMu : FuncId → Hook := fun f p => if f == 122 && p == [1, 1, 0, 4] then some (lpMu.hk T.mulT) else none
theorem k95 : ConOk Try.prog 95 (con2 T.cTn T.cTn fun a b => T.resTE (T.bad2 a b) (T.tMul a b)) :=
  con2_ok rth2 (Λ := hMu) 5 (fun _ _ => rfl) (fun x y => Ev.ob (ob := .imp (T.bad2 x y) false (.pr (LoopGoal Try.prog (loopAt Try.prog 122 [1, 1, 0, 4]) lpMu T.mulT ⟨x, y, ⟨0#64, 0#64⟩⟩ 8 50 6))) (by kernel_rfl) (fun _ => mulGoal' x y))
noncomputable def th3 : List (FuncId × Con) := (95, con2 T.cTn T.cTn fun a b => T.resTE (T.bad2 a b) (T.tMul a b)) :: th2
theorem rth3 : TabOk Try.prog (tabOf th3) := tabOf_cons rth2 k95
end Go.Rf

/- Scalars: what an operation makes of the bits. -/
namespace Go.Rf
open Go.Proofs
theorem con4c_at {P : Program} {f : FuncId} {α β γ δ : Type} {p : α → β → Bool} {ca : Cod α} {cb : Cod β} {cc : Cod γ} {cd : Cod δ} {g : α → β → γ → δ → AV} (hg : ∀ x y z t, pfT (g x y z t) = true)
    (h : ∀ x y z t, p x y = true → EvAt P f [val E0 (ca.enc x), val E0 (cb.enc y), val E0 (cc.enc z), val E0 (cd.enc t)] (g x y z t)) : ConOk P f (con4c p ca cb cc cd g) := by
  intro args r ob hK hob ha
  unfold con4c at hK
  split at hK <;> try (simp at hK; done)
  split at hK <;> try (simp at hK; done)
  split at hK <;> simp at hK
  rename_i a b c d x y z t e1 e2 e3 e4 hp
  obtain ⟨rfl, rfl⟩ := hK
  refine ⟨hg _ _ _ _, fun w => ?_⟩
  obtain ⟨Γ, Λ, n, l, hΓ, hl, hm, hev⟩ := h x y z t hp
  have := hev.calls hΓ hl w
  rw [hm] at this
  simp only [List.map_cons, List.map_nil, ca.val e1, cb.val e2, cc.val e3, cd.val e4]
  exact this
noncomputable def tnA (c : Tn → Tn) (bad : Bool) (t : Tn) : Tn := T.Tn.mux ((bif bad then 1#64 else 0#64) != 0#64) allTn (c (T.Tn.mux bad T.nil t))
def byB (sz : W) (b : Sc) : W := convB .u64 .i64 (remB .u64 b.s.lo sz)
noncomputable def shX (c : Tn → Tn) (sz op : W) (a b : Sc) : Tn := T.Tn.mux (!single b) (c allTn) (T.Tn.mux (op == 6#64) (tnA c (T.badSh a.t (byB sz b)) (T.tLsh a.t (byB sz b))) (T.Tn.mux (op == 7#64) (tnA c (T.badSh a.t (byB sz b)) (T.tRsh a.t (byB sz b)))
  (tnA c (T.badArsh a.t (byB sz b) sz) (T.tArsh a.t (byB sz b) sz))))
noncomputable def bitsG (c : Tn → Tn) (sz op : W) (a b : Sc) : Tn :=
  T.Tn.mux (op == 0#64) (tnA c (T.bad2 a.t b.t) (T.tAdd a.t b.t)) (T.Tn.mux (op == 1#64) (tnA c (T.bad2 a.t b.t) (T.tSub a.t b.t)) (T.Tn.mux (op == 2#64) (tnA c (T.bad2 a.t b.t) (T.tMul a.t b.t)) (T.Tn.mux (op == 4#64) (tnA c (T.bad2 a.t b.t) (T.tOr a.t b.t))
  (T.Tn.mux (op == 5#64) (tnA c (T.bad2 a.t b.t) (T.tAnd a.t b.t)) (T.Tn.mux (op == 10#64) (tnA c (T.bad2 a.t b.t) (T.tXor a.t b.t)) (T.Tn.mux (op == 8#64) (tnA c (T.bad2 ⟨0#64, 0#64⟩ a.t) (T.tSub ⟨0#64, 0#64⟩ a.t)) (T.Tn.mux (op == 11#64) (c b.t)
  (T.Tn.mux (op == 6#64) (T.Tn.mux (op == 6#64) (shX c sz op a b) (c allTn)) (T.Tn.mux (op == 7#64) (T.Tn.mux (op == 7#64) (shX c sz op a b) (c allTn)) (T.Tn.mux (op == 12#64) (shX c sz op a b) (c allTn)))))))))))
def cutT32 (t : Tn) : Tn := T.tCut t 32#64
def isSz (_ z : W) : Bool := z == 64#64 || z == 32#64
noncomputable def bitsP (op z : W) (a b : Sc) : Tn := bif z == 64#64 then bitsG (fun t => t) 64#64 op a b else bitsG cutT32 32#64 op a b
theorem k55g : ConOk Try.prog 55 (con4c isSz cI cI cSc cSc fun op z a b => T.eTn (bitsP op z a b)) :=
  con4c_at (fun _ _ _ _ => rfl) (fun op z a b h => by
    have h' : z = 64#64 ∨ z = 32#64 := by simpa [isSz] using h
    rcases h' with rfl | rfl
    · exact evAt (Γ := tabOf th3) (Λ := noHooks) (n := 6) (l := [eI op, .lit .i64 64, eSc a, eSc b]) rth3 (by kernel_rfl) (by kernel_rfl) (Ev.of (by kernel_rfl))
    · exact evAt (Γ := tabOf th3) (Λ := noHooks) (n := 6) (l := [eI op, .lit .i64 32, eSc a, eSc b]) rth3 (by kernel_rfl) (by kernel_rfl) (Ev.of (by kernel_rfl)))
noncomputable def halfC (a : Sc) : Sc := Sc.mux (ltB .u64 a.s.hi 4294967296#64) a (setR (cutT32 a.t) (belowC 32#64).s)
theorem k53 : ConOk Try.prog 53 (con1 cSc fun a => eSc (halfC a)) := con1_ok rth3 (Λ := noHooks) 6 (fun _ => rfl) (fun a => Ev.of (by kernel_rfl))
noncomputable def th4 : List (FuncId × Con) := (55, con4c isSz cI cI cSc cSc fun op z a b => T.eTn (bitsP op z a b)) :: (53, con1 cSc fun a => eSc (halfC a)) :: th3
theorem rth4 : TabOk Try.prog (tabOf th4) := tabOf_cons (tabOf_cons rth3 k53) k55g
end Go.Rf

/- Scalars: the contract of Alu. -/
namespace Go.Rf
open Go.Proofs
noncomputable def spanOf (op : W) (w : Bool) (a b : Sc) : Sp := Sp.mux (aluBad op a.s b.s) nilS (aluS op w a.s b.s)
noncomputable def aluT (z op : W) (w : Bool) (a b all : Sc) : Sc := Sc.mux (setOk (bitsP op z a b) (spanOf op w a b)) (setR (bitsP op z a b) (spanOf op w a b)) all
def badOp (op : W) : Bool := ltB .i64 op 0#64 || ltB .i64 12#64 op
noncomputable def aluSc (op : W) (w : Bool) (a b : Sc) : Sc := Sc.mux (!mayC a || !mayC b) nilC (Sc.mux (badOp op) nilC (Sc.mux (!w) (aluT 32#64 op w (halfC a) (halfC b) (belowC 32#64)) (aluT 64#64 op w a b allC)))
noncomputable def aluScE (op : W) (a b : Sc) : W := bif !mayC a || !mayC b then 1#64 else bif badOp op then 20#64 else 0#64
theorem k20 : ConOk Try.prog 20 (con4 cI cBl cSc cSc fun op w a b => pair (eSc (aluSc op w a b)) (eI (aluScE op a b))) :=
  con4_ok rth4 (Λ := noHooks) 6 (fun _ _ _ _ => rfl) (fun op w a b => Ev.of (by kernel_rfl))
noncomputable def th5 : List (FuncId × Con) := (20, con4 cI cBl cSc cSc fun op w a b => pair (eSc (aluSc op w a b)) (eI (aluScE op a b))) :: tk1
theorem rth5 : TabOk Try.prog (tabOf th5) := tabOf_cons rtk1 k20
end Go.Rf

/- Scalars: the document's operations on numbers. -/
namespace Go.Rf
open Go.Proofs
theorem k67 : ConOk Try.prog 67 (con2 cB cW fun wide a => eW (T.fitW wide a)) := con2_ok rsf3 (Λ := noHooks) 5 (fun _ _ => rfl) (fun x y => Ev.of (by kernel_rfl))
theorem k102 : ConOk Try.prog 102 (con1 cB fun wide => eW (T.sizeW wide)) := con1_ok rsf3 (Λ := noHooks) 5 (fun _ => rfl) (fun x => Ev.of (by kernel_rfl))
noncomputable def tj1 : List (FuncId × Con) := (67, con2 cB cW fun wide a => eW (T.fitW wide a)) :: (102, con1 cB fun wide => eW (T.sizeW wide)) :: th5
theorem rtj1 : TabOk Try.prog (tabOf tj1) := tabOf_cons (tabOf_cons rth5 k102) k67
def pAl : List Nat := [1, 1, 1, 1, 1, 0, 1, 4, 1, 3, 1, 3, 1, 3, 1, 3, 1, 3, 1, 3, 1, 3, 1, 3, 1, 3, 1, 3, 1, 3, 1, 3, 1, 2, 1, 1, 1, 4]
noncomputable def lpAl : Lp T.AlS where
  keys := [12, 13, 14, 15]
  names := []
  scr := wrAt Try.prog 60 pAl
  vals s := [eW s.by', eW s.r, eW s.top, eW s.i]
  blks s := []
  dec vs bs := match vs with
    | [a, b, c, d] => match cW.dec a, cW.dec b, cW.dec c, cW.dec d with
      | some a, some b, some c, some d => some ⟨a, b, c, d⟩
      | _, _, _, _ => none
    | _ => none
theorem alGoal (s : T.AlS) (h : s.inv) (n : Nat) (hn : n = 0) : LoopGoal Try.prog (loopAt Try.prog 60 pAl) lpAl T.alT s n 118 0 := by
  subst hn
  refine lp_rule (cx := ⟨Try.prog, tabOf tj1, inlF Try.prog (tabOf tj1) noHooks 2⟩) rtj1 (inlF_ok rtj1 2) (Λ := fun _ => none) (p := []) lpAl T.AlS.inv T.AlS.mu T.AlS.step T.alT 0 118 0 (fun _ => ⟨rfl, rfl⟩) ?_ ?_ s h
  · intro s r h hi
    exact ⟨.tt, by kernel_rfl, trivial⟩
  · refine good_run T.AlS.dec (fun s h => by have := h.1; simp only [T.AlS.mu]; omega) ?_ ?_
    · intro s hi hg
      simp only [T.AlS.step, Rd.sel, hg, if_true]
    · intro s hi hg
      simp only [T.AlS.step, Rd.sel, hg, Bool.false_eq_true, if_false]
noncomputable def hAl : FuncId → Hook := fun f p => if f == 60 && p == pAl then some (lpAl.hk T.alT) else none
def nzOb (wide : Bool) (b : W) : Ob := .imp (T.pos wide b) true (.pr (T.fitW wide b ≠ 0#64))
noncomputable def aluOb (op : W) (wide : Bool) (a b : W) : Ob :=
  .imp (T.badOp op) false <| .two (.pr (T.sizeW wide ≠ 0#64)) <| .imp (op == 0#64) false <| .imp (op == 1#64) false <| .imp (op == 2#64) false <|
    .two (.imp (op == 3#64) true (nzOb wide b)) <| .imp (op == 3#64) false <| .imp (op == 4#64) false <| .imp (op == 5#64) false <| .imp (op == 6#64) false <| .imp (op == 7#64) false <| .imp (op == 8#64) false <|
      .two (.imp (op == 9#64) true (nzOb wide b)) <| .imp (op == 9#64) false <| .imp (op == 10#64) false <| .imp (op == 11#64) false <| .imp (op == 12#64) true <|
        .pr (LoopGoal Try.prog (loopAt Try.prog 60 pAl) lpAl T.alT (T.arS wide a b) 0 118 0)
theorem aluOb_holds (op : W) (wide : Bool) (a b : W) : (aluOb op wide a b).holds := by
  intro _
  refine ⟨T.sizeW_pos wide, fun _ _ _ => ⟨fun _ h => T.pos_ne h, fun _ _ _ _ _ _ => ⟨fun _ h => T.pos_ne h, fun _ _ _ _ => ?_⟩⟩⟩
  exact alGoal _ ⟨T.byW_le wide b, by show (0#64 : W).toNat ≤ _; exact Nat.zero_le _⟩ 0 rfl
theorem k60 : ConOk Try.prog 60 (con4 cI cB cW cW fun op wide a b => pair (eW (T.aluV op wide a b)) (eI (T.aluE op))) :=
  con4_ok rtj1 (Λ := hAl) 5 (fun _ _ _ _ => rfl) (fun op wide a b => Ev.ob (ob := aluOb op wide a b) (by kernel_rfl) (aluOb_holds op wide a b))
noncomputable def tj2 : List (FuncId × Con) := (60, con4 cI cB cW cW fun op wide a b => pair (eW (T.aluV op wide a b)) (eI (T.aluE op))) :: tj1
theorem rtj2 : TabOk Try.prog (tabOf tj2) := tabOf_cons rtj1 k60
end Go.Rf

/- Scalars: sound, walked. -/
namespace Go.Rf
open Go.Proofs
noncomputable def soA (s : SmV) : Bool := ((aluScE s.op s.a s.b == 0#64) != ((mayC s.a && mayC s.b) && (T.aluE s.op == 0#64))) || ((aluScE s.op s.a s.b != 0#64) && !eqC (aluSc s.op s.w s.a s.b) nilC)
noncomputable def soB (s : SmV) (x y : W) : Bool := ((aluScE s.op s.a s.b != 0#64) || !hasC s.a x) || !hasC s.b y
noncomputable def soC (s : SmV) (x y : W) : Bool :=
  ((mayC (aluSc s.op s.w s.a s.b) && hasC (aluSc s.op s.w s.a s.b) (T.aluV s.op s.w x y)) && (aluScE s.op (ofC x) (ofC y) == 0#64)) && eqC (aluSc s.op s.w (ofC x) (ofC y)) (ofC (T.aluV s.op s.w x y))
noncomputable def soundB (s : SmV) (x y : W) : Bool := bif soA s then false else bif soB s x y then true else soC s x y
theorem kk24 : ConOk Try.prog 24 (con3 cSm cW cW fun s x y => eB (soundB s x y)) :=
  con3_ok rtj2 (Λ := noHooks) 6 (fun _ _ _ => rfl) (fun s x y => Ev.of (by kernel_rfl))
end Go.Rf
