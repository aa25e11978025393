/- Several texts as one: ZSh1 ZSh2 ZSh3 ZSh4. -/
import Derived.Test.YtigiedlngfkfbaaGreatZg
set_option linter.unusedVariables false
set_option linter.unusedSimpArgs false
set_option maxRecDepth 100000

/- Scalars: the operations on tnums and spans. -/
namespace Go.Rf
open Go.Proofs

theorem k73 : ConOk Tryz.prog 73 (con2 T.cTn T.cTn fun a b => T.resTE (T.bad2 a b) (T.tAdd a b)) := con2_ok rsf3 (Λ := noHooks) 3 (fun _ _ => rfl) (fun x y => Ev.of (by kernel_rfl))
theorem k74 : ConOk Tryz.prog 74 (con2 T.cTn T.cTn fun a b => T.resTE (T.bad2 a b) (T.tSub a b)) := con2_ok rsf3 (Λ := noHooks) 3 (fun _ _ => rfl) (fun x y => Ev.of (by kernel_rfl))
theorem k76 : ConOk Tryz.prog 76 (con2 T.cTn T.cTn fun a b => T.resTE (T.bad2 a b) (T.tOr a b)) := con2_ok rsf3 (Λ := noHooks) 3 (fun _ _ => rfl) (fun x y => Ev.of (by kernel_rfl))
theorem k78 : ConOk Tryz.prog 78 (con2 T.cTn T.cTn fun a b => T.resTE (T.bad2 a b) (T.tXor a b)) := con2_ok rsf3 (Λ := noHooks) 3 (fun _ _ => rfl) (fun x y => Ev.of (by kernel_rfl))
theorem k80 : ConOk Tryz.prog 80 (con2 T.cTn cI fun a n => T.resTE (T.badSh a n) (T.tLsh a n)) := con2_ok rsf3 (Λ := noHooks) 3 (fun _ _ => rfl) (fun x y => Ev.of (by kernel_rfl))
theorem k81 : ConOk Tryz.prog 81 (con2 T.cTn cI fun a n => T.resTE (T.badSh a n) (T.tRsh a n)) := con2_ok rsf3 (Λ := noHooks) 3 (fun _ _ => rfl) (fun x y => Ev.of (by kernel_rfl))
theorem k82 : ConOk Tryz.prog 82 (con3 T.cTn cI cI fun a n s => T.resTE (T.badArsh a n s) (T.tArsh a n s)) := con3_ok rsf3 (Λ := noHooks) 3 (fun _ _ _ => rfl) (fun x y z => Ev.of (by kernel_rfl))
theorem k59 : ConOk Tryz.prog 59 (con2 T.cTn cI fun a n => pair (T.eTn (T.tCut a n)) (eI (T.eCut a n))) := con2_ok rsf3 (Λ := noHooks) 3 (fun _ _ => rfl) (fun x y => Ev.of (by kernel_rfl))
theorem k61 : ConOk Tryz.prog 61 (con3 cSp cSp cW fun a b t => eSp (sumS a b t)) := con3_ok rsf3 (Λ := noHooks) 3 (fun _ _ _ => rfl) (fun a b t => Ev.of (by kernel_rfl))
theorem k62 : ConOk Tryz.prog 62 (con3 cSp cSp cW fun a b t => eSp (lessS a b t)) := con3_ok rsf3 (Λ := noHooks) 3 (fun _ _ _ => rfl) (fun a b t => Ev.of (by kernel_rfl))
theorem k64 : ConOk Tryz.prog 64 (con2 cSp cSp fun a b => eSp (partsS a b)) :=
  con2_ok rsf3 (Λ := noHooks) 3 (fun _ _ => rfl) (fun a b => Ev.fg (L := [([!(b.lo == 0#64), !(b.hi == 0#64)], b.hi ≠ 0#64), ([!(b.lo == 0#64), !(b.hi == 0#64)], b.lo ≠ 0#64)]) (by kernel_rfl) (by
    intro e he hg
    simp only [List.mem_cons, List.not_mem_nil, or_false] at he
    rcases he with rfl | rfl
    · have := hg _ (List.mem_cons_of_mem _ (List.mem_cons_self ..)); simpa using this
    · have := hg _ (List.mem_cons_self ..); simpa using this))
theorem k69 : ConOk Tryz.prog 69 (con2 cSp cSp fun a b => eSp (restS a b)) :=
  con2_ok rsf3 (Λ := noHooks) 3 (fun _ _ => rfl) (fun a b => Ev.fg (L := [([b.lo == b.hi, !(restC1 a b)], b.lo ≠ 0#64), ([b.lo == b.hi, !(restC1 a b)], b.lo ≠ 0#64), ([restC2 a b, !(restC1 a b)], b.lo ≠ 0#64), ([restC2 a b, !(restC1 a b)], b.lo ≠ 0#64)]) (by kernel_rfl) (by
    intro e he hg
    simp only [List.mem_cons, List.not_mem_nil, or_false] at he
    rcases he with rfl | rfl | rfl | rfl
    · exact rest_n0 (hg _ (List.mem_cons_of_mem _ (List.mem_cons_self ..))) (by have := hg _ (List.mem_cons_self ..); simpa using this)
    · exact rest_n0 (hg _ (List.mem_cons_of_mem _ (List.mem_cons_self ..))) (by have := hg _ (List.mem_cons_self ..); simpa using this)
    · exact rest_n0 (hg _ (List.mem_cons_of_mem _ (List.mem_cons_self ..))) (by have := hg _ (List.mem_cons_self ..); simp [restC2] at this; exact this.1)
    · exact rest_n0 (hg _ (List.mem_cons_of_mem _ (List.mem_cons_self ..))) (by have := hg _ (List.mem_cons_self ..); simp [restC2] at this; exact this.1)))
theorem k63 : ConOk Tryz.prog 63 (con2 cW cW fun x y => pair (eW (mulHi x y)) (eW (x * y))) := con2_ok rsf3 (Λ := noHooks) 3 (fun _ _ => rfl) (fun a b => Ev.of (by kernel_rfl))
noncomputable def th1 : List (FuncId × Con) :=
  (73, con2 T.cTn T.cTn fun a b => T.resTE (T.bad2 a b) (T.tAdd a b)) ::
  (74, con2 T.cTn T.cTn fun a b => T.resTE (T.bad2 a b) (T.tSub a b)) ::
  (76, con2 T.cTn T.cTn fun a b => T.resTE (T.bad2 a b) (T.tOr a b)) ::
  (78, con2 T.cTn T.cTn fun a b => T.resTE (T.bad2 a b) (T.tXor a b)) ::
  (80, con2 T.cTn cI fun a n => T.resTE (T.badSh a n) (T.tLsh a n)) ::
  (81, con2 T.cTn cI fun a n => T.resTE (T.badSh a n) (T.tRsh a n)) ::
  (82, con3 T.cTn cI cI fun a n s => T.resTE (T.badArsh a n s) (T.tArsh a n s)) ::
  (59, con2 T.cTn cI fun a n => pair (T.eTn (T.tCut a n)) (eI (T.eCut a n))) ::
  (61, con3 cSp cSp cW fun a b t => eSp (sumS a b t)) ::
  (62, con3 cSp cSp cW fun a b t => eSp (lessS a b t)) ::
  (64, con2 cSp cSp fun a b => eSp (partsS a b)) ::
  (69, con2 cSp cSp fun a b => eSp (restS a b)) ::
  (63, con2 cW cW fun x y => pair (eW (mulHi x y)) (eW (x * y))) :: sf3
theorem rth1 : TabOk Tryz.prog (tabOf th1) := tabOf_cons (tabOf_cons (tabOf_cons (tabOf_cons (tabOf_cons (tabOf_cons (tabOf_cons (tabOf_cons (tabOf_cons (tabOf_cons (tabOf_cons (tabOf_cons (tabOf_cons rsf3 k63) k69) k64) k62) k61) k59) k82) k81) k80) k78) k76) k74) k73
theorem k28 : ConOk Tryz.prog 28 (con4 cI cB cSp cSp fun op w a b => resSE (aluBad op a b) (aluS op w a b)) :=
  con4_ok rth1 (Λ := noHooks) 6 (fun _ _ _ _ => rfl) (fun op w a b => Ev.fl (g := !(aluBad op a b)) (L := obsN (cutS b 32#64) 32#64 ++ obsN b 64#64) (by kernel_rfl) (fun _ p hp => by
    rw [List.mem_append] at hp
    rcases hp with hp | hp
    · exact obsN_hold _ _ (.inl rfl) p hp
    · exact obsN_hold _ _ (.inr rfl) p hp))
end Go.Rf

/- Scalars: products of tnums. -/
namespace Go.Rf
open Go.Proofs
noncomputable def th2 : List (FuncId × Con) := (28, con4 cI cB cSp cSp fun op w a b => resSE (aluBad op a b) (aluS op w a b)) :: th1
theorem rth2 : TabOk Tryz.prog (tabOf th2) := tabOf_cons rth1 k28
noncomputable def lpMu : Lp T.MulS where
  keys := [0, 1, 3]
  names := [0, 1, 7]
  scr := wrAt Tryz.prog 125 [1, 1, 0, 4]
  vals s := [.ptr 0 [], .ptr 1 [], .ptr 7 []]
  blks s := [⟨24, T.eTn s.a⟩, ⟨24, T.eTn s.b⟩, ⟨24, T.eTn s.s⟩]
  dec _ bs := match bs with
    | [⟨_, x⟩, ⟨_, y⟩, ⟨_, z⟩] => match T.cTn.dec x, T.cTn.dec y, T.cTn.dec z with
      | some a, some b, some c => some ⟨a, b, c⟩
      | _, _, _ => none
    | _ => none
theorem mulGoal' (a b : Tn) : LoopGoal Tryz.prog (loopAt Tryz.prog 125 [1, 1, 0, 4]) lpMu T.mulT ⟨a, b, ⟨0#64, 0#64⟩⟩ 8 50 6 := by
  refine lp_rule (cx := ⟨Tryz.prog, tabOf th2, inlF Tryz.prog (tabOf th2) noHooks 2⟩) rth2 (inlF_ok rth2 2) (Λ := fun _ => none) (p := []) lpMu (fun _ => True) T.MulS.size T.MulS.step T.mulT 8 50 6 (fun _ => ⟨rfl, rfl⟩) ?_ ?_ _ trivial
  · intro s r h _
    exact ⟨.tt, by kernel_rfl, trivial⟩
  · intro s _
    unfold T.MulS.step
    cases hg : s.go with
    | false =>
      simp only [Rd.sel, Bool.false_eq_true, if_false, Good, T.mulT]
      rw [T.MulS.fin, hg]; rfl
    | true =>
      have hsz := (T.MulS.go_size s).1 hg
      have key : ∀ s', s' = s.next → Good (fun _ => True) T.MulS.size T.mulT s (.norm s') := by
        intro s' e
        subst e
        refine ⟨trivial, ?_, ?_⟩
        · rw [T.MulS.size_next]; omega
        · simp only [T.mulT, Rd.sel, T.MulS.fin_next s hg]
      cases ha : s.any with
      | true =>
        simp only [Rd.sel, if_true]
        exact key _ (by simp only [T.MulS.next, ha, cond_true])
      | false =>
        cases hz : s.zero with
        | true =>
          simp only [Rd.sel, if_true, Bool.false_eq_true, if_false]
          exact key _ (by simp only [T.MulS.next, ha, hz, cond_true, cond_false])
        | false =>
          simp only [Rd.sel, if_true, Bool.false_eq_true, if_false]
          exact key _ (by simp only [T.MulS.next, ha, hz, cond_true, cond_false])
noncomputable def hMu : FuncId → Hook := fun f p => if f == 125 && p == [1, 1, 0, 4] then some (lpMu.hk T.mulT) else none
theorem k75 : ConOk Tryz.prog 75 (con2 T.cTn T.cTn fun a b => T.resTE (T.bad2 a b) (T.tMul a b)) :=
  con2_ok rth2 (Λ := hMu) 5 (fun _ _ => rfl) (fun x y => Ev.ob (ob := .imp (T.bad2 x y) false (.pr (LoopGoal Tryz.prog (loopAt Tryz.prog 125 [1, 1, 0, 4]) lpMu T.mulT ⟨x, y, ⟨0#64, 0#64⟩⟩ 8 50 6))) (by kernel_rfl) (fun _ => mulGoal' x y))
noncomputable def th3 : List (FuncId × Con) := (75, con2 T.cTn T.cTn fun a b => T.resTE (T.bad2 a b) (T.tMul a b)) :: th2
theorem rth3 : TabOk Tryz.prog (tabOf th3) := tabOf_cons rth2 k75
end Go.Rf

/- Scalars: what an operation makes of the bits. -/
namespace Go.Rf
open Go.Proofs
theorem con4c_at {P : Program} {f : FuncId} {α β γ δ : Type} {p : α → β → Bool} {ca : Cod α} {cb : Cod β} {cc : Cod γ} {cd : Cod δ} {g : α → β → γ → δ → AV} (hg : ∀ x y z t, pfT (g x y z t) = true)
    (h : ∀ x y z t, p x y = true → EvAt P f [val E0 (ca.enc x), val E0 (cb.enc y), val E0 (cc.enc z), val E0 (cd.enc t)] (g x y z t)) : ConOk P f (con4c p ca cb cc cd g) := by
  intro args r ob hK hob ha
  unfold con4c at hK
  split at hK <;> try (simp at hK; done)
  split at hK <;> try (simp at hK; done)
  split at hK <;> simp at hK
  rename_i a b c d x y z t e1 e2 e3 e4 hp
  obtain ⟨rfl, rfl⟩ := hK
  refine ⟨hg _ _ _ _, fun w => ?_⟩
  obtain ⟨Γ, Λ, n, l, hΓ, hl, hm, hev⟩ := h x y z t hp
  have := hev.calls hΓ hl w
  rw [hm] at this
  simp only [List.map_cons, List.map_nil, ca.val e1, cb.val e2, cc.val e3, cd.val e4]
  exact this
noncomputable def tnA (c : Tn → Tn) (bad : Bool) (t : Tn) : Tn := T.Tn.mux ((bif bad then 1#64 else 0#64) != 0#64) allTn (c (T.Tn.mux bad T.nil t))
def byB (sz : W) (b : Sc) : W := convB .u64 .i64 (remB .u64 b.s.lo sz)
noncomputable def shX (c : Tn → Tn) (sz op : W) (a b : Sc) : Tn := T.Tn.mux (!single b) (c allTn) (T.Tn.mux (op == 6#64) (tnA c (T.badSh a.t (byB sz b)) (T.tLsh a.t (byB sz b))) (T.Tn.mux (op == 7#64) (tnA c (T.badSh a.t (byB sz b)) (T.tRsh a.t (byB sz b)))
  (tnA c (T.badArsh a.t (byB sz b) sz) (T.tArsh a.t (byB sz b) sz))))
noncomputable def bitsG (c : Tn → Tn) (sz op : W) (a b : Sc) : Tn :=
  T.Tn.mux (op == 0#64) (tnA c (T.bad2 a.t b.t) (T.tAdd a.t b.t)) (T.Tn.mux (op == 1#64) (tnA c (T.bad2 a.t b.t) (T.tSub a.t b.t)) (T.Tn.mux (op == 2#64) (tnA c (T.bad2 a.t b.t) (T.tMul a.t b.t)) (T.Tn.mux (op == 4#64) (tnA c (T.bad2 a.t b.t) (T.tOr a.t b.t))
  (T.Tn.mux (op == 5#64) (tnA c (T.bad2 a.t b.t) (T.tAnd a.t b.t)) (T.Tn.mux (op == 10#64) (tnA c (T.bad2 a.t b.t) (T.tXor a.t b.t)) (T.Tn.mux (op == 8#64) (tnA c (T.bad2 ⟨0#64, 0#64⟩ a.t) (T.tSub ⟨0#64, 0#64⟩ a.t)) (T.Tn.mux (op == 11#64) (c b.t)
  (T.Tn.mux (op == 6#64) (T.Tn.mux (op == 6#64) (shX c sz op a b) (c allTn)) (T.Tn.mux (op == 7#64) (T.Tn.mux (op == 7#64) (shX c sz op a b) (c allTn)) (T.Tn.mux (op == 12#64) (shX c sz op a b) (c allTn)))))))))))
def cutT32 (t : Tn) : Tn := T.tCut t 32#64
def isSz (_ z : W) : Bool := z == 64#64 || z == 32#64
noncomputable def bitsP (op z : W) (a b : Sc) : Tn := bif z == 64#64 then bitsG (fun t => t) 64#64 op a b else bitsG cutT32 32#64 op a b
theorem k29g : ConOk Tryz.prog 29 (con4c isSz cI cI cSc cSc fun op z a b => T.eTn (bitsP op z a b)) :=
  con4c_at (fun _ _ _ _ => rfl) (fun op z a b h => by
    have h' : z = 64#64 ∨ z = 32#64 := by simpa [isSz] using h
    rcases h' with rfl | rfl
    · exact evAt (Γ := tabOf th3) (Λ := noHooks) (n := 6) (l := [eI op, .lit .i64 64, eSc a, eSc b]) rth3 (by kernel_rfl) (by kernel_rfl) (Ev.of (by kernel_rfl))
    · exact evAt (Γ := tabOf th3) (Λ := noHooks) (n := 6) (l := [eI op, .lit .i64 32, eSc a, eSc b]) rth3 (by kernel_rfl) (by kernel_rfl) (Ev.of (by kernel_rfl)))
noncomputable def halfC (a : Sc) : Sc := Sc.mux (ltB .u64 a.s.hi 4294967296#64) a (setR (cutT32 a.t) (belowC 32#64).s)
theorem k27 : ConOk Tryz.prog 27 (con1 cSc fun a => eSc (halfC a)) := con1_ok rth3 (Λ := noHooks) 6 (fun _ => rfl) (fun a => Ev.of (by kernel_rfl))
noncomputable def th4 : List (FuncId × Con) := (29, con4c isSz cI cI cSc cSc fun op z a b => T.eTn (bitsP op z a b)) :: (27, con1 cSc fun a => eSc (halfC a)) :: th3
theorem rth4 : TabOk Tryz.prog (tabOf th4) := tabOf_cons (tabOf_cons rth3 k27) k29g
end Go.Rf

/- Scalars: the contract of Alu. -/
namespace Go.Rf
open Go.Proofs
noncomputable def spanOf (op : W) (w : Bool) (a b : Sc) : Sp := Sp.mux (aluBad op a.s b.s) nilS (aluS op w a.s b.s)
noncomputable def aluT (z op : W) (w : Bool) (a b all : Sc) : Sc := Sc.mux (setOk (bitsP op z a b) (spanOf op w a b)) (setR (bitsP op z a b) (spanOf op w a b)) all
def badOp (op : W) : Bool := ltB .i64 op 0#64 || ltB .i64 12#64 op
noncomputable def aluSc (op : W) (w : Bool) (a b : Sc) : Sc := Sc.mux (!mayC a || !mayC b) nilC (Sc.mux (badOp op) nilC (Sc.mux (!w) (aluT 32#64 op w (halfC a) (halfC b) (belowC 32#64)) (aluT 64#64 op w a b allC)))
noncomputable def aluScE (op : W) (a b : Sc) : W := bif !mayC a || !mayC b then 1#64 else bif badOp op then 20#64 else 0#64
theorem k6 : ConOk Tryz.prog 6 (con4 cI cBl cSc cSc fun op w a b => pair (eSc (aluSc op w a b)) (eI (aluScE op a b))) :=
  con4_ok rth4 (Λ := noHooks) 6 (fun _ _ _ _ => rfl) (fun op w a b => Ev.of (by kernel_rfl))
noncomputable def th5 : List (FuncId × Con) := (6, con4 cI cBl cSc cSc fun op w a b => pair (eSc (aluSc op w a b)) (eI (aluScE op a b))) :: th4
theorem rth5 : TabOk Tryz.prog (tabOf th5) := tabOf_cons rth4 k6
end Go.Rf
