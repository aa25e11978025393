/- Several texts as one: ZSb1 ZSb2 ZSb3 ZSb4. -/
import Derived.Test.YtigiedlngfkfbaaGreatZg
import Derived.Test.YtigiedlngfkfbaaGreatRfH
import Derived.Test.YtigiedlngfkfbaaGreatRfG
import Derived.LoopN
set_option linter.unusedVariables false
set_option linter.unusedSimpArgs false
set_option maxRecDepth 100000

/- Scalars: Each, a slice of 29 sums. -/
namespace Go.Rf.E
open Go.Proofs

structure SmV where
  op : W
  w : Bool
  a : Sc
  b : Sc
def fI' : FCod W := FCod.bv .i64
def fSm : FCod SmV := FCod.aggR (FCod.consR fI' (FCod.consR FCod.bl (FCod.consR fSc (FCod.consR fSc FCod.nilR)))) (fun x => ⟨x.1, x.2.1, x.2.2.1, x.2.2.2.1⟩) (fun g => (g.op, g.w, g.a, g.b, ())) (fun _ => rfl)
def cSm : Cod SmV := fSm.one
def eSm (g : SmV) : AV := cSm.enc g

def sTn' : Sh := .agg (.cons (.int .u64) (.cons (.int .u64) .nil))
def sSc' : Sh := .agg (.cons sTn' (.cons sTn' .nil))
def sSm' : Sh := .agg (.cons (.int .i64) (.cons .bool (.cons sSc' (.cons sSc' .nil))))
def shSc (c : Sc) : sSc'.T := ((c.t.v, c.t.m, ()), (c.s.lo, c.s.hi, ()), ())
def shSm (g : SmV) : sSm'.T := (g.op, g.w, shSc g.a, shSc g.b, ())
def mkSc (c : sSc'.T) : Sc := ⟨⟨c.1.1, c.1.2.1⟩, ⟨c.2.1.1, c.2.1.2.1⟩⟩
def mkSm (g : sSm'.T) : SmV := ⟨g.1, g.2.1, mkSc g.2.2.1, mkSc g.2.2.2.1⟩
noncomputable def codeOf (f : Nat) (p : List Nat) : Code := match Tryz.prog.funcs[f]? with
  | some fn => match fn.body with
    | some c => match codeAt c p with
      | some d => d
      | none => .skip
    | none => .skip
  | none => .skip
noncomputable def opsOf (f : Nat) (p : List Nat) : List Oper := match codeOf f p with
  | .region _ ops _ => ops.toList
  | _ => []
noncomputable def cx0 : Cx := ⟨Tryz.prog, tabOf sf3, inlF Tryz.prog (tabOf sf3) noHooks 3⟩
end Go.Rf.E

/- Scalars: Each gives 29 sums. -/
namespace Go.Rf.E
open Go.Proofs

def newF (s : SmV) (k : Nat) : Nat → sSm'.T := fun j => shSm ⟨BitVec.ofNat 64 k, j == 0, s.a, s.b⟩
def eachF (s : SmV) : Nat → Nat → sSm'.T
  | 0 => fun _ => shSm s
  | k + 1 => catE (1 + 2 * k) (eachF s k) (newF s k)
theorem flatSm : Flat sSm' := ⟨by kernel_rfl, fun y => Sh.enc_len sSm' (by kernel_rfl) y, by decide, fun _ => by show sSm'.good = true; kernel_rfl⟩

noncomputable def Rg0 : List Oper := opsOf 5 [0]
noncomputable def Rg1 : List Oper := opsOf 5 [1, 0]
noncomputable def Rg2 : List Oper := opsOf 5 [1, 1, 0, 0]
noncomputable def Rg3 : List Oper := opsOf 5 [1, 1, 0, 1, 4, 5, 0, 0]
noncomputable def Rg5 : List Oper := opsOf 5 [1, 1, 0, 1, 4, 5, 1, 0, 4]
noncomputable def Rg4 : List Oper := opsOf 5 [1, 1, 0, 1, 4, 5, 1, 1]
noncomputable def Rg6 : List Oper := opsOf 5 [1, 1, 1, 0]
noncomputable def rnd : Code := .seq (.seq (.region 3 Rg3.toArray false) (.cond (.tmp 8) .skip (.exit 0))) (.seq (.block 1 (.region 5 Rg5.toArray false)) (.region 4 Rg4.toArray false))
theorem body10 : Tryz.f5.body = some (.seq (.region 0 Rg0.toArray false) (.seq (.region 1 Rg1.toArray false) (.seq (.seq (.region 2 Rg2.toArray false) (.block 0 (.loop rnd))) (.seq (.region 6 Rg6.toArray false) .ret)))) := by kernel_rfl
noncomputable def Rg5a : List Oper := Rg5.take 14
noncomputable def op14 : Oper := (Rg5.drop 14).headD default
noncomputable def op15 : Oper := (Rg5.drop 15).headD default
theorem Rg5_eq : Rg5 = Rg5a ++ (op14 :: [op15]) := by kernel_rfl

def ents0 (k : Nat) : List (Nat × AV) := [(4, eI (BitVec.ofNat 64 k)), (1, .ptr 0 [])]
def hbs0 (s : SmV) : List (Nat × Option Blk) := [(0, some ⟨30, eSm s⟩)]
def stL (s : SmV) (k : Nat) (D : SlD sSm') : St := slSt D 1 3 (ents0 k) (hbs0 s) 27 0

noncomputable def stEv (x : Option (St × Ob)) : St := match x with
  | some y => y.1
  | none => ⟨[], fun _ => .un, [], fun _ => none, 0, 0, 0⟩
noncomputable def s1 (s : SmV) : St := stEv (evalList cx0 Rg0 (St.enter [eSm s] (fun _ => none) 0 27))
noncomputable def s2 (s : SmV) : St := stEv (evalList cx0 Rg1 (s1 s))
noncomputable def s3 (s : SmV) : St := stEv (evalList cx0 Rg2 (s2 s))
noncomputable def s4 (s : SmV) (k : Nat) (D : SlD sSm') : St := stEv (evalList cx0 Rg3 (stL s k D))
noncomputable def s5 (s : SmV) (k : Nat) (D : SlD sSm') : St := stEv (evalList cx0 Rg5a (s4 s k D))
noncomputable def s6 (s : SmV) (k : Nat) (D : SlD sSm') : St := stEv (evalList cx0 [op15] (slSt D 1 25 (ents0 k) (hbs0 s) 27 0))
noncomputable def s7 (s : SmV) (k : Nat) (D : SlD sSm') : St := stEv (evalList cx0 Rg4 (s6 s k D))
theorem e1 (s : SmV) : ∃ ob, evalList cx0 Rg0 (St.enter [eSm s] (fun _ => none) 0 27) = some (s1 s, ob) ∧ ob.holds := fl_two (L := []) (by kernel_rfl) (by kernel_rfl) (by simp)
theorem e2 (s : SmV) : ∃ ob, evalList cx0 Rg1 (s1 s) = some (s2 s, ob) ∧ ob.holds := fl_two (L := []) (by kernel_rfl) (by kernel_rfl) (by simp)
theorem e3 (s : SmV) : ∃ ob, evalList cx0 Rg2 (s2 s) = some (s3 s, ob) ∧ ob.holds := fl_two (L := []) (by kernel_rfl) (by kernel_rfl) (by simp)
theorem e4 (s : SmV) (k : Nat) (D : SlD sSm') : ∃ ob, evalList cx0 Rg3 (stL s k D) = some (s4 s k D, ob) ∧ ob.holds := fl_two (L := []) (by kernel_rfl) (by kernel_rfl) (by simp)
theorem e5 (s : SmV) (k : Nat) (D : SlD sSm') : ∃ ob, evalList cx0 Rg5a (s4 s k D) = some (s5 s k D, ob) ∧ ob.holds := fl_two (L := []) (by kernel_rfl) (by kernel_rfl) (by simp)
theorem e6 (s : SmV) (k : Nat) (D : SlD sSm') : ∃ ob, evalList cx0 [op15] (slSt D 1 25 (ents0 k) (hbs0 s) 27 0) = some (s6 s k D, ob) ∧ ob.holds := fl_two (L := []) (by kernel_rfl) (by kernel_rfl) (by simp)
theorem e7 (s : SmV) (k : Nat) (D : SlD sSm') : ∃ ob, evalList cx0 Rg4 (s6 s k D) = some (s7 s k D, ob) ∧ ob.holds := fl_two (L := []) (by kernel_rfl) (by kernel_rfl) (by simp)
theorem g0 : noGd Rg0 = true := by kernel_rfl
theorem g1 : noGd Rg1 = true := by kernel_rfl
theorem g2 : noGd Rg2 = true := by kernel_rfl
theorem g3 : noGd Rg3 = true := by kernel_rfl
theorem g4 : noGd Rg4 = true := by kernel_rfl
theorem g5 : noGd Rg5 = true := by kernel_rfl
theorem g5a : noGd Rg5a = true := by kernel_rfl
theorem g15 : noGd [op15] = true := by kernel_rfl
theorem g6 : noGd Rg6 = true := by kernel_rfl
end Go.Rf.E

/- Scalars: Each, the walk. -/
namespace Go.Rf.E
open Go.Proofs

theorem hI3 : InlOk cx0.P cx0.inl := inlF_ok rsf3 3
theorem reg_step {l : List Oper} {st st' : St} (he : ∃ ob, evalList cx0 l st = some (st', ob) ∧ ob.holds) {id : Nat} {Es : Env} {ws : World} {a : Act} {w : World} (hs : SRel Es ws st a w) {Q : Exit → Act → World → Prop} (hQ : ∀ a' w', SRel Es ws st' a' w' → Q .normal a' w') :
    (Code.region id l.toArray false).wp Tryz.prog Q a w := by
  obtain ⟨ob, h1, h2⟩ := he
  exact region_wp (cx := cx0) rsf3 hI3 h1 h2 hs hQ

theorem keptOf {st : St} {n : Nat} {s : SmV} {k : Nat} (h4 : ∀ E y, TRel E (st.look 4) y → TRel E (eI (BitVec.ofNat 64 k)) y) (h1 : st.look 1 = .ptr 0 []) (hb : st.hp 0 = some ⟨30, eSm s⟩) (hn : 0 < n) (hlo : st.lo ≤ n) : Kept st n (ents0 k) (hbs0 s) := by
  refine ⟨fun x hx => ?_, fun x hx => ?_, hlo⟩
  · simp only [ents0, List.mem_cons, List.not_mem_nil, or_false] at hx
    rcases hx with rfl | rfl
    · exact ⟨h4, trivial⟩
    · refine ⟨fun E y h => ?_, hn⟩
      rw [← h1]; exact h
  · simp only [hbs0, List.mem_cons, List.not_mem_nil, or_false] at hx
    subst hx
    refine ⟨hn, hb, fun B hB => ?_⟩
    cases hB
    exact ⟨trivial, trivial, ⟨⟨trivial, trivial, trivial⟩, ⟨trivial, trivial, trivial⟩, trivial⟩, ⟨⟨trivial, trivial, trivial⟩, ⟨trivial, trivial, trivial⟩, trivial⟩, trivial⟩

theorem lit0 : ∀ E y, TRel E (.lit .i64 0) y → TRel E (eI (BitVec.ofNat 64 0)) y := fun E y h => ⟨trivial, h.2⟩
theorem each_start' (s : SmV) (st : St) (B : Blk) (hnt : st.nt = 27) (hlo : st.lo = 0) (f3 : st.look 3 = .slc 1 [] (.lit .i64 1) 1) (f4 : st.look 4 = .lit .i64 0) (f1 : st.look 1 = .ptr 0 []) (b0 : st.hp 0 = some ⟨30, eSm s⟩) (b1 : st.hp 1 = some B) (bT : B.T = 30) (bR : isRaw B.v = false)
    (bc : ∀ E, cells E [] B.v = flatN sSm' 1 (eachF s 0)) {ws : World} {a : Act} {w : World} (hs : SRel E0 ws st a w) : ∃ D : SlD sSm', D.Fix 30 ∧ D.len = 1 ∧ D.els = eachF s 0 ∧ SRel E0 ws (stL s 0 D) a w := by
  obtain ⟨D, h1, h2, h3, h4⟩ := adopt flatSm hs (n := 1) (src := 3) (k := 1) (els := eachF s 0) (te := 30) (B := B) f3 b1 bT bR bc
    (keptOf (s := s) (k := 0) (fun E y h => lit0 E y (by rw [← f4]; exact h)) f1 b0 (by omega) (by omega)) (by omega) (by unfold maxLen; omega)
  rw [hnt, hlo] at h4
  exact ⟨D, h1.fix, h2, h3, h4⟩
noncomputable def b31 (s : SmV) : Blk := ((s3 s).hp 1).getD ⟨0, .un⟩
theorem s3a (s : SmV) : (s3 s).nt = 27 := by kernel_rfl
theorem s3b (s : SmV) : (s3 s).lo = 0 := by kernel_rfl
theorem s3c (s : SmV) : (s3 s).look 3 = .slc 1 [] (.lit .i64 1) 1 := by kernel_rfl
theorem s3d (s : SmV) : (s3 s).look 4 = .lit .i64 0 := by kernel_rfl
theorem s3e (s : SmV) : (s3 s).look 1 = .ptr 0 [] := by kernel_rfl
theorem s3f (s : SmV) : (s3 s).hp 0 = some ⟨30, eSm s⟩ := by kernel_rfl
theorem s3g (s : SmV) : (s3 s).hp 1 = some (b31 s) := by kernel_rfl
theorem s3h (s : SmV) : (b31 s).T = 30 := by kernel_rfl
theorem s3i (s : SmV) : isRaw (b31 s).v = false := by kernel_rfl
def lsS (s : SmV) : List Value := [.int .i64 (toZ .i64 s.op), .bool s.w, .int .u64 (toZ .u64 s.a.t.v), .int .u64 (toZ .u64 s.a.t.m), .int .u64 (toZ .u64 s.a.s.lo), .int .u64 (toZ .u64 s.a.s.hi), .int .u64 (toZ .u64 s.b.t.v), .int .u64 (toZ .u64 s.b.t.m), .int .u64 (toZ .u64 s.b.s.lo), .int .u64 (toZ .u64 s.b.s.hi)]
theorem s3j1 (s : SmV) (E : Env) : cells E [] (b31 s).v = lsS s := by kernel_rfl
theorem s3j2 (s : SmV) : flatN sSm' 1 (eachF s 0) = lsS s := by kernel_rfl
theorem s3j (s : SmV) (E : Env) : cells E [] (b31 s).v = flatN sSm' 1 (eachF s 0) := (s3j1 s E).trans (s3j2 s).symm
theorem each_start (s : SmV) {ws : World} {a : Act} {w : World} (hs : SRel E0 ws (s3 s) a w) : ∃ D : SlD sSm', D.Fix 30 ∧ D.len = 1 ∧ D.els = eachF s 0 ∧ SRel E0 ws (stL s 0 D) a w :=
  each_start' s (s3 s) (b31 s) (s3a s) (s3b s) (s3c s) (s3d s) (s3e s) (s3f s) (s3g s) (s3h s) (s3i s) (s3j s) hs

def bLe (k : Nat) : Bool := leB .i64 (BitVec.ofNat 64 k) 13#64
theorem bLe_iff {k : Nat} (h : k ≤ 14) : bLe k = decide (k ≤ 13) := by
  have : k = 0 ∨ k = 1 ∨ k = 2 ∨ k = 3 ∨ k = 4 ∨ k = 5 ∨ k = 6 ∨ k = 7 ∨ k = 8 ∨ k = 9 ∨ k = 10 ∨ k = 11 ∨ k = 12 ∨ k = 13 ∨ k = 14 := by omega
  rcases this with rfl | rfl | rfl | rfl | rfl | rfl | rfl | rfl | rfl | rfl | rfl | rfl | rfl | rfl | rfl <;> decide
theorem s4a (s : SmV) (k : Nat) (D : SlD sSm') : (s4 s k D).look 8 = .bool fun _ => bLe k := by kernel_rfl
theorem cond8 (s : SmV) (k : Nat) (D : SlD sSm') {ws : World} {a : Act} {w : World} (hs : SRel E0 ws (s4 s k D) a w) : a.eval (.tmp 8) = .bool (bLe k) := by
  obtain ⟨E, h1, _⟩ := hs
  have h := h1 8
  rw [s4a] at h
  exact h.2.symm

theorem each_append' (s : SmV) (k : Nat) (hk : k < 14) {D : SlD sSm'} (hD : D.Fix 30) (hl : D.len = 1 + 2 * k) (st : St) (B : Blk) (i : TypeInfo) (z : Value) (hnt : st.nt = 27) (hlo : st.lo = 0) (f11 : st.look 11 = D.at 1) (f24 : st.look 24 = .slc 2 [] (.lit .i64 2) 2)
    (f4 : st.look 4 = eI (BitVec.ofNat 64 k)) (f1 : st.look 1 = .ptr 0 []) (b0 : st.hp 0 = some ⟨30, eSm s⟩) (b1 : st.hp 1 = some D.blk) (b2 : st.hp 2 = some B) (bR : noRaw B.v = true) (bc : ∀ E, cells E [] B.v = flatN sSm' 2 (newF s k))
    (ho : op14.op = .call { callee := .builtin .append, args := #[.tmp 11, .tmp 24], argTypes := #[31, 31] }) (hd : op14.dst = some 25) (hg : op14.guard = none)
    (ht : Tryz.prog.underlying 31 = some (.slice 30)) (hi : Tryz.prog.info? 30 = some i) (hz : i.zero = some z) (hsz : i.size = sSm'.sz) (hzs : z.cells.size = sSm'.sz) (hby : i.bytes = 80)
    {ws : World} {a : Act} {w : World} (hs : SRel E0 ws st a w) {Q : Exit → Act → World → Prop}
    (hQ : ∀ (D' : SlD sSm') a' w', D'.Fix 30 → D'.len = 1 + 2 * (k + 1) → D'.els = catE (1 + 2 * k) D.els (newF s k) → SRel E0 ws (s6 s k D') a' w' → Q .normal a' w') : wpList Tryz.prog #[] Q (op14 :: [op15]) a w := by
  refine step_append (P := Tryz.prog) flatSm hs hg (s := 11) (x := 24) (t := 31) (te := 30) ho (dst := 25) hd (by omega) (D := D) (n := 1) f11 b1 hD
    (m := 2) (k := 2) (c := 2) (B2 := B) (ys := newF s k) f24 b2 bR bc
    (ents := ents0 k) (hbs := hbs0 s) (keptOf (s := s) (k := k) (fun E y h => by rw [← f4]; exact h) f1 b0 (by omega) (by omega))
    i z ht hi hz hsz hzs (by rw [hby, hl]; omega) (by omega) ?_
  intro D' a' w' h1 h2 h3 h4
  rw [hnt, hlo] at h4
  obtain ⟨ob, q1, q2⟩ := e6 s k D'
  exact evalList_wp (cx := cx0) rsf3 hI3 g15 q1 q2 h4 fun a'' w'' h5 => hQ D' a'' w'' h1 (by rw [h2, hl]; omega) (by rw [h3, hl]) h5
noncomputable def b52 (s : SmV) (k : Nat) (D : SlD sSm') : Blk := ((s5 s k D).hp 2).getD ⟨0, .un⟩
theorem s5a (s : SmV) (k : Nat) (D : SlD sSm') : (s5 s k D).nt = 27 := by kernel_rfl
theorem s5b (s : SmV) (k : Nat) (D : SlD sSm') : (s5 s k D).lo = 0 := by kernel_rfl
theorem s5c (s : SmV) (k : Nat) (D : SlD sSm') : (s5 s k D).look 11 = D.at 1 := by kernel_rfl
theorem s5d (s : SmV) (k : Nat) (D : SlD sSm') : (s5 s k D).look 24 = .slc 2 [] (.lit .i64 2) 2 := by kernel_rfl
theorem s5e (s : SmV) (k : Nat) (D : SlD sSm') : (s5 s k D).look 4 = eI (BitVec.ofNat 64 k) := by kernel_rfl
theorem s5f (s : SmV) (k : Nat) (D : SlD sSm') : (s5 s k D).look 1 = .ptr 0 [] := by kernel_rfl
theorem s5g (s : SmV) (k : Nat) (D : SlD sSm') : (s5 s k D).hp 0 = some ⟨30, eSm s⟩ := by kernel_rfl
theorem s5h (s : SmV) (k : Nat) (D : SlD sSm') : (s5 s k D).hp 1 = some D.blk := by kernel_rfl
theorem s5i (s : SmV) (k : Nat) (D : SlD sSm') : (s5 s k D).hp 2 = some (b52 s k D) := by kernel_rfl
theorem s5j (s : SmV) (k : Nat) (D : SlD sSm') : noRaw (b52 s k D).v = true := by kernel_rfl
theorem s5k1 (s : SmV) (k : Nat) (D : SlD sSm') (E : Env) : cells E [] (b52 s k D).v = lsS ⟨BitVec.ofNat 64 k, true, s.a, s.b⟩ ++ lsS ⟨BitVec.ofNat 64 k, false, s.a, s.b⟩ := by kernel_rfl
theorem s5k2 (s : SmV) (k : Nat) : flatN sSm' 2 (newF s k) = lsS ⟨BitVec.ofNat 64 k, true, s.a, s.b⟩ ++ lsS ⟨BitVec.ofNat 64 k, false, s.a, s.b⟩ := by kernel_rfl
theorem s5k (s : SmV) (k : Nat) (D : SlD sSm') (E : Env) : cells E [] (b52 s k D).v = flatN sSm' 2 (newF s k) := (s5k1 s k D E).trans (s5k2 s k).symm
theorem o14a : op14.op = .call { callee := .builtin .append, args := #[.tmp 11, .tmp 24], argTypes := #[31, 31] } := by kernel_rfl
theorem o14b : op14.dst = some 25 := by kernel_rfl
theorem o14c : op14.guard = none := by kernel_rfl
noncomputable def inf30 : TypeInfo := (Tryz.prog.info? 30).getD default
noncomputable def zer30 : Value := inf30.zero.getD undef
theorem i30a : Tryz.prog.underlying 31 = some (.slice 30) := by kernel_rfl
theorem i30b : Tryz.prog.info? 30 = some inf30 := by kernel_rfl
theorem i30c : inf30.zero = some zer30 := by kernel_rfl
theorem i30d : inf30.size = sSm'.sz := by kernel_rfl
theorem i30e : zer30.cells.size = sSm'.sz := by kernel_rfl
theorem i30f : inf30.bytes = 80 := by kernel_rfl
theorem each_append (s : SmV) (k : Nat) (hk : k < 14) {D : SlD sSm'} (hD : D.Fix 30) (hl : D.len = 1 + 2 * k) {ws : World} {a : Act} {w : World} (hs : SRel E0 ws (s5 s k D) a w) {Q : Exit → Act → World → Prop}
    (hQ : ∀ (D' : SlD sSm') a' w', D'.Fix 30 → D'.len = 1 + 2 * (k + 1) → D'.els = catE (1 + 2 * k) D.els (newF s k) → SRel E0 ws (s6 s k D') a' w' → Q .normal a' w') : wpList Tryz.prog #[] Q (op14 :: [op15]) a w :=
  each_append' s k hk hD hl (s5 s k D) (b52 s k D) inf30 zer30 (s5a s k D) (s5b s k D) (s5c s k D) (s5d s k D) (s5e s k D) (s5f s k D) (s5g s k D) (s5h s k D) (s5i s k D) (s5j s k D) (s5k s k D) o14a o14b o14c i30a i30b i30c i30d i30e i30f hs hQ
end Go.Rf.E

/- Scalars: Each makes a slice of 29 sums. -/
namespace Go.Rf.E
open Go.Proofs

theorem s7a (s : SmV) (k : Nat) (D : SlD sSm') : (s7 s k D).nt = 27 := by kernel_rfl
theorem s7b (s : SmV) (k : Nat) (D : SlD sSm') : (s7 s k D).lo = 0 := by kernel_rfl
theorem s7c (s : SmV) (k : Nat) (D : SlD sSm') : (s7 s k D).look 3 = D.at 1 := by kernel_rfl
theorem s7d (s : SmV) (k : Nat) (D : SlD sSm') : (s7 s k D).look 4 = .int .i64 fun _ => BitVec.ofNat 64 k + 1#64 := by kernel_rfl
theorem s7e (s : SmV) (k : Nat) (D : SlD sSm') : (s7 s k D).look 1 = .ptr 0 [] := by kernel_rfl
theorem s7f (s : SmV) (k : Nat) (D : SlD sSm') : (s7 s k D).hp 0 = some ⟨30, eSm s⟩ := by kernel_rfl
theorem s7g (s : SmV) (k : Nat) (D : SlD sSm') : (s7 s k D).hp 1 = some D.blk := by kernel_rfl

theorem each_next' (s : SmV) (k : Nat) {D : SlD sSm'} (st : St) (hnt : st.nt = 27) (hlo : st.lo = 0) (f3 : st.look 3 = D.at 1) (f4 : st.look 4 = .int .i64 fun _ => BitVec.ofNat 64 k + 1#64) (f1 : st.look 1 = .ptr 0 []) (b0 : st.hp 0 = some ⟨30, eSm s⟩) (b1 : st.hp 1 = some D.blk)
    {ws : World} {a : Act} {w : World} (hs : SRel E0 ws st a w) : SRel E0 ws (stL s (k + 1) D) a w := by
  have hk : Kept st 2 ((3, D.at 1) :: ents0 (k + 1)) ((1, some D.blk) :: hbs0 s) := by
    have h0 := keptOf (st := st) (n := 2) (s := s) (k := k + 1) (fun E y h => by
      rw [f4] at h
      rw [show BitVec.ofNat 64 (k + 1) = BitVec.ofNat 64 k + 1#64 from by simp [BitVec.ofNat_add]]
      exact h) f1 b0 (by omega) (by omega)
    refine ⟨fun x hx => ?_, fun x hx => ?_, by omega⟩
    · rcases List.mem_cons.1 hx with rfl | hx
      · exact ⟨fun E y h => by rw [← f3]; exact h, by show 1 < 2; omega⟩
      · exact h0.ent x hx
    · rcases List.mem_cons.1 hx with rfl | hx
      · refine ⟨by show 1 < 2; omega, b1, fun B hB => ?_⟩
        cases hB
        show nlt 2 D.arr
        exact nlt_of_ok (E := E0) (fun _ _ => rfl) (ok_of_pf E0 _ (Sh.enc_pf _ (flatSm.good _) _))
      · exact h0.blk x hx
  have := hk.rel hs
  rw [hnt, hlo] at this
  exact this

theorem each_rounds (s : SmV) {ws : World} {Q : Exit → Act → World → Prop} (hQ : ∀ (D : SlD sSm') a w, D.Fix 30 → D.len = 29 → D.els = eachF s 14 → SRel E0 ws (s4 s 14 D) a w → Q (.exit 0) a w) :
    ∀ (j k : Nat), k + j = 14 → ∀ (D : SlD sSm') (a : Act) (w : World), D.Fix 30 → D.len = 1 + 2 * k → D.els = eachF s k → SRel E0 ws (stL s k D) a w → Code.rounds Tryz.prog rnd Q (j + 1) a w := by
  intro j
  induction j with
  | zero =>
    intro k hk D a w h1 h2 h3 hs
    obtain rfl : k = 14 := by omega
    rw [rounds_succ]
    refine wp_seq (wp_seq (reg_step (e4 s 14 D) hs fun a' w' hs' => ?_))
    refine wp_cond_false (by rw [cond8 s 14 D hs', bLe_iff (by omega)]; rfl) ?_
    exact wp_exit (hQ D a' w' h1 h2 h3 hs')
  | succ j ih =>
    intro k hk D a w h1 h2 h3 hs
    rw [rounds_succ]
    refine wp_seq (wp_seq (reg_step (e4 s k D) hs fun a' w' hs' => ?_))
    refine wp_cond_true (by rw [cond8 s k D hs', bLe_iff (by omega), decide_eq_true (by omega)]) (wp_skip ?_)
    show (Code.seq (.block 1 (.region 5 Rg5.toArray false)) (.region 4 Rg4.toArray false)).wp Tryz.prog _ a' w'
    refine wp_seq (wp_block ?_)
    refine list_region (by simpa using g5) ?_
    rw [List.toList_toArray, Rg5_eq]
    refine wpList_app _ (noGd_spec g5a) _ _ ?_
    obtain ⟨ob, q1, q2⟩ := e5 s k D
    refine evalList_wp (cx := cx0) rsf3 hI3 g5a q1 q2 hs' fun a2 w2 hs2 => ⟨rfl, ?_⟩
    refine each_append s k (by omega) h1 h2 hs2 fun D' a3 w3 p1 p2 p3 hs3 => ?_
    show (Code.region 4 Rg4.toArray false).wp Tryz.prog _ a3 w3
    refine reg_step (e7 s k D') hs3 fun a4 w4 hs4 => ?_
    refine ih (k + 1) (by omega) D' a4 w4 p1 p2 (by rw [p3, h3]; rfl) ?_
    exact each_next' s k (s7 s k D') (s7a s k D') (s7b s k D') (s7c s k D') (s7d s k D') (s7e s k D') (s7f s k D') (s7g s k D') hs4

noncomputable def s8 (s : SmV) (D : SlD sSm') : St := stEv (evalList cx0 Rg6 (s4 s 14 D))
theorem e8 (s : SmV) (D : SlD sSm') : ∃ ob, evalList cx0 Rg6 (s4 s 14 D) = some (s8 s D, ob) ∧ ob.holds := fl_two (L := []) (by kernel_rfl) (by kernel_rfl) (by simp)
theorem s8a (s : SmV) (D : SlD sSm') : (s8 s D).look 2 = D.at 1 := by kernel_rfl
theorem s8b (s : SmV) (D : SlD sSm') : (s8 s D).hp 1 = some D.blk := by kernel_rfl
theorem pf_Sm (s : SmV) : pf (eSm s) = true := by kernel_rfl

theorem each_makes (s : SmV) : Makes (e := sSm') Tryz.prog 5 [eSm s] 30 29 (eachF s 14) := by
  intro w
  refine calls_of_wp Tryz.func5 body10 ?_
  have hnt : Tryz.f5.ntmps = 27 := by kernel_rfl
  have hs0 := enter_rel (P := Tryz.prog) (fn := Tryz.f5) (args := [eSm s]) (by rw [hnt]; show 1 ≤ 27; omega) (fun v hv => by simp at hv; subst hv; exact pf_Sm s) w

  rw [hnt] at hs0
  refine wp_seq (reg_step (e1 s) hs0 fun a1 w1 hs1 => ?_)
  refine wp_seq (reg_step (e2 s) hs1 fun a2 w2 hs2 => ?_)
  refine wp_seq (wp_seq (reg_step (e3 s) hs2 fun a3 w3 hs3 => ?_))
  obtain ⟨D0, d1, d2, d3, hsL⟩ := each_start s hs3
  refine wp_block (wp_loop_rounds 15 ?_)
  refine each_rounds s ?_ 14 0 rfl D0 a3 w3 d1 d2 d3 hsL
  intro D a4 w4 d1 d2 d3 hs4
  show (Code.seq (.region 6 Rg6.toArray false) .ret).wp Tryz.prog _ a4 w4
  refine wp_seq (reg_step (e8 s D) hs4 fun a5 w5 hs5 => ?_)
  refine wp_ret ?_
  obtain ⟨E, h1, h2, h3, h4, h5, h6, h7, h8, h9, h10⟩ := hs5
  obtain ⟨b, b1, b2, b3⟩ := h4 1 D.blk (s8b s D)
  have hv := h1 2
  rw [s8a] at hv
  let D' : SlD sSm' := { D with b := b }
  have hval : a5.tmps.getD 2 undef = D'.value := by
    have e1 : val E (D.at 1) = a5.tmps.getD 2 undef := hv.2
    rw [← e1]
    exact (at_val (D := D') (n := 1) b1 (by show D.len < 2 ^ 63; omega)).1
  have hres : (results Tryz.f5 a5.tmps).run Tryz.prog w5 = .ok (a5.tmps.getD 2 undef) w5 := by
    rw [results_tmp (t := 2) (by kernel_rfl)]
  refine bodyPost_ret hres h3 ?_
  refine ⟨D', by rw [hval], ⟨?_, d1.le, d1.pre, d1.fz, d1.ty, d1.post, d1.max⟩, d2, fun i _ => by rw [← d3], ?_, h8.below⟩
  · show w5.heap[b]? = _
    rw [b3, (blk_cells (flatSm.good _) E).1]
    rfl
  · rcases h8.new 1 b b1 with h | h
    · cases h
    · exact h
end Go.Rf.E
