/- Scalars: Each, the walk. -/
import Derived.Test.YtigiedlngfkfbaaSb2
set_option linter.unusedVariables false
set_option linter.unusedSimpArgs false
set_option maxRecDepth 100000
namespace Go.Rf
open Go.Proofs

theorem hI3 : InlOk cx0.P cx0.inl := inlF_ok rsf3 3
theorem reg_step {l : List Oper} {st st' : St} (he : ∃ ob, evalList cx0 l st = some (st', ob) ∧ ob.holds) {id : Nat} {Es : Env} {ws : World} {a : Act} {w : World} (hs : SRel Es ws st a w) {Q : Exit → Act → World → Prop} (hQ : ∀ a' w', SRel Es ws st' a' w' → Q .normal a' w') :
    (Code.region id l.toArray false).wp Try.prog Q a w := by
  obtain ⟨ob, h1, h2⟩ := he
  exact region_wp (cx := cx0) rsf3 hI3 h1 h2 hs hQ

theorem keptOf {st : St} {n : Nat} {s : SmV} {k : Nat} (h4 : ∀ E y, TRel E (st.look 4) y → TRel E (eI (BitVec.ofNat 64 k)) y) (h1 : st.look 1 = .ptr 0 []) (hb : st.hp 0 = some ⟨30, eSm s⟩) (hn : 0 < n) (hlo : st.lo ≤ n) : Kept st n (ents0 k) (hbs0 s) := by
  refine ⟨fun x hx => ?_, fun x hx => ?_, hlo⟩
  · simp only [ents0, List.mem_cons, List.not_mem_nil, or_false] at hx
    rcases hx with rfl | rfl
    · exact ⟨h4, trivial⟩
    · refine ⟨fun E y h => ?_, hn⟩
      rw [← h1]; exact h
  · simp only [hbs0, List.mem_cons, List.not_mem_nil, or_false] at hx
    subst hx
    refine ⟨hn, hb, fun B hB => ?_⟩
    cases hB
    exact ⟨trivial, trivial, ⟨⟨trivial, trivial, trivial⟩, ⟨trivial, trivial, trivial⟩, trivial⟩, ⟨⟨trivial, trivial, trivial⟩, ⟨trivial, trivial, trivial⟩, trivial⟩, trivial⟩

theorem lit0 : ∀ E y, TRel E (.lit .i64 0) y → TRel E (eI (BitVec.ofNat 64 0)) y := fun E y h => ⟨trivial, h.2⟩
theorem each_start' (s : SmV) (st : St) (B : Blk) (hnt : st.nt = 27) (hlo : st.lo = 0) (f3 : st.look 3 = .slc 1 [] (.lit .i64 1) 1) (f4 : st.look 4 = .lit .i64 0) (f1 : st.look 1 = .ptr 0 []) (b0 : st.hp 0 = some ⟨30, eSm s⟩) (b1 : st.hp 1 = some B) (bT : B.T = 30) (bR : isRaw B.v = false)
    (bc : ∀ E, cells E [] B.v = flatN sSm' 1 (eachF s 0)) {ws : World} {a : Act} {w : World} (hs : SRel E0 ws st a w) : ∃ D : SlD sSm', D.Fix 30 ∧ D.len = 1 ∧ D.els = eachF s 0 ∧ SRel E0 ws (stL s 0 D) a w := by
  obtain ⟨D, h1, h2, h3, h4⟩ := adopt flatSm hs (n := 1) (src := 3) (k := 1) (els := eachF s 0) (te := 30) (B := B) f3 b1 bT bR bc
    (keptOf (s := s) (k := 0) (fun E y h => lit0 E y (by rw [← f4]; exact h)) f1 b0 (by omega) (by omega)) (by omega) (by unfold maxLen; omega)
  rw [hnt, hlo] at h4
  exact ⟨D, h1.fix, h2, h3, h4⟩
noncomputable def b31 (s : SmV) : Blk := ((s3 s).hp 1).getD ⟨0, .un⟩
theorem s3a (s : SmV) : (s3 s).nt = 27 := by kernel_rfl
theorem s3b (s : SmV) : (s3 s).lo = 0 := by kernel_rfl
theorem s3c (s : SmV) : (s3 s).look 3 = .slc 1 [] (.lit .i64 1) 1 := by kernel_rfl
theorem s3d (s : SmV) : (s3 s).look 4 = .lit .i64 0 := by kernel_rfl
theorem s3e (s : SmV) : (s3 s).look 1 = .ptr 0 [] := by kernel_rfl
theorem s3f (s : SmV) : (s3 s).hp 0 = some ⟨30, eSm s⟩ := by kernel_rfl
theorem s3g (s : SmV) : (s3 s).hp 1 = some (b31 s) := by kernel_rfl
theorem s3h (s : SmV) : (b31 s).T = 30 := by kernel_rfl
theorem s3i (s : SmV) : isRaw (b31 s).v = false := by kernel_rfl
def lsS (s : SmV) : List Value := [.int .i64 (toZ .i64 s.op), .bool s.w, .int .u64 (toZ .u64 s.a.t.v), .int .u64 (toZ .u64 s.a.t.m), .int .u64 (toZ .u64 s.a.s.lo), .int .u64 (toZ .u64 s.a.s.hi), .int .u64 (toZ .u64 s.b.t.v), .int .u64 (toZ .u64 s.b.t.m), .int .u64 (toZ .u64 s.b.s.lo), .int .u64 (toZ .u64 s.b.s.hi)]
theorem s3j1 (s : SmV) (E : Env) : cells E [] (b31 s).v = lsS s := by kernel_rfl
theorem s3j2 (s : SmV) : flatN sSm' 1 (eachF s 0) = lsS s := by kernel_rfl
theorem s3j (s : SmV) (E : Env) : cells E [] (b31 s).v = flatN sSm' 1 (eachF s 0) := (s3j1 s E).trans (s3j2 s).symm
theorem each_start (s : SmV) {ws : World} {a : Act} {w : World} (hs : SRel E0 ws (s3 s) a w) : ∃ D : SlD sSm', D.Fix 30 ∧ D.len = 1 ∧ D.els = eachF s 0 ∧ SRel E0 ws (stL s 0 D) a w :=
  each_start' s (s3 s) (b31 s) (s3a s) (s3b s) (s3c s) (s3d s) (s3e s) (s3f s) (s3g s) (s3h s) (s3i s) (s3j s) hs

def bLe (k : Nat) : Bool := leB .i64 (BitVec.ofNat 64 k) 13#64
theorem bLe_iff {k : Nat} (h : k ≤ 14) : bLe k = decide (k ≤ 13) := by
  have : k = 0 ∨ k = 1 ∨ k = 2 ∨ k = 3 ∨ k = 4 ∨ k = 5 ∨ k = 6 ∨ k = 7 ∨ k = 8 ∨ k = 9 ∨ k = 10 ∨ k = 11 ∨ k = 12 ∨ k = 13 ∨ k = 14 := by omega
  rcases this with rfl | rfl | rfl | rfl | rfl | rfl | rfl | rfl | rfl | rfl | rfl | rfl | rfl | rfl | rfl <;> decide
theorem s4a (s : SmV) (k : Nat) (D : SlD sSm') : (s4 s k D).look 8 = .bool fun _ => bLe k := by kernel_rfl
theorem cond8 (s : SmV) (k : Nat) (D : SlD sSm') {ws : World} {a : Act} {w : World} (hs : SRel E0 ws (s4 s k D) a w) : a.eval (.tmp 8) = .bool (bLe k) := by
  obtain ⟨E, h1, _⟩ := hs
  have h := h1 8
  rw [s4a] at h
  exact h.2.symm

theorem each_append' (s : SmV) (k : Nat) (hk : k < 14) {D : SlD sSm'} (hD : D.Fix 30) (hl : D.len = 1 + 2 * k) (st : St) (B : Blk) (i : TypeInfo) (z : Value) (hnt : st.nt = 27) (hlo : st.lo = 0) (f11 : st.look 11 = D.at 1) (f24 : st.look 24 = .slc 2 [] (.lit .i64 2) 2)
    (f4 : st.look 4 = eI (BitVec.ofNat 64 k)) (f1 : st.look 1 = .ptr 0 []) (b0 : st.hp 0 = some ⟨30, eSm s⟩) (b1 : st.hp 1 = some D.blk) (b2 : st.hp 2 = some B) (bR : noRaw B.v = true) (bc : ∀ E, cells E [] B.v = flatN sSm' 2 (newF s k))
    (ho : op14.op = .call { callee := .builtin .append, args := #[.tmp 11, .tmp 24], argTypes := #[31, 31] }) (hd : op14.dst = some 25) (hg : op14.guard = none)
    (ht : Try.prog.underlying 31 = some (.slice 30)) (hi : Try.prog.info? 30 = some i) (hz : i.zero = some z) (hsz : i.size = sSm'.sz) (hzs : z.cells.size = sSm'.sz) (hby : i.bytes = 80)
    {ws : World} {a : Act} {w : World} (hs : SRel E0 ws st a w) {Q : Exit → Act → World → Prop}
    (hQ : ∀ (D' : SlD sSm') a' w', D'.Fix 30 → D'.len = 1 + 2 * (k + 1) → D'.els = catE (1 + 2 * k) D.els (newF s k) → SRel E0 ws (s6 s k D') a' w' → Q .normal a' w') : wpList Try.prog #[] Q (op14 :: [op15]) a w := by
  refine step_append (P := Try.prog) flatSm hs hg (s := 11) (x := 24) (t := 31) (te := 30) ho (dst := 25) hd (by omega) (D := D) (n := 1) f11 b1 hD
    (m := 2) (k := 2) (c := 2) (B2 := B) (ys := newF s k) f24 b2 bR bc
    (ents := ents0 k) (hbs := hbs0 s) (keptOf (s := s) (k := k) (fun E y h => by rw [← f4]; exact h) f1 b0 (by omega) (by omega))
    i z ht hi hz hsz hzs (by rw [hby, hl]; omega) (by omega) ?_
  intro D' a' w' h1 h2 h3 h4
  rw [hnt, hlo] at h4
  obtain ⟨ob, q1, q2⟩ := e6 s k D'
  exact evalList_wp (cx := cx0) rsf3 hI3 g15 q1 q2 h4 fun a'' w'' h5 => hQ D' a'' w'' h1 (by rw [h2, hl]; omega) (by rw [h3, hl]) h5
noncomputable def b52 (s : SmV) (k : Nat) (D : SlD sSm') : Blk := ((s5 s k D).hp 2).getD ⟨0, .un⟩
theorem s5a (s : SmV) (k : Nat) (D : SlD sSm') : (s5 s k D).nt = 27 := by kernel_rfl
theorem s5b (s : SmV) (k : Nat) (D : SlD sSm') : (s5 s k D).lo = 0 := by kernel_rfl
theorem s5c (s : SmV) (k : Nat) (D : SlD sSm') : (s5 s k D).look 11 = D.at 1 := by kernel_rfl
theorem s5d (s : SmV) (k : Nat) (D : SlD sSm') : (s5 s k D).look 24 = .slc 2 [] (.lit .i64 2) 2 := by kernel_rfl
theorem s5e (s : SmV) (k : Nat) (D : SlD sSm') : (s5 s k D).look 4 = eI (BitVec.ofNat 64 k) := by kernel_rfl
theorem s5f (s : SmV) (k : Nat) (D : SlD sSm') : (s5 s k D).look 1 = .ptr 0 [] := by kernel_rfl
theorem s5g (s : SmV) (k : Nat) (D : SlD sSm') : (s5 s k D).hp 0 = some ⟨30, eSm s⟩ := by kernel_rfl
theorem s5h (s : SmV) (k : Nat) (D : SlD sSm') : (s5 s k D).hp 1 = some D.blk := by kernel_rfl
theorem s5i (s : SmV) (k : Nat) (D : SlD sSm') : (s5 s k D).hp 2 = some (b52 s k D) := by kernel_rfl
theorem s5j (s : SmV) (k : Nat) (D : SlD sSm') : noRaw (b52 s k D).v = true := by kernel_rfl
theorem s5k1 (s : SmV) (k : Nat) (D : SlD sSm') (E : Env) : cells E [] (b52 s k D).v = lsS ⟨BitVec.ofNat 64 k, true, s.a, s.b⟩ ++ lsS ⟨BitVec.ofNat 64 k, false, s.a, s.b⟩ := by kernel_rfl
theorem s5k2 (s : SmV) (k : Nat) : flatN sSm' 2 (newF s k) = lsS ⟨BitVec.ofNat 64 k, true, s.a, s.b⟩ ++ lsS ⟨BitVec.ofNat 64 k, false, s.a, s.b⟩ := by kernel_rfl
theorem s5k (s : SmV) (k : Nat) (D : SlD sSm') (E : Env) : cells E [] (b52 s k D).v = flatN sSm' 2 (newF s k) := (s5k1 s k D E).trans (s5k2 s k).symm
theorem o14a : op14.op = .call { callee := .builtin .append, args := #[.tmp 11, .tmp 24], argTypes := #[31, 31] } := by kernel_rfl
theorem o14b : op14.dst = some 25 := by kernel_rfl
theorem o14c : op14.guard = none := by kernel_rfl
noncomputable def inf30 : TypeInfo := (Try.prog.info? 30).getD default
noncomputable def zer30 : Value := inf30.zero.getD undef
theorem i30a : Try.prog.underlying 31 = some (.slice 30) := by kernel_rfl
theorem i30b : Try.prog.info? 30 = some inf30 := by kernel_rfl
theorem i30c : inf30.zero = some zer30 := by kernel_rfl
theorem i30d : inf30.size = sSm'.sz := by kernel_rfl
theorem i30e : zer30.cells.size = sSm'.sz := by kernel_rfl
theorem i30f : inf30.bytes = 80 := by kernel_rfl
theorem each_append (s : SmV) (k : Nat) (hk : k < 14) {D : SlD sSm'} (hD : D.Fix 30) (hl : D.len = 1 + 2 * k) {ws : World} {a : Act} {w : World} (hs : SRel E0 ws (s5 s k D) a w) {Q : Exit → Act → World → Prop}
    (hQ : ∀ (D' : SlD sSm') a' w', D'.Fix 30 → D'.len = 1 + 2 * (k + 1) → D'.els = catE (1 + 2 * k) D.els (newF s k) → SRel E0 ws (s6 s k D') a' w' → Q .normal a' w') : wpList Try.prog #[] Q (op14 :: [op15]) a w :=
  each_append' s k hk hD hl (s5 s k D) (b52 s k D) inf30 zer30 (s5a s k D) (s5b s k D) (s5c s k D) (s5d s k D) (s5e s k D) (s5f s k D) (s5g s k D) (s5h s k D) (s5i s k D) (s5j s k D) (s5k s k D) o14a o14b o14c i30a i30b i30c i30d i30e i30f hs hQ
end Go.Rf
