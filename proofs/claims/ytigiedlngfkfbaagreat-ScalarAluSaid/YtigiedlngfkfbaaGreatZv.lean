/- Scalars: the document's Alu, in the great seat. -/
import Derived.Test.YtigiedlngfkfbaaGreatZu
set_option linter.unusedVariables false
set_option linter.unusedSimpArgs false
set_option maxRecDepth 100000
namespace Go.Rf
open Go.Proofs
noncomputable def zt1 : List (FuncId × Con) := T.zt1
theorem rzt1 : TabOk Tryz.prog (tabOf zt1) := T.rzt1
theorem k30 : ConOk Tryz.prog 30 (con1 cSc fun a => eSc (halfC a)) := con1_ok rzt1 (Λ := noHooks) 6 (fun _ => rfl) (fun a => Ev.of (by kernel_rfl))
noncomputable def zt2 : List (FuncId × Con) := (30, con1 cSc fun a => eSc (halfC a)) :: zt1
theorem rzt2 : TabOk Tryz.prog (tabOf zt2) := tabOf_cons rzt1 k30
noncomputable def tE (bad : Bool) (t : Tn) : Tn := T.Tn.mux bad T.nil t
/-- The document's bits. -/
noncomputable def bitsW (c : Tn → Tn) (sz op : W) (a b : Sc) : Tn :=
  T.Tn.mux (op == 0#64) (c (tE (T.bad2 a.t b.t) (T.tAdd a.t b.t))) (T.Tn.mux (op == 1#64) (c (tE (T.bad2 a.t b.t) (T.tSub a.t b.t))) (T.Tn.mux (op == 2#64) (c (tE (T.bad2 a.t b.t) (T.tMul a.t b.t))) (T.Tn.mux (op == 4#64) (c (tE (T.bad2 a.t b.t) (T.tOr a.t b.t)))
  (T.Tn.mux (op == 5#64) (c (tE (T.bad2 a.t b.t) (T.tAnd a.t b.t))) (T.Tn.mux (op == 10#64) (c (tE (T.bad2 a.t b.t) (T.tXor a.t b.t))) (T.Tn.mux (op == 8#64) (c (tE (T.bad2 ⟨0#64, 0#64⟩ a.t) (T.tSub ⟨0#64, 0#64⟩ a.t))) (T.Tn.mux (op == 11#64) (c b.t)
  (T.Tn.mux (op == 6#64) (T.Tn.mux (single b) (c (tE (T.badSh a.t (byB sz b)) (T.tLsh a.t (byB sz b)))) (c allTn)) (T.Tn.mux (op == 7#64) (T.Tn.mux (single b) (c (tE (T.badSh a.t (byB sz b)) (T.tRsh a.t (byB sz b)))) (c allTn))
  (T.Tn.mux (op == 12#64) (T.Tn.mux (single b) (c (tE (T.badArsh a.t (byB sz b) sz) (T.tArsh a.t (byB sz b) sz))) (c allTn)) (c allTn)))))))))))
noncomputable def bitsWP (op z : W) (a b : Sc) : Tn := bif z == 64#64 then bitsW (fun t => t) 64#64 op a b else bitsW cutT32 32#64 op a b
noncomputable def aluTW (z op : W) (w : Bool) (a b all : Sc) : Sc := Sc.mux (!setOk (bitsWP op z a b) (spanOf op w a b)) all (setR (bitsWP op z a b) (spanOf op w a b))
noncomputable def aluW1 (op : W) (a b : Sc) : Sc := Sc.mux (!mayC a || !mayC b) nilC (aluTW 64#64 op true a b allC)
noncomputable def aluW0 (op : W) (a b : Sc) : Sc := Sc.mux (!mayC a || !mayC b) nilC (aluTW 32#64 op false (halfC a) (halfC b) (belowC 32#64))
noncomputable def mayE (a b : Sc) : W := bif !mayC a || !mayC b then 1#64 else 0#64
theorem e7_0_1 (a b : Sc) : Ev Tryz.prog (tabOf zt2) noHooks 6 7 [.lit .i64 0, .blit true, eSc a, eSc b] (pair (eSc (aluW1 0#64 a b)) (eI (mayE a b))) := Ev.of (by kernel_rfl)
theorem e7_0_0 (a b : Sc) : Ev Tryz.prog (tabOf zt2) noHooks 6 7 [.lit .i64 0, .blit false, eSc a, eSc b] (pair (eSc (aluW0 0#64 a b)) (eI (mayE a b))) := Ev.of (by kernel_rfl)
theorem e7_1_1 (a b : Sc) : Ev Tryz.prog (tabOf zt2) noHooks 6 7 [.lit .i64 1, .blit true, eSc a, eSc b] (pair (eSc (aluW1 1#64 a b)) (eI (mayE a b))) := Ev.of (by kernel_rfl)
theorem e7_1_0 (a b : Sc) : Ev Tryz.prog (tabOf zt2) noHooks 6 7 [.lit .i64 1, .blit false, eSc a, eSc b] (pair (eSc (aluW0 1#64 a b)) (eI (mayE a b))) := Ev.of (by kernel_rfl)
theorem e7_2_1 (a b : Sc) : Ev Tryz.prog (tabOf zt2) noHooks 6 7 [.lit .i64 2, .blit true, eSc a, eSc b] (pair (eSc (aluW1 2#64 a b)) (eI (mayE a b))) := Ev.of (by kernel_rfl)
theorem e7_2_0 (a b : Sc) : Ev Tryz.prog (tabOf zt2) noHooks 6 7 [.lit .i64 2, .blit false, eSc a, eSc b] (pair (eSc (aluW0 2#64 a b)) (eI (mayE a b))) := Ev.of (by kernel_rfl)
theorem e7_3_1 (a b : Sc) : Ev Tryz.prog (tabOf zt2) noHooks 6 7 [.lit .i64 3, .blit true, eSc a, eSc b] (pair (eSc (aluW1 3#64 a b)) (eI (mayE a b))) := Ev.of (by kernel_rfl)
theorem e7_3_0 (a b : Sc) : Ev Tryz.prog (tabOf zt2) noHooks 6 7 [.lit .i64 3, .blit false, eSc a, eSc b] (pair (eSc (aluW0 3#64 a b)) (eI (mayE a b))) := Ev.of (by kernel_rfl)
theorem e7_4_1 (a b : Sc) : Ev Tryz.prog (tabOf zt2) noHooks 6 7 [.lit .i64 4, .blit true, eSc a, eSc b] (pair (eSc (aluW1 4#64 a b)) (eI (mayE a b))) := Ev.of (by kernel_rfl)
theorem e7_4_0 (a b : Sc) : Ev Tryz.prog (tabOf zt2) noHooks 6 7 [.lit .i64 4, .blit false, eSc a, eSc b] (pair (eSc (aluW0 4#64 a b)) (eI (mayE a b))) := Ev.of (by kernel_rfl)
theorem e7_5_1 (a b : Sc) : Ev Tryz.prog (tabOf zt2) noHooks 6 7 [.lit .i64 5, .blit true, eSc a, eSc b] (pair (eSc (aluW1 5#64 a b)) (eI (mayE a b))) := Ev.of (by kernel_rfl)
theorem e7_5_0 (a b : Sc) : Ev Tryz.prog (tabOf zt2) noHooks 6 7 [.lit .i64 5, .blit false, eSc a, eSc b] (pair (eSc (aluW0 5#64 a b)) (eI (mayE a b))) := Ev.of (by kernel_rfl)
theorem e7_6_1 (a b : Sc) : Ev Tryz.prog (tabOf zt2) noHooks 6 7 [.lit .i64 6, .blit true, eSc a, eSc b] (pair (eSc (aluW1 6#64 a b)) (eI (mayE a b))) := Ev.of (by kernel_rfl)
theorem e7_6_0 (a b : Sc) : Ev Tryz.prog (tabOf zt2) noHooks 6 7 [.lit .i64 6, .blit false, eSc a, eSc b] (pair (eSc (aluW0 6#64 a b)) (eI (mayE a b))) := Ev.of (by kernel_rfl)
theorem e7_7_1 (a b : Sc) : Ev Tryz.prog (tabOf zt2) noHooks 6 7 [.lit .i64 7, .blit true, eSc a, eSc b] (pair (eSc (aluW1 7#64 a b)) (eI (mayE a b))) := Ev.of (by kernel_rfl)
theorem e7_7_0 (a b : Sc) : Ev Tryz.prog (tabOf zt2) noHooks 6 7 [.lit .i64 7, .blit false, eSc a, eSc b] (pair (eSc (aluW0 7#64 a b)) (eI (mayE a b))) := Ev.of (by kernel_rfl)
theorem e7_8_1 (a b : Sc) : Ev Tryz.prog (tabOf zt2) noHooks 6 7 [.lit .i64 8, .blit true, eSc a, eSc b] (pair (eSc (aluW1 8#64 a b)) (eI (mayE a b))) := Ev.of (by kernel_rfl)
theorem e7_8_0 (a b : Sc) : Ev Tryz.prog (tabOf zt2) noHooks 6 7 [.lit .i64 8, .blit false, eSc a, eSc b] (pair (eSc (aluW0 8#64 a b)) (eI (mayE a b))) := Ev.of (by kernel_rfl)
theorem e7_9_1 (a b : Sc) : Ev Tryz.prog (tabOf zt2) noHooks 6 7 [.lit .i64 9, .blit true, eSc a, eSc b] (pair (eSc (aluW1 9#64 a b)) (eI (mayE a b))) := Ev.of (by kernel_rfl)
theorem e7_9_0 (a b : Sc) : Ev Tryz.prog (tabOf zt2) noHooks 6 7 [.lit .i64 9, .blit false, eSc a, eSc b] (pair (eSc (aluW0 9#64 a b)) (eI (mayE a b))) := Ev.of (by kernel_rfl)
theorem e7_10_1 (a b : Sc) : Ev Tryz.prog (tabOf zt2) noHooks 6 7 [.lit .i64 10, .blit true, eSc a, eSc b] (pair (eSc (aluW1 10#64 a b)) (eI (mayE a b))) := Ev.of (by kernel_rfl)
theorem e7_10_0 (a b : Sc) : Ev Tryz.prog (tabOf zt2) noHooks 6 7 [.lit .i64 10, .blit false, eSc a, eSc b] (pair (eSc (aluW0 10#64 a b)) (eI (mayE a b))) := Ev.of (by kernel_rfl)
theorem e7_11_1 (a b : Sc) : Ev Tryz.prog (tabOf zt2) noHooks 6 7 [.lit .i64 11, .blit true, eSc a, eSc b] (pair (eSc (aluW1 11#64 a b)) (eI (mayE a b))) := Ev.of (by kernel_rfl)
theorem e7_11_0 (a b : Sc) : Ev Tryz.prog (tabOf zt2) noHooks 6 7 [.lit .i64 11, .blit false, eSc a, eSc b] (pair (eSc (aluW0 11#64 a b)) (eI (mayE a b))) := Ev.of (by kernel_rfl)
theorem e7_12_1 (a b : Sc) : Ev Tryz.prog (tabOf zt2) noHooks 6 7 [.lit .i64 12, .blit true, eSc a, eSc b] (pair (eSc (aluW1 12#64 a b)) (eI (mayE a b))) := Ev.of (by kernel_rfl)
theorem e7_12_0 (a b : Sc) : Ev Tryz.prog (tabOf zt2) noHooks 6 7 [.lit .i64 12, .blit false, eSc a, eSc b] (pair (eSc (aluW0 12#64 a b)) (eI (mayE a b))) := Ev.of (by kernel_rfl)
end Go.Rf
