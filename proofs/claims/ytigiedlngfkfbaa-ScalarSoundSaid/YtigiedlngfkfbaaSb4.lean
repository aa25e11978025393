/- Scalars: Each makes a slice of 29 sums. -/
import Derived.Test.YtigiedlngfkfbaaSb3
import Derived.LoopN
set_option linter.unusedVariables false
set_option linter.unusedSimpArgs false
set_option maxRecDepth 100000
namespace Go.Rf
open Go.Proofs

theorem s7a (s : SmV) (k : Nat) (D : SlD sSm') : (s7 s k D).nt = 27 := by kernel_rfl
theorem s7b (s : SmV) (k : Nat) (D : SlD sSm') : (s7 s k D).lo = 0 := by kernel_rfl
theorem s7c (s : SmV) (k : Nat) (D : SlD sSm') : (s7 s k D).look 3 = D.at 1 := by kernel_rfl
theorem s7d (s : SmV) (k : Nat) (D : SlD sSm') : (s7 s k D).look 4 = .int .i64 fun _ => BitVec.ofNat 64 k + 1#64 := by kernel_rfl
theorem s7e (s : SmV) (k : Nat) (D : SlD sSm') : (s7 s k D).look 1 = .ptr 0 [] := by kernel_rfl
theorem s7f (s : SmV) (k : Nat) (D : SlD sSm') : (s7 s k D).hp 0 = some ⟨30, eSm s⟩ := by kernel_rfl
theorem s7g (s : SmV) (k : Nat) (D : SlD sSm') : (s7 s k D).hp 1 = some D.blk := by kernel_rfl

theorem each_next' (s : SmV) (k : Nat) {D : SlD sSm'} (st : St) (hnt : st.nt = 27) (hlo : st.lo = 0) (f3 : st.look 3 = D.at 1) (f4 : st.look 4 = .int .i64 fun _ => BitVec.ofNat 64 k + 1#64) (f1 : st.look 1 = .ptr 0 []) (b0 : st.hp 0 = some ⟨30, eSm s⟩) (b1 : st.hp 1 = some D.blk)
    {ws : World} {a : Act} {w : World} (hs : SRel E0 ws st a w) : SRel E0 ws (stL s (k + 1) D) a w := by
  have hk : Kept st 2 ((3, D.at 1) :: ents0 (k + 1)) ((1, some D.blk) :: hbs0 s) := by
    have h0 := keptOf (st := st) (n := 2) (s := s) (k := k + 1) (fun E y h => by
      rw [f4] at h
      rw [show BitVec.ofNat 64 (k + 1) = BitVec.ofNat 64 k + 1#64 from by simp [BitVec.ofNat_add]]
      exact h) f1 b0 (by omega) (by omega)
    refine ⟨fun x hx => ?_, fun x hx => ?_, by omega⟩
    · rcases List.mem_cons.1 hx with rfl | hx
      · exact ⟨fun E y h => by rw [← f3]; exact h, by show 1 < 2; omega⟩
      · exact h0.ent x hx
    · rcases List.mem_cons.1 hx with rfl | hx
      · refine ⟨by show 1 < 2; omega, b1, fun B hB => ?_⟩
        cases hB
        show nlt 2 D.arr
        exact nlt_of_ok (E := E0) (fun _ _ => rfl) (ok_of_pf E0 _ (Sh.enc_pf _ (flatSm.good _) _))
      · exact h0.blk x hx
  have := hk.rel hs
  rw [hnt, hlo] at this
  exact this

theorem each_rounds (s : SmV) {ws : World} {Q : Exit → Act → World → Prop} (hQ : ∀ (D : SlD sSm') a w, D.Fix 30 → D.len = 29 → D.els = eachF s 14 → SRel E0 ws (s4 s 14 D) a w → Q (.exit 0) a w) :
    ∀ (j k : Nat), k + j = 14 → ∀ (D : SlD sSm') (a : Act) (w : World), D.Fix 30 → D.len = 1 + 2 * k → D.els = eachF s k → SRel E0 ws (stL s k D) a w → Code.rounds Try.prog rnd Q (j + 1) a w := by
  intro j
  induction j with
  | zero =>
    intro k hk D a w h1 h2 h3 hs
    obtain rfl : k = 14 := by omega
    rw [rounds_succ]
    refine wp_seq (wp_seq (reg_step (e4 s 14 D) hs fun a' w' hs' => ?_))
    refine wp_cond_false (by rw [cond8 s 14 D hs', bLe_iff (by omega)]; rfl) ?_
    exact wp_exit (hQ D a' w' h1 h2 h3 hs')
  | succ j ih =>
    intro k hk D a w h1 h2 h3 hs
    rw [rounds_succ]
    refine wp_seq (wp_seq (reg_step (e4 s k D) hs fun a' w' hs' => ?_))
    refine wp_cond_true (by rw [cond8 s k D hs', bLe_iff (by omega), decide_eq_true (by omega)]) (wp_skip ?_)
    show (Code.seq (.block 1 (.region 5 Rg5.toArray false)) (.region 4 Rg4.toArray false)).wp Try.prog _ a' w'
    refine wp_seq (wp_block ?_)
    refine list_region (by simpa using g5) ?_
    rw [List.toList_toArray, Rg5_eq]
    refine wpList_app _ (noGd_spec g5a) _ _ ?_
    obtain ⟨ob, q1, q2⟩ := e5 s k D
    refine evalList_wp (cx := cx0) rsf3 hI3 g5a q1 q2 hs' fun a2 w2 hs2 => ⟨rfl, ?_⟩
    refine each_append s k (by omega) h1 h2 hs2 fun D' a3 w3 p1 p2 p3 hs3 => ?_
    show (Code.region 4 Rg4.toArray false).wp Try.prog _ a3 w3
    refine reg_step (e7 s k D') hs3 fun a4 w4 hs4 => ?_
    refine ih (k + 1) (by omega) D' a4 w4 p1 p2 (by rw [p3, h3]; rfl) ?_
    exact each_next' s k (s7 s k D') (s7a s k D') (s7b s k D') (s7c s k D') (s7d s k D') (s7e s k D') (s7f s k D') (s7g s k D') hs4

noncomputable def s8 (s : SmV) (D : SlD sSm') : St := stEv (evalList cx0 Rg6 (s4 s 14 D))
theorem e8 (s : SmV) (D : SlD sSm') : ∃ ob, evalList cx0 Rg6 (s4 s 14 D) = some (s8 s D, ob) ∧ ob.holds := fl_two (L := []) (by kernel_rfl) (by kernel_rfl) (by simp)
theorem s8a (s : SmV) (D : SlD sSm') : (s8 s D).look 2 = D.at 1 := by kernel_rfl
theorem s8b (s : SmV) (D : SlD sSm') : (s8 s D).hp 1 = some D.blk := by kernel_rfl
theorem pf_Sm (s : SmV) : pf (eSm s) = true := by kernel_rfl

theorem each_makes (s : SmV) : Makes (e := sSm') Try.prog 10 [eSm s] 30 29 (eachF s 14) := by
  intro w
  refine calls_of_wp Try.func10 body10 ?_
  have hnt : Try.f10.ntmps = 27 := by kernel_rfl
  have hs0 := enter_rel (P := Try.prog) (fn := Try.f10) (args := [eSm s]) (by rw [hnt]; show 1 ≤ 27; omega) (fun v hv => by simp at hv; subst hv; exact pf_Sm s) w

  rw [hnt] at hs0
  refine wp_seq (reg_step (e1 s) hs0 fun a1 w1 hs1 => ?_)
  refine wp_seq (reg_step (e2 s) hs1 fun a2 w2 hs2 => ?_)
  refine wp_seq (wp_seq (reg_step (e3 s) hs2 fun a3 w3 hs3 => ?_))
  obtain ⟨D0, d1, d2, d3, hsL⟩ := each_start s hs3
  refine wp_block (wp_loop_rounds 15 ?_)
  refine each_rounds s ?_ 14 0 rfl D0 a3 w3 d1 d2 d3 hsL
  intro D a4 w4 d1 d2 d3 hs4
  show (Code.seq (.region 6 Rg6.toArray false) .ret).wp Try.prog _ a4 w4
  refine wp_seq (reg_step (e8 s D) hs4 fun a5 w5 hs5 => ?_)
  refine wp_ret ?_
  obtain ⟨E, h1, h2, h3, h4, h5, h6, h7, h8, h9, h10⟩ := hs5
  obtain ⟨b, b1, b2, b3⟩ := h4 1 D.blk (s8b s D)
  have hv := h1 2
  rw [s8a] at hv
  let D' : SlD sSm' := { D with b := b }
  have hval : a5.tmps.getD 2 undef = D'.value := by
    have e1 : val E (D.at 1) = a5.tmps.getD 2 undef := hv.2
    rw [← e1]
    exact (at_val (D := D') (n := 1) b1 (by show D.len < 2 ^ 63; omega)).1
  have hres : (results Try.f10 a5.tmps).run Try.prog w5 = .ok (a5.tmps.getD 2 undef) w5 := by
    rw [results_tmp (t := 2) (by kernel_rfl)]
  refine bodyPost_ret hres h3 ?_
  refine ⟨D', by rw [hval], ⟨?_, d1.le, d1.pre, d1.fz, d1.ty, d1.post, d1.max⟩, d2, fun i _ => by rw [← d3], ?_, h8.below⟩
  · show w5.heap[b]? = _
    rw [b3, (blk_cells (flatSm.good _) E).1]
    rfl
  · rcases h8.new 1 b b1 with h | h
    · cases h
    · exact h
end Go.Rf
