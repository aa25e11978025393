/- Spans: shifts. -/
import Derived.Test.YtpmbaddpcahnfaaSr2
set_option linter.unusedVariables false
set_option linter.unusedSimpArgs false
namespace Go.Rf

variable {n t : W} {a b : Sp} {X Y : W}
theorem Wd.n64 (h : Wd n t) : 32 ≤ n.toNat ∧ n.toNat ≤ 64 := by rcases h.nn with e | e <;> rw [e] <;> decide
theorem Wd.bit (h : Wd n t) {i : Nat} (hi : i < 64) : t.getLsbD i = decide (i < n.toNat) := by
  rw [h.tt]
  unfold ones'
  rw [BitVec.getLsbD_ofNat, Nat.testBit_two_pow_sub_one]
  simp [hi]
theorem shI_nat (x : W) {k : W} (hk : k.toNat < 64) : (shI x k).toNat = x.toNat / 2 ^ k.toNat := by
  unfold shI
  rw [amtI (by rw [int_small hk]; omega)]
  show (x >>> k.toNat).toNat = _
  rw [BitVec.toNat_ushiftRight, Nat.shiftRight_eq_div_pow]
theorem shI_bit (x : W) {k : W} (hk : k.toNat < 64) (i : Nat) : (shI x k).getLsbD i = x.getLsbD (k.toNat + i) := by
  unfold shI
  rw [amtI (by rw [int_small hk]; omega)]
  show (x >>> k.toNat).getLsbD i = _
  rw [BitVec.getLsbD_ushiftRight]
theorem bit_small {x : W} {m j : Nat} (h : x.toNat < 2 ^ m) (hj : m ≤ j) : x.getLsbD j = false := by
  have : x.toNat < 2 ^ j := Nat.lt_of_lt_of_le h (Nat.pow_le_pow_right (by decide) hj)
  exact Nat.testBit_lt_two_pow this

theorem drw_nat (h : Wd n t) {x k : W} (hx : x.toNat ≤ t.toNat) (hk : k.toNat < n.toNat) : (drw x k t).toNat = t.toNat - (t.toNat - x.toNat) / 2 ^ k.toNat := by
  have hn := h.n64
  have hk64 : k.toNat < 64 := by omega
  have ht := h.tn
  have hp := Nat.two_pow_pos n.toNat
  have bx : ∀ j, n.toNat ≤ j → x.getLsbD j = false := fun j hj => bit_small (by omega) hj
  -- the noughts' part
  have hv : (t &&& ~~~(shI t k)) + shI t k = t := by
    rw [BitVec.add_eq_or_of_and_eq_zero]
    · apply BitVec.eq_of_getLsbD_eq
      intro i hi
      rw [BitVec.getLsbD_or, BitVec.getLsbD_and, BitVec.getLsbD_not, shI_bit t hk64, h.bit hi]
      by_cases e : k.toNat + i < 64
      · rw [h.bit e]
        by_cases e1 : k.toNat + i < n.toNat
        · have e2 : i < n.toNat := by omega
          simp [e1, e2]
        · simp [e1, hi]
      · rw [BitVec.getLsbD_of_ge t _ (by omega)]
        simp [hi]
    · apply BitVec.eq_of_getLsbD_eq
      intro i hi
      simp only [BitVec.getLsbD_and, BitVec.getLsbD_not, BitVec.getLsbD_zero, hi, decide_true, Bool.true_and]
      cases (shI t k).getLsbD i <;> simp
  have hvn := congrArg BitVec.toNat hv
  have hle : (shI t k).toNat ≤ t.toNat := by rw [shI_nat t hk64]; exact Nat.div_le_self _ _
  have hand : (t &&& ~~~(shI t k)).toNat ≤ t.toNat := by
    rw [BitVec.toNat_and]; exact Nat.and_le_left
  have hvn' : (t &&& ~~~(shI t k)).toNat = t.toNat - (shI t k).toNat := by
    rw [BitVec.toNat_add] at hvn
    have := t.isLt
    have := (shI t k).isLt
    by_cases e : (t &&& ~~~(shI t k)).toNat + (shI t k).toNat < 2 ^ 64
    · rw [Nat.mod_eq_of_lt e] at hvn; omega
    · omega
  have hd : drw x k t = shI x k + (t &&& ~~~(shI t k)) := by
    unfold drw
    rw [BitVec.add_eq_or_of_and_eq_zero]
    apply BitVec.eq_of_getLsbD_eq
    intro i hi
    simp only [BitVec.getLsbD_and, BitVec.getLsbD_not, BitVec.getLsbD_zero, hi, decide_true, Bool.true_and]
    rw [shI_bit x hk64, shI_bit t hk64]
    by_cases e : k.toNat + i < n.toNat
    · rw [h.bit (i := k.toNat + i) (by omega)]
      simp [e]
    · rw [bx _ (by omega)]; simp
  have hx2 : (shI x k).toNat ≤ (shI t k).toNat := by
    rw [shI_nat x hk64, shI_nat t hk64]; exact Nat.div_le_div_right hx
  have hsum : (drw x k t).toNat = (shI x k).toNat + (t.toNat - (shI t k).toNat) := by
    rw [hd, BitVec.toNat_add, hvn', Nat.mod_eq_of_lt]
    have := t.isLt
    omega
  rw [hsum, shI_nat x hk64, shI_nat t hk64]
  -- (t - x) / 2^k = t / 2^k - x / 2^k
  have hm : 2 ^ n.toNat = 2 ^ (n.toNat - k.toNat) * 2 ^ k.toNat := by rw [← Nat.pow_add]; congr 1; omega
  generalize 2 ^ k.toNat = K at *
  generalize 2 ^ (n.toNat - k.toNat) = Q at *
  have hK : 0 < K := by
    rcases Nat.eq_zero_or_pos K with e | e
    · rw [e, Nat.mul_zero] at hm; omega
    · exact e
  have hQ : 0 < Q := by
    rcases Nat.eq_zero_or_pos Q with e | e
    · rw [e, Nat.zero_mul] at hm; omega
    · exact e
  have e1 : t.toNat / K = Q - 1 := by
    rw [ht, hm]
    have : Q * K - 1 = (Q - 1) * K + (K - 1) := by
      rw [Nat.sub_mul, Nat.one_mul]
      have : K ≤ Q * K := Nat.le_mul_of_pos_left K hQ
      omega
    rw [this, Nat.add_comm, Nat.add_mul_div_right _ _ hK, Nat.div_eq_of_lt (by omega), Nat.zero_add]
  have e2 : (t.toNat - x.toNat) / K = Q - 1 - x.toNat / K := by
    have d1 := Nat.div_add_mod x.toNat K
    have m1 := Nat.mod_lt x.toNat hK
    have hxq : x.toNat / K ≤ Q - 1 := by rw [← e1]; exact Nat.div_le_div_right hx
    have : t.toNat - x.toNat = (Q - 1 - x.toNat / K) * K + (K - 1 - x.toNat % K) := by
      rw [Nat.sub_mul, Nat.sub_mul, Nat.one_mul, ht, hm]
      rw [Nat.mul_comm] at d1
      have h1 : x.toNat / K * K ≤ (Q - 1) * K := Nat.mul_le_mul_right K hxq
      rw [Nat.sub_mul, Nat.one_mul] at h1
      have : K ≤ Q * K := Nat.le_mul_of_pos_left K hQ
      omega
    rw [this, Nat.add_comm, Nat.add_mul_div_right _ _ hK, Nat.div_eq_of_lt (by omega), Nat.zero_add]
  have hxq : x.toNat / K ≤ t.toNat / K := Nat.div_le_div_right hx
  have hqt : t.toNat / K ≤ t.toNat := Nat.div_le_self _ _
  rw [e1] at hxq hqt
  rw [e2, e1]
  generalize x.toNat / K = q at *
  omega

/-! What the document's Drawn comes to. -/
def drawnN (T x k : Nat) : Nat := if x ≤ T / 2 then x / 2 ^ k else T - (T - x) / 2 ^ k

theorem and_bit (x : W) {j : Nat} (hj : j < 64) : x &&& mB j = if x.getLsbD j then mB j else 0#64 := by
  apply BitVec.eq_of_getLsbD_eq
  intro i hi
  rw [BitVec.getLsbD_and, mB_bit j i hi]
  by_cases e : i = j
  · subst e
    cases h : x.getLsbD i
    · simp
    · rw [if_pos rfl, mB_bit i i hi]; simp
  · cases h : x.getLsbD j
    · simp [e]
    · rw [if_pos rfl, mB_bit j i hi]; simp [e]
theorem bit_at {x : W} {j : Nat} (h : x.toNat < 2 ^ (j + 1)) : x.getLsbD j = decide (2 ^ j ≤ x.toNat) := by
  have e : x.getLsbD j = decide (x.toNat / 2 ^ j % 2 = 1) := Nat.testBit_eq_decide_div_mod_eq
  rw [e]
  have h0 := Nat.two_pow_pos j
  rw [Nat.pow_succ] at h
  by_cases h1 : 2 ^ j ≤ x.toNat
  · have : x.toNat / 2 ^ j = 1 := by
      rw [Nat.div_eq_iff h0]; omega
    simp [h1, this]
  · rw [Nat.div_eq_of_lt (by omega)]
    simp [h1]

theorem drawn_step (h : Wd n t) {x : Nat} (hx : x ≤ t.toNat) (i : Nat) :
    quoW (BitVec.ofNat 64 (drawnN t.toNat x i)) 2#64 + (BitVec.ofNat 64 (drawnN t.toNat x i) &&& powWr (n - 1#64)) = BitVec.ofNat 64 (drawnN t.toNat x (i + 1)) := by
  have hn := h.n64
  have ht := h.tn
  have e1 : (n - 1#64).toNat = n.toNat - 1 := by rcases h.nn with e | e <;> rw [e] <;> decide
  have e0 : 0 ≤ (n - 1#64).toInt := by rcases h.nn with e | e <;> rw [e] <;> decide
  have hp : powWr (n - 1#64) = mB (n.toNat - 1) := by
    rw [powWr_eq e0, e1]
    apply BitVec.eq_of_toNat_eq
    rw [mB_nat (by omega), BitVec.toNat_ofNat, Nat.mod_eq_of_lt (Nat.pow_lt_pow_right (by decide) (by omega))]
  have hM : 2 ^ n.toNat = 2 * 2 ^ (n.toNat - 1) := by
    rw [← Nat.pow_succ']; congr 1; omega
  have hMp := Nat.two_pow_pos (n.toNat - 1)
  have hlt64 : 2 ^ (n.toNat - 1) < 2 ^ 64 := Nat.pow_lt_pow_right (by decide) (by omega)
  have hMn := mB_nat (j := n.toNat - 1) (by omega)
  have htl := t.isLt
  rw [hp, and_bit _ (by omega)]
  generalize hMe : 2 ^ (n.toNat - 1) = M at *
  have half : t.toNat / 2 = M - 1 := by omega
  unfold drawnN
  rw [half, Nat.pow_succ, ← Nat.div_div_eq_div_mul, ← Nat.div_div_eq_div_mul]
  by_cases hc : x ≤ M - 1
  · rw [if_pos hc, if_pos hc]
    have hle : x / 2 ^ i ≤ x := Nat.div_le_self _ _
    have hv : (BitVec.ofNat 64 (x / 2 ^ i)).toNat = x / 2 ^ i := by rw [BitVec.toNat_ofNat, Nat.mod_eq_of_lt (by omega)]
    have hb : (BitVec.ofNat 64 (x / 2 ^ i)).getLsbD (n.toNat - 1) = false := bit_small (m := n.toNat - 1) (by rw [hv, hMe]; omega) (Nat.le_refl _)
    rw [hb]
    apply BitVec.eq_of_toNat_eq
    have z : (0#64 : W).toNat = 0 := rfl
    have z2 : (2#64 : W).toNat = 2 := rfl
    rw [if_neg (by decide), BitVec.toNat_add, quoW_nat, hv, z, z2, BitVec.toNat_ofNat]
    rfl
  · rw [if_neg hc, if_neg hc]
    generalize hw : (t.toNat - x) / 2 ^ i = w
    have hwl : w ≤ t.toNat - x := by rw [← hw]; exact Nat.div_le_self _ _
    have hv : (BitVec.ofNat 64 (t.toNat - w)).toNat = t.toNat - w := by rw [BitVec.toNat_ofNat, Nat.mod_eq_of_lt (by omega)]
    have hb : (BitVec.ofNat 64 (t.toNat - w)).getLsbD (n.toNat - 1) = true := by
      rw [bit_at (by rw [hv, Nat.pow_succ, hMe]; omega), hv, hMe]
      exact decide_eq_true (by omega)
    rw [hb]
    apply BitVec.eq_of_toNat_eq
    have z2 : (2#64 : W).toNat = 2 := rfl
    rw [if_pos rfl, BitVec.toNat_add, quoW_nat, hv, hMn, z2, BitVec.toNat_ofNat]
    omega

theorem drawnR_eq (h : Wd n t) {x k : W} (hx : x.toNat ≤ t.toNat) (hk : k.toNat < 64) : drawnR x k n = BitVec.ofNat 64 (drawnN t.toNat x.toNat k.toNat) := by
  unfold drawnR DrS.run
  have hki := int_small hk
  have hm : (⟨x, k, n, 0#64⟩ : DrS).mu = k.toNat := by
    show (k.toInt - (0#64 : W).toInt).toNat = _
    rw [hki, show ((0#64 : W).toInt) = 0 from rfl]; omega
  rw [hm]
  have e0 : (⟨x, k, n, 0#64⟩ : DrS) = ⟨BitVec.ofNat 64 (drawnN t.toNat x.toNat 0), k, n, BitVec.ofNat 64 0⟩ := by
    have : drawnN t.toNat x.toNat 0 = x.toNat := by unfold drawnN; split <;> simp <;> omega
    rw [this, ofNat_self]
  rw [e0, runN_count (go := DrS.go) (next := DrS.nxt) (fun i => (⟨BitVec.ofNat 64 (drawnN t.toNat x.toNat i), k, n, BitVec.ofNat 64 i⟩ : DrS)) k.toNat (fun i hi => by
    show ltB .i64 (BitVec.ofNat 64 i) k = _
    rw [← ofNat_self k, ltB_ofNat (by omega) (by omega), ofNat_self]) (fun i hi => by
    unfold DrS.nxt
    show (⟨quoW (BitVec.ofNat 64 (drawnN t.toNat x.toNat i)) 2#64 + (BitVec.ofNat 64 (drawnN t.toNat x.toNat i) &&& powWr (n - 1#64)), k, n, BitVec.ofNat 64 i + 1#64⟩ : DrS) = _
    rw [drawn_step h hx, ofNat_succ])]
theorem drawnN_le {T x k : Nat} (hx : x ≤ T) : drawnN T x k ≤ T := by
  unfold drawnN
  split
  · exact Nat.le_trans (Nat.div_le_self _ _) hx
  · exact Nat.sub_le _ _
theorem drawnR_nat (h : Wd n t) {x k : W} (hx : x.toNat ≤ t.toNat) (hk : k.toNat < 64) : (drawnR x k n).toNat = drawnN t.toNat x.toNat k.toNat := by
  rw [drawnR_eq h hx hk, BitVec.toNat_ofNat, Nat.mod_eq_of_lt]
  exact Nat.lt_of_le_of_lt (drawnN_le hx) t.isLt

theorem sign_nat (h : Wd n t) : (signOf t).toNat = t.toNat / 2 + 1 := by
  unfold signOf half1
  show ((t >>> 1) + 1#64).toNat = _
  rw [BitVec.toNat_add, BitVec.toNat_ushiftRight, Nat.shiftRight_eq_div_pow]
  have e1 : (1#64 : W).toNat = 1 := rfl
  have := t.isLt
  rw [e1]; omega

/-! One shift's result, by how much. -/
def shOne (op x k n t : W) : W := bif op == 6#64 then (x * powWr k) &&& t else bif op == 7#64 then quoW x (powWr k) else drawnR x k n
theorem shl_nat (x : W) {k : W} (hk : k.toNat < 64) : (x <<< amt .i64 k).toNat = x.toNat * 2 ^ k.toNat % 2 ^ 64 := by
  rw [amtI (by rw [int_small hk]; omega), BitVec.toNat_shiftLeft, Nat.shiftLeft_eq]
theorem powk_nat {k : W} (hk : k.toNat < 64) : (powWr k).toNat = 2 ^ k.toNat := by
  rw [powWr_eq (by rw [int_small hk]; omega), BitVec.toNat_ofNat, Nat.mod_eq_of_lt (Nat.pow_lt_pow_right (by decide) hk)]

theorem shTo_ok (h : Wd n t) (op : W) (hop : op = 6#64 ∨ op = 7#64 ∨ op = 12#64) {c d k : W} (hd : d.toNat < n.toNat) (hck : c.toNat ≤ k.toNat) (hkd : k.toNat ≤ d.toNat)
    (ha : a.hi.toNat ≤ t.toNat) (hX : memS a X) : Holds (shTo op a c d t) t (shOne op X k n t) := by
  have hn := h.n64
  have k64 : k.toNat < 64 := by omega
  have c64 : c.toNat < 64 := by omega
  have d64 : d.toNat < 64 := by omega
  obtain ⟨x1, x2⟩ := hX
  have pc : 2 ^ c.toNat ≤ 2 ^ k.toNat := Nat.pow_le_pow_right (by decide) hck
  have pd : 2 ^ k.toNat ≤ 2 ^ d.toNat := Nat.pow_le_pow_right (by decide) hkd
  have p0 := Nat.two_pow_pos c.toNat
  have pk := Nat.two_pow_pos k.toNat
  have htl := t.isLt
  unfold shTo shOne
  rcases hop with rfl | rfl | rfl
  · -- Lsh
    show Holds (Sp.mux (ltB .u64 (shI t d) a.hi) ⟨0, t⟩ ⟨a.lo <<< amt .i64 c, a.hi <<< amt .i64 d⟩) t ((X * powWr k) &&& t)
    rw [ltU, shI_nat t d64]
    by_cases hc : t.toNat / 2 ^ d.toNat < a.hi.toNat
    · rw [decide_eq_true hc]; exact full h _
    · rw [decide_eq_false hc]
      have g1 : a.hi.toNat * 2 ^ d.toNat ≤ t.toNat := (Nat.le_div_iff_mul_le (Nat.two_pow_pos _)).1 (by omega)
      have g2 : X.toNat * 2 ^ k.toNat ≤ a.hi.toNat * 2 ^ d.toNat := Nat.mul_le_mul x2 pd
      have g3 : a.lo.toNat * 2 ^ c.toNat ≤ X.toNat * 2 ^ k.toNat := Nat.mul_le_mul x1 pc
      have l1 := h.and (X * powWr k)
      have l2 := h.tn
      have l0 := Nat.two_pow_pos n.toNat
      rw [BitVec.toNat_mul, powk_nat k64, Nat.mod_eq_of_lt (a := X.toNat * 2 ^ k.toNat) (by omega), Nat.mod_eq_of_lt (by omega)] at l1
      refine ⟨⟨?_, ?_⟩, ?_⟩
      · show (a.lo <<< amt .i64 c).toNat ≤ _
        rw [shl_nat _ c64, Nat.mod_eq_of_lt (by omega), l1]; exact g3
      · show _ ≤ (a.hi <<< amt .i64 d).toNat
        rw [shl_nat _ d64, Nat.mod_eq_of_lt (by omega), l1]; exact g2
      · show (a.hi <<< amt .i64 d).toNat ≤ _
        rw [shl_nat _ d64, Nat.mod_eq_of_lt (by omega)]; exact g1
  · -- Rsh
    show Holds ⟨shI a.lo d, shI a.hi c⟩ t (quoW X (powWr k))
    have hr : (quoW X (powWr k)).toNat = X.toNat / 2 ^ k.toNat := by rw [quoW_nat, powk_nat k64]
    refine ⟨⟨?_, ?_⟩, ?_⟩
    · show (shI a.lo d).toNat ≤ _
      rw [shI_nat _ d64, hr]; exact Nat.div_le_div x1 pd (by omega)
    · show _ ≤ (shI a.hi c).toNat
      rw [shI_nat _ c64, hr]; exact Nat.div_le_div x2 pc (by omega)
    · show (shI a.hi c).toNat ≤ _
      rw [shI_nat _ c64]; exact Nat.le_trans (Nat.div_le_self _ _) ha
  · -- Arsh
    have hX' : X.toNat ≤ t.toNat := by omega
    have hr := drawnR_nat h (x := X) (k := k) hX' k64
    show Holds (Sp.mux (ltB .u64 a.hi (signOf t)) ⟨shI a.lo d, shI a.hi c⟩ (Sp.mux (ltB .u64 a.lo (signOf t)) ⟨shI a.lo d, drw a.hi d t⟩ ⟨drw a.lo c t, drw a.hi d t⟩)) t (drawnR X k n)
    rw [ltU, ltU, sign_nat h]
    have dh := drw_nat h (x := a.hi) (k := d) ha hd
    have dl := drw_nat h (x := a.lo) (k := c) (by omega) (by omega)
    unfold drawnN at hr
    have n1 : a.lo.toNat / 2 ^ d.toNat ≤ X.toNat / 2 ^ k.toNat := Nat.div_le_div x1 pd (by omega)
    have n2 : X.toNat / 2 ^ k.toNat ≤ a.hi.toNat / 2 ^ c.toNat := Nat.div_le_div x2 pc (by omega)
    have n3 : (t.toNat - a.hi.toNat) / 2 ^ d.toNat ≤ (t.toNat - X.toNat) / 2 ^ k.toNat := Nat.div_le_div (by omega) pd (by omega)
    have n4 : (t.toNat - X.toNat) / 2 ^ k.toNat ≤ (t.toNat - a.lo.toNat) / 2 ^ c.toNat := Nat.div_le_div (by omega) pc (by omega)
    have n5 : (t.toNat - a.hi.toNat) / 2 ^ d.toNat ≤ t.toNat - a.hi.toNat := Nat.div_le_self _ _
    have n6 : X.toNat / 2 ^ k.toNat ≤ X.toNat := Nat.div_le_self _ _
    have n7 : a.lo.toNat / 2 ^ d.toNat ≤ a.lo.toNat := Nat.div_le_self _ _
    have n8 : (t.toNat - X.toNat) / 2 ^ k.toNat ≤ t.toNat - X.toNat := Nat.div_le_self _ _
    have n9 : a.hi.toNat / 2 ^ c.toNat ≤ a.hi.toNat := Nat.div_le_self _ _
    have s1 := shI_nat a.lo d64
    have s2 := shI_nat a.hi c64
    generalize a.lo.toNat / 2 ^ d.toNat = q1 at *
    generalize X.toNat / 2 ^ k.toNat = q2 at *
    generalize a.hi.toNat / 2 ^ c.toNat = q3 at *
    generalize (t.toNat - a.hi.toNat) / 2 ^ d.toNat = q4 at *
    generalize (t.toNat - X.toNat) / 2 ^ k.toNat = q5 at *
    generalize (t.toNat - a.lo.toNat) / 2 ^ c.toNat = q6 at *
    by_cases h1 : a.hi.toNat < t.toNat / 2 + 1
    · rw [decide_eq_true h1]
      rw [if_pos (by omega)] at hr
      refine ⟨⟨?_, ?_⟩, ?_⟩
      · show (shI a.lo d).toNat ≤ _; omega
      · show _ ≤ (shI a.hi c).toNat; omega
      · show (shI a.hi c).toNat ≤ _; omega
    · rw [decide_eq_false h1]
      by_cases h2 : a.lo.toNat < t.toNat / 2 + 1
      · rw [decide_eq_true h2]
        refine ⟨⟨?_, ?_⟩, ?_⟩
        · show (shI a.lo d).toNat ≤ _
          split at hr <;> omega
        · show _ ≤ (drw a.hi d t).toNat
          split at hr <;> omega
        · show (drw a.hi d t).toNat ≤ _; omega
      · rw [decide_eq_false h2]
        rw [if_neg (by omega)] at hr
        refine ⟨⟨?_, ?_⟩, ?_⟩
        · show (drw a.lo c t).toNat ≤ _; omega
        · show _ ≤ (drw a.hi d t).toNat; omega
        · show (drw a.hi d t).toNat ≤ _; omega

/-- How much is shifted: within what is told. -/
theorem count_ok (h : Wd n t) (hb : mayS b = true) (hY : memS b Y) : (shWide b n = true → Y.toNat % n.toNat < n.toNat) ∧
    (shWide b n = false → (shC b.lo n).toNat ≤ Y.toNat % n.toNat ∧ Y.toNat % n.toNat ≤ (shC b.hi n).toNat ∧ (shC b.hi n).toNat < n.toNat) := by
  have hn := h.n64
  refine ⟨fun _ => Nat.mod_lt _ (by omega), fun hw => ?_⟩
  have hle := mayS_iff.1 hb
  have cl := shC_nat b.lo n h.nn
  have ch := shC_nat b.hi n h.nn
  have mh := Nat.mod_lt b.hi.toNat (show n.toNat > 0 by omega)
  have ml := Nat.mod_lt b.lo.toNat (show n.toNat > 0 by omega)
  have my := Nat.mod_lt Y.toNat (show n.toNat > 0 by omega)
  have hu : (toUS n).toNat = n.toNat := by
    unfold toUS
    show ((n.signExtend 64 : W)).toNat = _
    rw [BitVec.signExtend_eq]
  have hsub : (b.hi - b.lo).toNat = b.hi.toNat - b.lo.toNat := by
    rw [BitVec.toNat_sub]
    have := b.hi.isLt
    omega
  unfold shWide at hw
  rw [leU, hu, hsub, ltB_nat (by omega) (by omega), Bool.or_eq_false_iff, decide_eq_false_iff_not, decide_eq_false_iff_not, cl, ch] at hw
  obtain ⟨y1, y2⟩ := hY
  have key := cut_core b.lo.toNat b.hi.toNat n.toNat (by omega) hle
  have hq : b.lo.toNat / n.toNat = b.hi.toNat / n.toNat := by
    by_cases e : b.lo.toNat / n.toNat = b.hi.toNat / n.toNat
    · exact e
    · rcases key.1 e with h1 | h1 <;> omega
  have q1 : b.lo.toNat / n.toNat ≤ Y.toNat / n.toNat := Nat.div_le_div_right y1
  have q2 : Y.toNat / n.toNat ≤ b.hi.toNat / n.toNat := Nat.div_le_div_right y2
  have e1 := Nat.div_add_mod b.lo.toNat n.toNat
  have e2 := Nat.div_add_mod Y.toNat n.toNat
  have e3 := Nat.div_add_mod b.hi.toNat n.toNat
  have q3 : Y.toNat / n.toNat = b.hi.toNat / n.toNat := by omega
  rw [hq] at e1
  rw [q3] at e2
  omega

theorem shift_ok (h : Wd n t) (op : W) (hop : op = 6#64 ∨ op = 7#64 ∨ op = 12#64) (hb : mayS b = true) (ha : a.hi.toNat ≤ t.toNat) (hX : memS a X) (hY : memS b Y) {k : W} (hk : k.toNat = Y.toNat % n.toNat) :
    Holds (shiftS op a b n t) t (shOne op X k n t) := by
  have hn := h.n64
  obtain ⟨c1, c2⟩ := count_ok h hb hY
  unfold shiftS
  cases hw : shWide b n with
  | true =>
    have e1 : (n - 1#64).toNat = n.toNat - 1 := by rcases h.nn with e | e <;> rw [e] <;> decide
    have := c1 hw
    exact shTo_ok h op hop (c := 0#64) (d := n - 1#64) (k := k) (by omega) (by show (0#64 : W).toNat ≤ _; exact Nat.zero_le _) (by omega) ha hX
  | false =>
    obtain ⟨u, v, w⟩ := c2 hw
    exact shTo_ok h op hop (c := shC b.lo n) (d := shC b.hi n) (k := k) w (by omega) (by omega) ha hX
end Go.Rf
