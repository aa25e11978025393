/- States: the laws of states, plain. -/
import Derived.Test.YtflnkcibjebdeaaSt24
set_option linter.unusedVariables false
set_option linter.unusedSimpArgs false
namespace Go.Rf

def numV (n : W) : Val := ⟨1#8, 0#64, n, 0#64⟩
theorem bytes_iff {x : Slt} {m : MSl} {pk : W} : bytesS x m pk = true ↔ (x.r.k = 0#8 ∧ x.h = 0#8) ∨ (x.r.k = 0#8 ∧ m.v.k = 0#8 ∧ SubB x.h m.h) ∨ (x.r.k ≠ 0#8 ∧ m.v.k ≠ 0#8 ∧ holdsR x.r m.v pk = true) ∨
    (x.r.k ≠ 0#8 ∧ m.v.k = 0#8 ∧ m.h = 255#8 ∧ holdsR x.r (numV (numP m.b)) pk = true) := by
  unfold bytesS numV
  by_cases h0 : x.r.k = 0#8
  · by_cases h1 : x.h = 0#8
    · simp [h0, h1]
    · by_cases h2 : m.v.k = 0#8
      · simp [h0, h1, h2, and8_sub']
      · simp [h0, h1, h2]
  · by_cases h2 : m.v.k = 0#8
    · simp [h0, h2, bne]
    · simp [h0, h2, bne]
theorem holds_kind1 {x : Reg} {v : Val} {pk : W} (h : holdsR x v pk = true) (hk : x.k = 1#8) : v.k = 1#8 := by
  unfold holdsR at h
  rw [hk] at h
  by_cases e : v.k = 1#8
  · exact e
  · simp [bne, e] at h
theorem right_addr {m : MSl} (h : rightS m = true) : m.v.k ≠ 1#8 := by
  unfold rightS at h
  cases he : eqVal m.v nilV with
  | true => rw [eqVal_iff.1 he]; decide
  | false =>
    rw [he] at h
    simp only [cond_false, Bool.and_eq_true] at h
    have := h.1.1.2
    unfold addrV at this
    simp only [Bool.and_eq_true, bne_iff_ne, ne_eq] at this
    exact this.2
theorem holds_all (n : W) (pk : W) : holdsR numAll (numV n) pk = true := by
  have : hasC allC n = true := hasC_iff.2 ⟨all_may, by
    show n &&& ~~~(18446744073709551615#64 : W) = 0#64
    have e : ~~~(18446744073709551615#64 : W) = 0#64 := by decide
    rw [e, BitVec.and_zero], by
    constructor
    · exact Nat.zero_le _
    · have := n.isLt
      have e : (18446744073709551615#64 : W).toNat = 18446744073709551615 := rfl
      show _ ≤ (18446744073709551615#64 : W).toNat
      omega⟩
  simp [holdsR, numAll, numV, bne, this]
theorem bytes_in {x y : Slt} {m : MSl} {pk : W} (hx : knownS x = true) (hy : knownS y = true) (hm : rightS m = true) (h1 : bytesS x m pk = true) (h2 : coversS x y = true) : bytesS y m pk = true := by
  obtain ⟨rx, ax⟩ := known_ok hx
  obtain ⟨ry, ay⟩ := known_ok hy
  rw [bytes_iff] at h1 ⊢
  rw [covers_iff] at h2
  rcases h2 with ⟨y0, h2⟩ | ⟨y0, x0, xh, yr⟩ | ⟨y0, x0, h2⟩
  · by_cases yh : y.h = 0#8
    · exact .inl ⟨y0, yh⟩
    · right; left
      rcases h1 with ⟨x0, xh⟩ | ⟨x0, v0, h1⟩ | ⟨x0, v0, h1⟩ | ⟨x0, v0, mh, h1⟩
      · rw [sure_none x0, xh] at h2; exact absurd (sub_zero h2) yh
      · rw [sure_none x0] at h2; exact ⟨y0, v0, sub_trans h2 h1⟩
      · by_cases x1 : x.r.k = 1#8
        · exact absurd (holds_kind1 h1 x1) (right_addr hm)
        · rw [sure_other x0 x1] at h2; exact absurd (sub_zero h2) yh
      · exact ⟨y0, v0, by rw [mh]; exact sub_all _⟩
  · rw [yr]
    right; right; right
    rcases h1 with ⟨_, xh'⟩ | ⟨_, v0, h1⟩ | ⟨c, _⟩ | ⟨c, _⟩
    · rw [xh] at xh'; exact absurd xh' (by decide)
    · rw [xh] at h1; exact ⟨by decide, v0, all_sub h1, holds_all _ _⟩
    · exact absurd x0 c
    · exact absurd x0 c
  · rcases h1 with ⟨c, _⟩ | ⟨c, _⟩ | ⟨_, v0, h1⟩ | ⟨_, v0, mh, h1⟩
    · exact absurd c x0
    · exact absurd c x0
    · exact .inr (.inr (.inl ⟨y0, v0, holds_in rx ry (right_val hm) h1 h2⟩))
    · exact .inr (.inr (.inr ⟨y0, v0, mh, holds_in rx ry (.num _) h1 h2⟩))

def MayP (s : Sta) : Prop := (∀ i, i < 11 → mayR (s.regs i) = true) ∧ (∀ i, i < 64 → knownS (s.stk i) = true) ∧ leB .i64 0#64 s.pk = true ∧ leB .i64 s.pk 65535#64 = true
theorem may_iff {s : Sta} : maySta s = true ↔ MayP s := by
  unfold maySta MayP
  simp only [Bool.and_eq_true, allN_iff, and_assoc]
theorem in_iff {a b : Sta} : inSt a b = true ↔ maySta a = true ∧ maySta b = true ∧ leB .i64 b.pk a.pk = true ∧ (∀ i, i < 11 → inR (a.regs i) (b.regs i) = true) ∧ (∀ i, i < 64 → coversS (a.stk i) (b.stk i) = true) := by
  unfold inSt
  simp only [Bool.and_eq_true, allN_iff, and_assoc]
theorem holds_iff {a : Sta} {v : Vw} : holdsSt a v = true ↔ maySta a = true ∧ (∀ i, i < 64 → rightS (v.fr i) = true) ∧ leB .i64 a.pk v.pk = true ∧ leB .i64 v.pk 65535#64 = true ∧
    (∀ i, i < 11 → mayV (v.regs i) = true ∧ holdsR (a.regs i) (v.regs i) v.pk = true) ∧ (∀ i, i < 64 → bytesS (a.stk i) (v.fr i) v.pk = true) := by
  unfold holdsSt rightF
  simp only [Bool.and_eq_true, allN_iff, and_assoc]
theorem reg_ok {s : Sta} (h : maySta s = true) {i : Nat} (hi : i < 11) : RegOk (s.regs i) := mayR_ok.1 ((may_iff.1 h).1 i hi)
theorem stk_ok {s : Sta} (h : maySta s = true) {i : Nat} (hi : i < 64) : knownS (s.stk i) = true := (may_iff.1 h).2.1 i hi

theorem st_self (a : Sta) : inSt a a = maySta a := by
  rw [Bool.eq_iff_iff, in_iff]
  exact ⟨fun h => h.1, fun h => ⟨h, h, leI_self _, fun i hi => inR_self (reg_ok h hi), fun i hi => covers_self (stk_ok h hi)⟩⟩
theorem st_trans {a b c : Sta} (h1 : inSt a b = true) (h2 : inSt b c = true) : inSt a c = true := by
  rw [in_iff] at h1 h2 ⊢
  obtain ⟨a1, b1, p1, r1, s1⟩ := h1
  obtain ⟨_, c1, p2, r2, s2⟩ := h2
  exact ⟨a1, c1, leI_trans p2 p1, fun i hi => inR_trans (reg_ok a1 hi) (reg_ok b1 hi) (reg_ok c1 hi) (r1 i hi) (r2 i hi), fun i hi => covers_trans (stk_ok a1 hi) (stk_ok b1 hi) (stk_ok c1 hi) (s1 i hi) (s2 i hi)⟩
theorem st_holds {a b : Sta} {v : Vw} (h1 : holdsSt a v = true) (h2 : inSt a b = true) : holdsSt b v = true := by
  rw [holds_iff] at h1 ⊢
  rw [in_iff] at h2
  obtain ⟨a1, f1, p1, q1, r1, s1⟩ := h1
  obtain ⟨_, b1, p2, r2, s2⟩ := h2
  exact ⟨b1, f1, leI_trans p2 p1, q1, fun i hi => ⟨(r1 i hi).1, holds_in (reg_ok a1 hi) (reg_ok b1 hi) (mayV_ok.1 (r1 i hi).1) (r1 i hi).2 (r2 i hi)⟩,
    fun i hi => bytes_in (stk_ok a1 hi) (stk_ok b1 hi) (f1 i hi) (s1 i hi) (s2 i hi)⟩
theorem joinSt_eq {a b : Sta} (ha : maySta a = true) (hb : maySta b = true) : joinSt a b = ⟨fun j => joinR (a.regs j) (b.regs j), fun j => joinSl (a.stk j) (b.stk j), minI a.pk b.pk⟩ := by
  unfold joinSt badJ
  rw [ha, hb]; rfl
theorem st_join {a b : Sta} (ha : maySta a = true) (hb : maySta b = true) : maySta (joinSt a b) = true ∧ inSt a (joinSt a b) = true ∧ inSt b (joinSt a b) = true := by
  have pa := may_iff.1 ha
  have pb := may_iff.1 hb
  have hj : maySta (joinSt a b) = true := by
    rw [may_iff, joinSt_eq ha hb]
    exact ⟨fun i hi => mayR_ok.2 (joinR_ok (reg_ok ha hi) (reg_ok hb hi)), fun i hi => (joinSl_facts (stk_ok ha hi) (stk_ok hb hi)).1, le_minI pa.2.2.1 pb.2.2.1, leI_trans (minI_le _ _).1 pa.2.2.2⟩
  refine ⟨hj, in_iff.2 ⟨ha, hj, ?_⟩, in_iff.2 ⟨hb, hj, ?_⟩⟩
  · rw [joinSt_eq ha hb]
    exact ⟨(minI_le _ _).1, fun i hi => (joinR_in (reg_ok ha hi) (reg_ok hb hi)).1, fun i hi => (joinSl_facts (stk_ok ha hi) (stk_ok hb hi)).2.1⟩
  · rw [joinSt_eq ha hb]
    exact ⟨(minI_le _ _).2, fun i hi => (joinR_in (reg_ok ha hi) (reg_ok hb hi)).2, fun i hi => (joinSl_facts (stk_ok ha hi) (stk_ok hb hi)).2.2⟩
theorem st_least {a b c : Sta} (h1 : inSt a c = true) (h2 : inSt b c = true) : inSt (joinSt a b) c = true := by
  rw [in_iff] at h1 h2
  obtain ⟨ha, hc, p1, r1, s1⟩ := h1
  obtain ⟨hb, _, p2, r2, s2⟩ := h2
  refine in_iff.2 ⟨(st_join ha hb).1, hc, ?_⟩
  rw [joinSt_eq ha hb]
  exact ⟨le_minI p1 p2, fun i hi => joinR_least (reg_ok ha hi) (reg_ok hb hi) (reg_ok hc hi) (r1 i hi) (r2 i hi), fun i hi => joinSl_least (stk_ok ha hi) (stk_ok hb hi) (stk_ok hc hi) (s1 i hi) (s2 i hi)⟩
end Go.Rf
