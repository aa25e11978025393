/- Proved: the law TnumSets answers true at every input: which numbers tnums hold, which is in which, what joins and meets them, are the document's. No condition. -/
import Derived.Test.YtkfgohhmicfnhaaTnF
import Derived.Test.YtkfgohhmicfnhaaTnr
import Derived.Test.YtkfgohhmicfnhaaTp6
import Derived.Test.YtkfgohhmicfnhaaTl11
import Derived.Test.YtkfgohhmicfnhaaRows
set_option linter.unusedVariables false
set_option linter.unusedSimpArgs false
namespace Go.Rf
open Go.Proofs Go.Proofs.Ytkfgohhmicfnhaa

def inBad (a b : Tn) (i : Nat) : Bool := (mrk a i ||| mrk b i) != mrk b i
def inAt (a b : Tn) (i : Nat) : InS := ⟨a, b, false, BitVec.ofNat 64 i⟩
theorem in_go (a b : Tn) (i : Nat) (hi : i ≤ 64) : (inAt a b i).go = (decide (i < 64) && !inBad a b i) := by
  have h1 : (inAt a b i).more = decide (i < 64) := ltB_ofNat (by omega) (by decide)
  have h2 : (inAt a b i).bad = inBad a b i := by
    unfold InS.bad inBad
    rw [markB_eq, markB_eq]
    show ((mrk a (BitVec.ofNat 64 i).toNat ||| mrk b (BitVec.ofNat 64 i).toNat) != mrk b (BitVec.ofNat 64 i).toNat) = _
    rw [ofNat_toNat (by omega)]
  rw [InS.go, h1, h2]
theorem in_nxt (a b : Tn) (i : Nat) : (inAt a b i).nxt = inAt a b (i + 1) := by
  unfold InS.nxt inAt
  rw [ofNat_succ]

theorem both_may {a b : Tn} (h : bad2 a b = false) : may a = true ∧ may b = true := by
  unfold bad2 at h
  revert h
  cases may a <;> cases may b <;> simp
theorem not_both {a b : Tn} (h : bad2 a b = true) : may a = false ∨ may b = false := by
  unfold bad2 at h
  revert h
  cases may a <;> cases may b <;> simp

theorem inBad_eq {a b : Tn} (ha : may a = true) (hb : may b = true) (i : Nat) : inBad a b i = !inB (a.m.getLsbD i) (a.v.getLsbD i) (b.m.getLsbD i) (b.v.getLsbD i) := by
  unfold inBad
  rcases mk_cases ha i with ⟨h1, h2, h3⟩ | ⟨h1, h2, h3⟩ | ⟨h1, h2, h3⟩ <;> rcases mk_cases hb i with ⟨h4, h5, h6⟩ | ⟨h4, h5, h6⟩ | ⟨h4, h5, h6⟩ <;>
    rw [h1, h2, h3, h4, h5, h6] <;> rfl

theorem inD_eq (a b : Tn) : inD a b = isIn a b := by
  unfold inD
  cases hb2 : bad2 a b with
  | true =>
    show false = isIn a b
    unfold isIn has
    rcases not_both hb2 with h | h <;> rw [h] <;> simp
  | false =>
    obtain ⟨ha, hb⟩ := both_may hb2
    show (bif inRun a b then false else true) = _
    rcases runN_find (go := InS.go) (next := InS.nxt) (inAt a b) (inBad a b) 64 (in_go a b) (fun i _ _ => in_nxt a b i) 64 0 (by omega) with ⟨j, _, hj, hbad, e⟩ | ⟨hall, e⟩
    · have h1 : inRun a b = true := by
        unfold inRun
        show (runN InS.go InS.nxt 64 (inAt a b 0)).more = true
        rw [e]
        show ltB .i64 (BitVec.ofNat 64 j) (BitVec.ofNat 64 64) = true
        rw [ltB_ofNat (by omega) (by decide)]; exact decide_eq_true hj
      rw [h1]
      have h2 : isIn a b ≠ true := by
        rw [Ne, isIn_iff ha]
        intro h
        have := h j hj
        rw [inBad_eq ha hb] at hbad
        rw [this] at hbad
        cases hbad
      cases h3 : isIn a b with
      | true => exact absurd h3 h2
      | false => rfl
    · have h1 : inRun a b = false := by
        unfold inRun
        show (runN InS.go InS.nxt 64 (inAt a b 0)).more = false
        rw [e]
        show ltB .i64 (BitVec.ofNat 64 64) (BitVec.ofNat 64 64) = false
        rw [ltB_ofNat (by omega) (by decide)]; rfl
      rw [h1]
      symm
      rw [cond_false, isIn_iff ha]
      intro i hi
      have := hall i (by omega) hi
      rw [inBad_eq ha hb] at this
      simpa using this

/-! Free. -/
def frAt (t : Tn) (i : Nat) : FrS := ⟨t, BitVec.ofNat 64 (sumN i fun j => (t.m.getLsbD j).toNat), BitVec.ofNat 64 i⟩
theorem fr_nxt (t : Tn) (i : Nat) (hi : i < 64) : (frAt t i).nxt = frAt t (i + 1) := by
  have h : (frAt t i).is = t.m.getLsbD i := by
    unfold FrS.is
    rw [markB_eq]
    show (mrk t (BitVec.ofNat 64 i).toNat == 3#64) = _
    rw [ofNat_toNat (by omega)]
    unfold mrk
    cases t.m.getLsbD i <;> cases t.v.getLsbD i <;> rfl
  unfold FrS.nxt
  rw [h]
  unfold frAt
  rw [sumN]
  cases t.m.getLsbD i with
  | true => simp only [if_true, Bool.toNat_true]; rw [ofNat_succ, ofNat_succ]
  | false => simp only [Bool.false_eq_true, if_false, Bool.toNat_false, Nat.add_zero]; rw [ofNat_succ]

theorem freeD_eq (t : Tn) : freeD t = freeW t := by
  unfold freeD freeW
  cases may t with
  | false => rfl
  | true =>
    simp only [Bool.not_true, cond_false]
    have e := runN_count (go := FrS.go) (next := FrS.nxt) (frAt t) 64 (fun i hi => ltB_ofNat (by omega) (by decide)) (fr_nxt t)
    show (runN FrS.go FrS.nxt 64 (frAt t 0)).n = _
    rw [e, (popW_eq t.m).1]
    rfl

/-! Join. -/
def joAt (a b : Tn) (i : Nat) : JoS := ⟨a, b, BitVec.ofNat 64 i, fun j => if j < i then mrk a j ||| mrk b j else 0#64⟩
theorem upd_next (f : Nat → W) (i : Nat) : upd (fun j => if j < i then f j else 0#64) i (f i) = fun j => if j < i + 1 then f j else 0#64 := by
  funext j
  unfold upd
  by_cases h : j = i
  · subst h; simp
  · rw [if_neg h]
    by_cases h2 : j < i
    · show (if j < i then f j else 0#64) = _
      rw [if_pos h2, if_pos (by omega)]
    · show (if j < i then f j else 0#64) = _
      rw [if_neg h2, if_neg (by omega)]
theorem jo_nxt (a b : Tn) (i : Nat) (hi : i < 64) : (joAt a b i).nxt = joAt a b (i + 1) := by
  unfold JoS.nxt
  rw [markB_eq, markB_eq]
  show (⟨a, b, BitVec.ofNat 64 i + 1#64, upd _ (ixN (BitVec.ofNat 64 i)) (mrk a (BitVec.ofNat 64 i).toNat ||| mrk b (BitVec.ofNat 64 i).toNat)⟩ : JoS) = _
  rw [ofNat_toNat (by omega), ixN_ofNat (by omega), ofNat_succ]
  unfold joAt
  congr 1
  exact upd_next (fun j => mrk a j ||| mrk b j) i

theorem joL_eq (a b : Tn) (j : Nat) (hj : j < 64) : joL a b j = mrk a j ||| mrk b j := by
  unfold joL
  have e0 : (⟨a, b, 0#64, fun _ => 0#64⟩ : JoS) = joAt a b 0 := by
    unfold joAt; congr 1
  rw [e0, runN_count (go := JoS.go) (next := JoS.nxt) (joAt a b) 64 (fun i hi => ltB_ofNat (by omega) (by decide)) (jo_nxt a b)]
  show (if j < 64 then mrk a j ||| mrk b j else 0#64) = _
  rw [if_pos hj]

theorem join_eq {a b : Tn} (ha : may a = true) (hb : may b = true) : made (joL a b) = tJoin a b := by
  refine tn_ext fun j hj => ?_
  rw [(made_bits _ j hj).1, (made_bits _ j hj).2, joL_eq a b j hj, (join_v a b j hj).1, (join_v a b j hj).2]
  rcases mk_cases ha j with ⟨h1, h2, h3⟩ | ⟨h1, h2, h3⟩ | ⟨h1, h2, h3⟩ <;> rcases mk_cases hb j with ⟨h4, h5, h6⟩ | ⟨h4, h5, h6⟩ | ⟨h4, h5, h6⟩ <;>
    rw [h1, h2, h3, h4, h5, h6] <;> exact ⟨by kernel_rfl, by kernel_rfl⟩

/-! Meet. -/
def meBad (a b : Tn) (i : Nat) : Bool := (mrk a i &&& mrk b i) == 0#64
def meAt (a b : Tn) (i : Nat) : MeS := ⟨a, b, nil, false, BitVec.ofNat 64 i, fun j => if j < i then mrk a j &&& mrk b j else 0#64⟩
theorem me_l (a b : Tn) (i : Nat) (hi : i ≤ 64) : (meAt a b i).l' = fun j => if j < i + 1 then mrk a j &&& mrk b j else 0#64 := by
  unfold MeS.l'
  rw [markB_eq, markB_eq]
  show upd _ (ixN (BitVec.ofNat 64 i)) (mrk a (BitVec.ofNat 64 i).toNat &&& mrk b (BitVec.ofNat 64 i).toNat) = _
  rw [ofNat_toNat (by omega), ixN_ofNat (by omega)]
  exact upd_next (fun j => mrk a j &&& mrk b j) i
theorem me_go (a b : Tn) (i : Nat) (hi : i ≤ 64) : (meAt a b i).go = (decide (i < 64) && !meBad a b i) := by
  have h1 : (meAt a b i).more = decide (i < 64) := ltB_ofNat (by omega) (by decide)
  have h2 : (meAt a b i).bad = meBad a b i := by
    unfold MeS.bad meBad
    rw [me_l a b i hi]
    show ((if ixN (BitVec.ofNat 64 i) < i + 1 then mrk a (ixN (BitVec.ofNat 64 i)) &&& mrk b (ixN (BitVec.ofNat 64 i)) else 0#64) == 0#64) = _
    rw [ixN_ofNat (by omega), if_pos (by omega)]
  rw [MeS.go, h1, h2]
theorem me_nxt (a b : Tn) (i : Nat) (hi : i < 64) : (meAt a b i).nxt = meAt a b (i + 1) := by
  unfold MeS.nxt
  rw [me_l a b i (by omega)]
  show (⟨a, b, nil, false, BitVec.ofNat 64 i + 1#64, _⟩ : MeS) = _
  rw [ofNat_succ]
  rfl

theorem meBad_eq {a b : Tn} (ha : may a = true) (hb : may b = true) (i : Nat) : meBad a b i = !(a.m.getLsbD i || b.m.getLsbD i || (a.v.getLsbD i == b.v.getLsbD i)) := by
  unfold meBad
  rcases mk_cases ha i with ⟨h1, h2, h3⟩ | ⟨h1, h2, h3⟩ | ⟨h1, h2, h3⟩ <;> rcases mk_cases hb i with ⟨h4, h5, h6⟩ | ⟨h4, h5, h6⟩ | ⟨h4, h5, h6⟩ <;>
    rw [h1, h2, h3, h4, h5, h6] <;> rfl

theorem meRun_eq {a b : Tn} (ha : may a = true) (hb : may b = true) :
    (noMeet a b = true ∧ (meRun a b).more = true) ∨ (noMeet a b = false ∧ (meRun a b).more = false ∧ made (meRun a b).l = tMeet a b) := by
  have e0 : (⟨a, b, nil, false, 0#64, fun _ => 0#64⟩ : MeS) = meAt a b 0 := by
    unfold meAt; congr 1
  unfold meRun
  rw [e0]
  rcases runN_find (go := MeS.go) (next := MeS.nxt) (meAt a b) (meBad a b) 64 (me_go a b) (fun i hi _ => me_nxt a b i hi) 64 0 (by omega) with ⟨j, _, hj, hbad, e⟩ | ⟨hall, e⟩
  · left
    refine ⟨?_, ?_⟩
    · cases h : noMeet a b with
      | true => rfl
      | false =>
        have := (noMeet_iff ha hb).1 h j hj
        rw [meBad_eq ha hb, this] at hbad
        cases hbad
    · rw [e]
      show ltB .i64 (BitVec.ofNat 64 j) (BitVec.ofNat 64 64) = true
      rw [ltB_ofNat (by omega) (by decide)]; exact decide_eq_true hj
  · right
    refine ⟨?_, ?_, ?_⟩
    · rw [noMeet_iff ha hb]
      intro i hi
      have := hall i (by omega) hi
      rw [meBad_eq ha hb] at this
      simpa only [Bool.not_eq_false'] using this
    · rw [e]
      show ltB .i64 (BitVec.ofNat 64 64) (BitVec.ofNat 64 64) = false
      rw [ltB_ofNat (by omega) (by decide)]; rfl
    · rw [e]
      refine tn_ext fun j hj => ?_
      have el : (meAt a b 64).l j = mrk a j &&& mrk b j := by
        show (if j < 64 then mrk a j &&& mrk b j else 0#64) = _
        rw [if_pos hj]
      have hb' := hall j (by omega) hj
      rw [(made_bits _ j hj).1, (made_bits _ j hj).2, el, (meet_v a b j hj).1, (meet_v a b j hj).2]
      unfold meBad at hb'
      revert hb'
      rcases mk_cases ha j with ⟨h1, h2, h3⟩ | ⟨h1, h2, h3⟩ | ⟨h1, h2, h3⟩ <;> rcases mk_cases hb j with ⟨h4, h5, h6⟩ | ⟨h4, h5, h6⟩ | ⟨h4, h5, h6⟩ <;>
        rw [h1, h2, h3, h4, h5, h6] <;> intro hb' <;> first | (exfalso; revert hb'; decide) | exact ⟨by kernel_rfl, by kernel_rfl⟩
/-! Has. -/
def haBad (t : Tn) (n : W) (i : Nat) : Bool := (mrk t i &&& (if n.getLsbD i then 2#64 else 1#64)) == 0#64
def haAt (t : Tn) (n : W) (i : Nat) : HaS := ⟨t, n, false, BitVec.ofNat 64 i⟩
theorem ha_go (t : Tn) (n : W) (i : Nat) (hi : i ≤ 64) : (haAt t n i).go = (decide (i < 64) && !haBad t n i) := by
  have h1 : (haAt t n i).more = decide (i < 64) := ltB_ofNat (by omega) (by decide)
  have h2 : (haAt t n i).bad = haBad t n i := by
    unfold HaS.bad HaS.off HaS.one haBad
    rw [markB_eq, bitB_eq]
    show (if n.getLsbD (BitVec.ofNat 64 i).toNat then (mrk t (BitVec.ofNat 64 i).toNat &&& 2#64) == 0#64 else (mrk t (BitVec.ofNat 64 i).toNat &&& 1#64) == 0#64) = _
    rw [ofNat_toNat (by omega)]
    cases n.getLsbD i <;> rfl
  rw [HaS.go, h1, h2]
theorem ha_nxt (t : Tn) (n : W) (i : Nat) : (haAt t n i).nxt = haAt t n (i + 1) := by
  unfold HaS.nxt haAt
  rw [ofNat_succ]
theorem haBad_eq {t : Tn} (h : may t = true) (n : W) (i : Nat) : haBad t n i = !(t.v.getLsbD i == (n.getLsbD i && !t.m.getLsbD i)) := by
  unfold haBad
  rcases mk_cases h i with ⟨h1, h2, h3⟩ | ⟨h1, h2, h3⟩ | ⟨h1, h2, h3⟩ <;> rw [h1, h2, h3] <;> cases n.getLsbD i <;> rfl

theorem hasD_eq (t : Tn) (n : W) : hasD t n = has t n := by
  unfold hasD
  cases ht : may t with
  | false => unfold has; rw [ht]; rfl
  | true =>
    show (bif haRun t n then false else true) = _
    rcases runN_find (go := HaS.go) (next := HaS.nxt) (haAt t n) (haBad t n) 64 (ha_go t n) (fun i _ _ => ha_nxt t n i) 64 0 (by omega) with ⟨j, _, hj, hbad, e⟩ | ⟨hall, e⟩
    · have h1 : haRun t n = true := by
        unfold haRun
        show (runN HaS.go HaS.nxt 64 (haAt t n 0)).more = true
        rw [e]
        show ltB .i64 (BitVec.ofNat 64 j) (BitVec.ofNat 64 64) = true
        rw [ltB_ofNat (by omega) (by decide)]; exact decide_eq_true hj
      rw [h1]
      cases h3 : has t n with
      | false => rfl
      | true =>
        have := mem_iff_bits.1 (has_iff.1 h3) j hj
        rw [haBad_eq ht, this] at hbad
        simp at hbad
    · have h1 : haRun t n = false := by
        unfold haRun
        show (runN HaS.go HaS.nxt 64 (haAt t n 0)).more = false
        rw [e]
        show ltB .i64 (BitVec.ofNat 64 64) (BitVec.ofNat 64 64) = false
        rw [ltB_ofNat (by omega) (by decide)]; rfl
      rw [h1]
      symm
      rw [cond_false, has_iff, mem_iff_bits]
      intro i hi
      have := hall i (by omega) hi
      rw [haBad_eq ht] at this
      simpa only [Bool.not_eq_false', beq_iff_eq] using this

def sets (a b : Tn) (n : W) : Bool :=
  bif !eqT (joinR a b) (Tn.mux (bad2 a b) nil (made (joL a b))) || err2 a b != err2 a b || !eqT (meetR a b) (meetD a b) || isM a b != meetDB a b then false
  else true && may a == may a && has a n == hasD a n && isIn a b == inD a b && freeW a == freeD a && eqT (of n) ⟨n, 0#64⟩ && eqT allT allT

theorem ev10 (a b : Tn) (n : W) : Ev Try.prog (tabOf lH) noHooks 5 10 [eTn a, eTn b, cW.enc n] (eB (sets a b n)) :=
  Ev.of (by kernel_rfl)

theorem meet_same (a b : Tn) : meetR a b = meetD a b ∧ isM a b = meetDB a b := by
  unfold meetR meetD isM meetDB
  cases h : bad2 a b with
  | true =>
    have : noMeet a b = true := by
      unfold noMeet
      rcases not_both h with h | h <;> rw [h] <;> simp
    rw [this]
    exact ⟨rfl, rfl⟩
  | false =>
    obtain ⟨ha, hb⟩ := both_may h
    rcases meRun_eq ha hb with ⟨h1, h2⟩ | ⟨h1, h2, h3⟩
    · rw [h1, h2]; exact ⟨rfl, rfl⟩
    · rw [h1, h2, h3]; exact ⟨rfl, rfl⟩

theorem mux_true (x y : Tn) : Tn.mux true x y = x := rfl
theorem join_same (a b : Tn) : joinR a b = Tn.mux (bad2 a b) nil (made (joL a b)) := by
  unfold joinR
  cases h : bad2 a b with
  | true => rw [mux_true, mux_true]
  | false =>
    obtain ⟨ha, hb⟩ := both_may h
    rw [join_eq ha hb]

theorem sets_true (a b : Tn) (n : W) : sets a b n = true := by
  unfold sets
  rw [← join_same, ← (meet_same a b).1, ← (meet_same a b).2, hasD_eq, inD_eq, freeD_eq]
  simp [eqT, of, allT]

theorem ev10' (a b : Tn) (n : W) : Ev Try.prog (tabOf lH) noHooks 5 10 [eTn a, eTn b, cW.enc n] (eB true) := by
  have h := ev10 a b n
  rwa [sets_true] at h

theorem lift10 (os : Os) (started : os.Started) (H : Type) (enc : TypeId × Value → H) :
    ReturnsInHanded {} Try.checked os 10 .any (Rows.tnumSetsSpec.pre6 enc Try.prog Try.f10 Rows.tnumSetsRow.domain false) (Rows.tnumSetsSpec.post enc Try.prog Try.f10 false true false false) :=
  law_lift (C := Try.checked) (tb := 4) [sTn, sTn, sW] own started (by kernel_rfl) Try.func10
    (ChangeSpec.witness6 (enc := enc) (C := Try.checked) false ⟨#[], #[.agg #[.int .u64 0, .int .u64 0], .agg #[.int .u64 0, .int .u64 0], .int .u64 0], []⟩ 8 (by kernel_rfl) (by kernel_rfl) (by kernel_rfl) (by kernel_rfl))
    (by kernel_rfl) rfl Try.underlying4 rfl
    (fun ds h => match ds, h with | [_, _, _], _ => rfl)
    (fun xs w => match xs with
      | (a, b, n, ()) => (ev10' ⟨a.1, a.2.1⟩ ⟨b.1, b.2.1⟩ n).calls gH (encs_ok (l := [sTn, sTn, sW]) (ts := Try.f10.params.toList) (by kernel_rfl) (a, b, n, ())) w)

theorem tnumSets_row : Rows.TnumSetsSaid :=
  OpenClaim.holds_of_wide 10 Try.f10 rfl rfl rfl rfl rfl rfl rfl ⟨rfl, rfl, rfl, rfl, rfl⟩ rfl rfl rfl rfl rfl (by kernel_rfl) Try.func10 (by kernel_rfl)
    (of_decide_eq_true (by kernel_rfl)) (by unfold Func.isWrapper; first | (rw [if_pos (by decide +kernel)]; kernel_rfl) | (rw [if_neg (by decide +kernel)]; exact ⟨rfl, rfl⟩))
    (fun os started H enc _ => lift10 os started H enc)
end Go.Rf

namespace Go.Proofs.Ytkfgohhmicfnhaa
theorem tnumSets_holds : Rows.TnumSetsSaid := Go.Rf.tnumSets_row
end Go.Proofs.Ytkfgohhmicfnhaa
