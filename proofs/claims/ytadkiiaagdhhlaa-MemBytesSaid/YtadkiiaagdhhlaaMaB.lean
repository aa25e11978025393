/- Memory: what Store answers. -/
import Derived.Test.YtadkiiaagdhhlaaMaA
set_option linter.unusedVariables false
set_option linter.unusedSimpArgs false
set_option maxRecDepth 100000
namespace Go.Rf
open Go.Proofs
def bitN (q : Nat) : B8 := 1#8 <<< q
def byteAt8 (n : W) (i : Nat) : B8 := (n >>> (8 * i)).setWidth 8
def hN (h : B8) (F : Nat) : Nat → B8
  | 0 => h
  | i + 1 => hN h F i ||| bitN (F + i)
def bN (b : Nat → B8) (F : Nat) (n : W) : Nat → Nat → B8
  | 0 => b
  | i + 1 => updB (bN b F n i) (F + i) (byteAt8 n i)
/-- A slot with so many bytes of a number from there on. -/
def putM (x : MSl) (F k : Nat) (n : W) : MSl := ⟨hN x.h F k, bN x.b F n k, x.v⟩
def setF (f : Fra) (K : Nat) (m : MSl) : Fra := fun j => if j = K then m else f j
theorem updF_set (f : Fra) (K : Nat) (m : MSl) : updF f K m = setF f K m := updF_eq f K m
theorem setF_set (f : Fra) (K : Nat) (m m' : MSl) : setF (setF f K m) K m' = setF f K m' := by
  funext j
  unfold setF
  by_cases h : j = K <;> simp [h]
theorem setF_at (f : Fra) (K : Nat) (m : MSl) : setF f K m K = m := if_pos rfl
theorem setF_same (f : Fra) (K : Nat) : setF f K (f K) = f := by
  funext j
  unfold setF
  by_cases h : j = K <;> simp [h]
theorem jU_nat (j : W) : jU j = j.toNat := by
  show ((convB .i64 .u64 j)).toNat = _
  have : convB .i64 .u64 j = j := by
    show j.signExtend 64 = j
    exact BitVec.signExtend_eq j
  rw [this]
  rfl
theorem bit8_eq {a : W} {q : Nat} (h : a.toNat = q) : bit8 a = bitN q := by unfold bit8 bitN; rw [jU_nat, h]
theorem byteN_eq (n : W) {i : Nat} (hi : i < 8) : byteN n (BitVec.ofNat 64 i) = byteAt8 n i := by
  unfold byteN byteAt8
  have e : (8#64 * BitVec.ofNat 64 i).toNat = 8 * i := by
    have e8 : (8#64 : W).toNat = 8 := rfl
    rw [BitVec.toNat_mul, ofNat_toNat (i := i) (by omega), e8]
    omega
  rw [jU_nat, e]
  rfl
def soAt (f : Fra) (o s : W) (v : Val) (F : Nat) (i : Nat) : SoS := ⟨setF f (kO o) (putM (f (kO o)) F i v.n), v, o, s, BitVec.ofNat 64 i⟩
theorem soRun {f : Fra} {o s : W} {v : Val} (h : PlaceOk o s) : (soS f o s v).rf = setF f (kO o) (putM (f (kO o)) (fO o) s.toNat v.n) := by
  have h3 := size_nat h.s4
  have hk : fO o + s.toNat ≤ 8 := h.room
  have hm : (soS f o s v).mu = s.toNat := by
    show s.toNat - (0#64 : W).toNat = _
    have z : (0#64 : W).toNat = 0 := rfl
    omega
  have er : (soS f o s v).run = runN SoS.lt SoS.nxt s.toNat (soS f o s v) := by
    unfold SoS.run
    rw [runN_ge SoS.dec 8 _ (soS_inv h) (by rw [hm]; omega), hm]
  have e0 : soS f o s v = soAt f o s v (fO o) 0 := by
    unfold soS soAt
    have : putM (f (kO o)) (fO o) 0 v.n = f (kO o) := rfl
    rw [this, setF_same]
  unfold SoS.rf
  rw [er, e0]
  have := runN_count (go := SoS.lt) (next := SoS.nxt) (soAt f o s v (fO o)) s.toNat
    (fun i hi => by
      show ltB .i64 (BitVec.ofNat 64 i) s = _
      rw [ltB_nat (by rw [ofNat_toNat (by omega)]; omega) (by omega), ofNat_toNat (by omega)])
    (fun i hi => by
      have hat : (soAt f o s v (fO o) i).at_.toNat = fO o + i := by
        show (remI o 8#64 + BitVec.ofNat 64 i).toNat = _
        rw [BitVec.toNat_add, h.rem, ofNat_toNat (by omega)]
        unfold fO
        omega
      unfold SoS.nxt SoS.f2 SoS.f1
      rw [bit8_eq hat, ixN_nat (by rw [hat]; omega), hat]
      unfold soAt
      simp only [updF_set, setF_at, setF_set, ofNat_succ, byteN_eq v.n (show i < 8 by omega)]
      rfl)
  rw [this]
  rfl
theorem or_add : ∀ q, q < 8 → ∀ h : B8, (if (!h.getLsbD q) = true then h + bitN q else h) = h ||| bitN q :=
  lt8 (by refine ⟨?_, ?_, ?_, ?_, ?_, ?_, ?_, ?_⟩ <;> decide +kernel)
def seAt (x : MSl) (o s : W) (v : Val) (F : Nat) (i : Nat) : SeS := ⟨putM x F i v.n, v.n >>> (8 * i), o, s, BitVec.ofNat 64 i⟩
theorem lowB_eq (n : W) (i : Nat) : lowB (n >>> (8 * i)) = byteAt8 n i := by
  unfold lowB byteAt8
  show ((n >>> (8 * i)) % 256#64).setWidth 8 = _
  apply BitVec.eq_of_toNat_eq
  rw [BitVec.toNat_setWidth, BitVec.toNat_setWidth, BitVec.toNat_umod]
  have : (256#64 : W).toNat = 256 := rfl
  rw [this]
  omega
theorem highW_eq (n : W) (i : Nat) : highW (n >>> (8 * i)) = n >>> (8 * (i + 1)) := by
  unfold highW
  show (n >>> (8 * i)) / 256#64 = _
  apply BitVec.eq_of_toNat_eq
  rw [BitVec.toNat_udiv, BitVec.toNat_ushiftRight, BitVec.toNat_ushiftRight]
  have : (256#64 : W).toNat = 256 := rfl
  rw [this, Nat.shiftRight_eq_div_pow, Nat.shiftRight_eq_div_pow, Nat.mul_succ, Nat.pow_add, Nat.div_div_eq_div_mul]
theorem seRun {x : MSl} {o s : W} {v : Val} (h : PlaceOk o s) : seM x o s v = putM x (fO o) s.toNat v.n := by
  have h3 := size_nat h.s4
  have hk : fO o + s.toNat ≤ 8 := h.room
  have hm : (seS x o s v).mu = s.toNat := by
    show s.toNat - (0#64 : W).toNat = _
    have z : (0#64 : W).toNat = 0 := rfl
    omega
  have er : (seS x o s v).run = runN SeS.lt SeS.nxt s.toNat (seS x o s v) := by
    unfold SeS.run
    rw [runN_ge SeS.dec 8 _ (seS_inv h) (by rw [hm]; omega), hm]
  have e0 : seS x o s v = seAt x o s v (fO o) 0 := by
    unfold seS seAt
    have e1 : putM x (fO o) 0 v.n = x := rfl
    rw [e1]
    simp
  unfold seM SeS.rh SeS.rb
  rw [er, e0]
  have := runN_count (go := SeS.lt) (next := SeS.nxt) (seAt x o s v (fO o)) s.toNat
    (fun i hi => by
      show ltB .i64 (BitVec.ofNat 64 i) s = _
      rw [ltB_nat (by rw [ofNat_toNat (by omega)]; omega) (by omega), ofNat_toNat (by omega)])
    (fun i hi => by
      have hat : (seAt x o s v (fO o) i).at_.toNat = fO o + i := by
        show (remI o 8#64 + BitVec.ofNat 64 i).toNat = _
        rw [BitVec.toNat_add, h.rem, ofNat_toNat (by omega)]
        unfold fO
        omega
      unfold SeS.nxt SeS.c SeS.nA SeS.nB
      rw [bit8_eq hat, ixN_nat (by rw [hat]; omega), hat, has_at _ hat (by omega)]
      have ho := or_add (fO o + i) (by omega) (seAt x o s v (fO o) i).x.h
      have l : lowB (seAt x o s v (fO o) i).n = byteAt8 v.n i := lowB_eq v.n i
      have g : highW (seAt x o s v (fO o) i).n = v.n >>> (8 * (i + 1)) := highW_eq v.n i
      rw [l, g]
      have key : ∀ (c : Bool) (y z : B8) (b : Nat → B8) (vv : Val) (n' : W) (jj : W), (if c = true then (⟨⟨y, b, vv⟩, n', o, s, jj⟩ : SeS) else ⟨⟨z, b, vv⟩, n', o, s, jj⟩) = ⟨⟨if c = true then y else z, b, vv⟩, n', o, s, jj⟩ := by
        intro c y z b vv n' jj; cases c <;> rfl
      have e2 : (seAt x o s v (fO o) i).o = o ∧ (seAt x o s v (fO o) i).s = s := ⟨rfl, rfl⟩
      rw [e2.1, e2.2, key, ho]
      unfold seAt
      simp only [ofNat_succ]
      rfl)
  rw [this]
  rfl
def baseM (x : MSl) : MSl := bif addrV x.v then nilM else x
def storeF (f : Fra) (o s : W) (v : Val) : Fra :=
  bif cS f v s then zF else bif v.k == 0#8 then zF else bif cP o s then zF else bif addrV v then (bif s != 8#64 then zF else setF f (kO o) (adM v)) else setF f (kO o) (putM (baseM (slotAt f o)) (fO o) s.toNat v.n)
def storeE (f : Fra) (o s : W) (v : Val) : W :=
  bif cS f v s then 1#64 else bif v.k == 0#8 then 40#64 else bif cP o s then placeW o s else bif addrV v then (bif s != 8#64 then 41#64 else 0#64) else 0#64
theorem st_eq (f : Fra) (o s : W) (v : Val) : stF f o s v = storeF f o s v ∧ stE f o s v = storeE f o s v ∧ stDF f o s v = storeF f o s v ∧ stDE f o s v = storeE f o s v := by
  unfold stF stE stDF stDE storeF storeE
  simp only [muxF_eq, updF_set]
  cases hA : cS f v s with
  | true => simp
  | false =>
    cases h0 : (v.k == 0#8) with
    | true => simp
    | false =>
      cases hP : cP o s with
      | true => simp
      | false =>
        have hc := not_cS (f := f) (v := v) (s := s) (by rw [hA]; rfl)
        have h := place_ok hc.2.2 (not_cP (by rw [hP]; rfl))
        rw [addr_same hc.2.1, lt8_ne hc.2.2, addr_same (right_val (slot_right hc.1 h)), soRun h, soRun h, seRun h, seRun h, setF_set, setF_at]
        unfold baseM
        have e : f (kO o) = slotAt f o := rfl
        rw [e]
        cases addrV v <;> cases (s != 8#64) <;> cases addrV (slotAt f o).v <;> simp
noncomputable def stRes (f : Fra) (o s : W) (v : Val) : AV := pair (eFra (storeF f o s v)) (eI (storeE f o s v))
theorem k17 : ConOk Try.prog 17 (con4 cFra cI cI cVal stRes) :=
  (show (con4 cFra cI cI cVal fun f o s v => pair (eFra (stF f o s v)) (eI (stE f o s v))) = con4 cFra cI cI cVal stRes from congrArg _ (by funext f o s v; unfold stRes; rw [(st_eq f o s v).1, (st_eq f o s v).2.1])) ▸ kk17
theorem k18 : ConOk Try.prog 18 (con4 cFra cI cI cVal stRes) :=
  (show (con4 cFra cI cI cVal fun f o s v => pair (eFra (stDF f o s v)) (eI (stDE f o s v))) = con4 cFra cI cI cVal stRes from congrArg _ (by funext f o s v; unfold stRes; rw [(st_eq f o s v).2.2.1, (st_eq f o s v).2.2.2])) ▸ kk18
noncomputable def ma7 : List (FuncId × Con) := (17, con4 cFra cI cI cVal stRes) :: (18, con4 cFra cI cI cVal stRes) :: ma6
theorem rma7 : TabOk Try.prog (tabOf ma7) := tabOf_cons (tabOf_cons rma6 k18) k17
end Go.Rf
