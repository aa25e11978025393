/- Memory: the document's Load; that it is the program's. -/
import Derived.Test.YtadkiiaagdhhlaaMa5
set_option linter.unusedVariables false
set_option linter.unusedSimpArgs false
set_option maxRecDepth 100000
namespace Go.Rf
open Go.Proofs
def leS (f : Fra) (o s : W) : LeS := ⟨slotAt f o, o, s, 0#64, 0#64, 1#64, 0#64⟩
def ldDV (f : Fra) (o s : W) : Val :=
  Val.mux (cA f s) nilV (Val.mux (cP o s) nilV (Val.mux (addrD (slotAt f o).v) (Val.mux (ltB .i64 s 8#64) nilV (slotAt f o).v) (Val.mux (leS f o s).hit nilV (numV (leS f o s).an))))
def ldDE (f : Fra) (o s : W) : W :=
  bif cA f s then 1#64 else bif cP o s then placeW o s else bif addrD (slotAt f o).v then (bif ltB .i64 s 8#64 then 41#64 else 0#64) else bif (leS f o s).hit then 40#64 else 0#64
noncomputable def hLe : FuncId → Hook := fun f p => if f == 13 && p == pLe then some (lpLe.hk LeS.T) else none
theorem leS_inv {f : Fra} {o s : W} (h : PlaceOk o s) : (leS f o s).inv := by
  have h1 := h.rem
  have h2 := h.room
  unfold LeS.inv leS
  simp only
  have z : (0#64 : W).toNat = 0 := rfl
  omega
noncomputable def obLe (f : Fra) (o s : W) : List (List Bool × Prop) :=
  [([!cA f s], s ≠ 0#64), ([!cP o s, !cA f s], 0 ≤ toZ .i64 (qI o) ∧ toZ .i64 (qI o) < ((64 : Nat) : Int)), ([!cP o s, !cA f s], (toZ .i64 (qI o)).toNat < 64),
   ([!addrD (slotAt f o).v, !cP o s, !cA f s], LoopGoal Try.prog (loopAt Try.prog 13 pLe) lpLe LeS.T (leS f o s) 3 69 0)]
theorem obLe_ok (f : Fra) (o s : W) : ∀ e ∈ obLe f o s, (∀ g ∈ e.1, g = true) → e.2 := by
  intro e he hg
  simp only [obLe, List.mem_cons, List.not_mem_nil, or_false] at he
  rcases he with rfl | rfl | rfl | rfl
  · exact size_pos (not_cA (hg (!cA f s) (by simp))).2
  all_goals
    have h := place_ok (not_cA (hg (!cA f s) (by simp))).2 (not_cP (hg (!cP o s) (by simp)))
  · exact ⟨(qI_ix h).1, (qI_ix h).2.1⟩
  · exact (qI_ix h).2.2
  · exact goalLe _ (leS_inv h)
theorem a13 (f : Fra) (o s : W) : (fg (evalN Try.prog (tabOf ma5) hLe 5 13 [cFra.enc f, cI.enc o, cI.enc s])).map (·.1) = some (pair (eVal (ldDV f o s)) (eI (ldDE f o s))) := by kernel_rfl
theorem b13 (f : Fra) (o s : W) : (fg (evalN Try.prog (tabOf ma5) hLe 5 13 [cFra.enc f, cI.enc o, cI.enc s])).map (·.2) = some (obLe f o s) := by kernel_rfl
theorem kk13 : ConOk Try.prog 13 (con3 cFra cI cI fun f o s => pair (eVal (ldDV f o s)) (eI (ldDE f o s))) :=
  con3_ok rma5 (Λ := hLe) 5 (fun _ _ _ => rfl) (fun f o s => Ev.fg2 (a13 f o s) (b13 f o s) (obLe_ok f o s))

/-! What the loops come to. -/
theorem zx_nat (b : B8) : (zx b).toNat = b.toNat := by
  show ((b.setWidth 64 : W)).toNat = _
  rw [BitVec.toNat_setWidth]
  have := b.isLt
  omega
/-- The number of so many bytes from there on. -/
def valN (b : Nat → B8) : Nat → Nat → W
  | _, 0 => 0#64
  | F, k + 1 => zx (b F) + 256#64 * valN b (F + 1) k
theorem mulsh (n : W) : n * 256#64 = n <<< 8 := by
  apply BitVec.eq_of_toNat_eq
  rw [BitVec.toNat_mul, BitVec.toNat_shiftLeft, Nat.shiftLeft_eq]
  rfl
theorem f1_eq (n : W) (b : B8) : f1 n b = 256#64 * n + zx b := by
  unfold f1
  have e : amt .u64 8#64 = 8 := by decide
  rw [e, BitVec.mul_comm, mulsh]
  symm
  apply BitVec.add_eq_or_of_and_eq_zero
  apply BitVec.eq_of_getLsbD_eq
  intro i hi
  rw [BitVec.getLsbD_and, BitVec.getLsbD_zero, BitVec.getLsbD_shiftLeft]
  by_cases h8 : i < 8
  · simp [h8]
  · have : (zx b).getLsbD i = false := by
      show (b.setWidth 64 : W).getLsbD i = false
      rw [BitVec.getLsbD_setWidth, BitVec.getLsbD_of_ge b i (by omega), Bool.and_false]
    rw [this, Bool.and_false]
/-- Whether these bits are set. -/
def hasAll (x : MSl) (F k : Nat) : Bool := allN (fun i => x.h.getLsbD (F + i)) k
theorem bit_at (h : B8) {j : W} {i : Nat} (hj : j.toNat = i) (hi : i < 8) : (and1 (shr8 h (jU j)) == 0#8) = !h.getLsbD i := by
  have : j = BitVec.ofNat 64 i := BitVec.eq_of_toNat_eq (by rw [hj, ofNat_toNat (by omega)])
  rw [this]
  exact bit_and1 i hi h
theorem has_at (x : MSl) {j : W} {i : Nat} (hj : j.toNat = i) (hi : i < 8) : hasM x j = x.h.getLsbD i := by
  have : j = BitVec.ofNat 64 i := BitVec.eq_of_toNat_eq (by rw [hj, ofNat_toNat (by omega)])
  rw [this]
  exact bit_hasM i hi x.h

/-- The program's, round i. -/
def ldAt (x : MSl) (F k : Nat) (fr : W) (e : W) (i : Nat) : LdS := ⟨x, fr, BitVec.ofInt 64 (F + k - 1 - i : Int), valN x.b (F + k - i) i, e⟩
theorem ofInt_Int {z : Int} (h1 : -(2 ^ 63) ≤ z) (h2 : z < 2 ^ 63) : (BitVec.ofInt 64 z).toInt = z := by
  rw [BitVec.toInt_ofInt, Int.bmod_def]
  omega
theorem ldRun (x : MSl) (F k : Nat) (fr e : W) (hfr : fr.toNat = F) (hk : F + k ≤ 8) :
    (runN LdS.go LdS.nxt k (ldAt x F k fr e 0)).lt = !hasAll x F k ∧ (hasAll x F k = true → (runN LdS.go LdS.nxt k (ldAt x F k fr e 0)).n = valN x.b F k) := by
  have hfrI : fr.toInt = F := by rw [toInt_small (by omega), hfr]
  have jI : ∀ i, i ≤ k → (BitVec.ofInt 64 (F + k - 1 - i : Int)).toInt = F + k - 1 - i := fun i hi => ofInt_Int (by omega) (by omega)
  have jN : ∀ i, i < k → (BitVec.ofInt 64 (F + k - 1 - i : Int)).toNat = F + k - 1 - i := fun i hi => by
    have := nat_of_int (n := BitVec.ofInt 64 (F + k - 1 - i : Int)) (by rw [jI i (by omega)]; omega)
    rw [jI i (by omega)] at this
    omega
  have hlt : ∀ i, i ≤ k → (ldAt x F k fr e i).lt = decide (i < k) := by
    intro i hi
    rw [Bool.eq_iff_iff, LdS.lt_iff, decide_eq_true_eq]
    show fr.toInt ≤ (BitVec.ofInt 64 (F + k - 1 - i : Int)).toInt ↔ _
    rw [jI i hi, hfrI]
    omega
  have hbd : ∀ i, i < k → (ldAt x F k fr e i).bd = !x.h.getLsbD (F + k - 1 - i) := fun i hi => bit_at x.h (jN i hi) (by omega)
  have hall : hasAll x F k = true ↔ ∀ i, i < k → x.h.getLsbD (F + k - 1 - i) = true := by
    unfold hasAll
    rw [allN_iff]
    constructor
    · intro h i hi
      have := h (k - 1 - i) (by omega)
      rwa [show F + (k - 1 - i) = F + k - 1 - i by omega] at this
    · intro h i hi
      have := h (k - 1 - i) (by omega)
      rwa [show F + k - 1 - (k - 1 - i) = F + i by omega] at this
  have hnext : ∀ i, i < k → (ldAt x F k fr e i).nxt = ldAt x F k fr e (i + 1) := by
    intro i hi
    unfold LdS.nxt ldAt
    simp only [LdS.mk.injEq, true_and, and_true]
    constructor
    · apply BitVec.eq_of_toInt_eq
      rw [predZ (by rw [jI i (by omega)]; omega), jI i (by omega)]
      have := jI (i + 1) (by omega)
      rw [show ((i + 1 : Nat) : Int) = i + 1 by omega] at this
      rw [show (F + k - 1 - ((i + 1 : Nat) : Int)) = F + k - 1 - (i + 1 : Int) by omega, this]
      omega
    · rw [ixN_nat (by rw [jN i hi]; omega), jN i hi, f1_eq]
      rw [show F + k - i = (F + k - (i + 1)) + 1 by omega, show F + k - 1 - i = F + k - (i + 1) by omega]
      rw [valN, BitVec.add_comm]
  rcases runN_find (go := LdS.go) (next := LdS.nxt) (ldAt x F k fr e) (fun i => !x.h.getLsbD (F + k - 1 - i)) k (fun i hi => by
      unfold LdS.go
      rw [hlt i hi]
      by_cases h : i < k
      · rw [hbd i h]
      · simp [h]) (fun i hi _ => hnext i hi) k 0 (by omega) with ⟨j, _, hj, hb, e'⟩ | ⟨hb, e'⟩
  · rw [e', hlt j (by omega), decide_eq_true hj]
    have : hasAll x F k = false := by
      rw [Bool.eq_false_iff]
      intro h
      have := hall.1 h j hj
      rw [this] at hb
      cases hb
    rw [this]
    exact ⟨rfl, fun h => absurd h (by decide)⟩
  · rw [e', hlt k (Nat.le_refl _), decide_eq_false (by omega)]
    have : hasAll x F k = true := hall.2 fun i hi => by
      have := hb i (Nat.zero_le _) hi
      simpa using this
    rw [this]
    refine ⟨rfl, fun _ => ?_⟩
    show valN x.b (F + k - k) k = _
    rw [Nat.add_sub_cancel]

/-- The document's, round i. -/
def powN : Nat → W
  | 0 => 1#64
  | i + 1 => powN i * 256#64
theorem valN_up (b : Nat → B8) : ∀ (i F : Nat), valN b F (i + 1) = valN b F i + powN i * zx (b (F + i))
  | 0, F => by simp [valN, powN]
  | i + 1, F => by
    rw [valN, valN_up b i (F + 1), valN, BitVec.mul_add, ← BitVec.add_assoc]
    congr 1
    rw [show F + 1 + i = F + (i + 1) by omega, powN, ← BitVec.mul_assoc, BitVec.mul_comm 256#64 (powN i)]
def leAt (x : MSl) (o s : W) (F : Nat) (e : W) (i : Nat) : LeS := ⟨x, o, s, BitVec.ofNat 64 i, valN x.b F i, powN i, e⟩
theorem leRun (x : MSl) (o s : W) (F k : Nat) (e : W) (ho : (remI o 8#64).toNat = F) (hs : s.toNat = k) (hk : F + k ≤ 8) :
    (runN LeS.go LeS.nxt k (leAt x o s F e 0)).lt = !hasAll x F k ∧ (hasAll x F k = true → (runN LeS.go LeS.nxt k (leAt x o s F e 0)).n = valN x.b F k) := by
  have hat : ∀ i, i ≤ k → (leAt x o s F e i).at_.toNat = F + i := by
    intro i hi
    show (remI o 8#64 + BitVec.ofNat 64 i).toNat = _
    rw [BitVec.toNat_add, ho, ofNat_toNat (by omega)]
    omega
  have hlt : ∀ i, i ≤ k → (leAt x o s F e i).lt = decide (i < k) := by
    intro i hi
    show ltB .i64 (BitVec.ofNat 64 i) s = _
    rw [ltB_nat (by rw [ofNat_toNat (by omega)]; omega) (by omega), ofNat_toNat (by omega), hs]
  have hbd : ∀ i, i < k → (leAt x o s F e i).bd = !x.h.getLsbD (F + i) := fun i hi => by
    unfold LeS.bd
    rw [has_at _ (hat i (by omega)) (by omega)]; rfl
  have hnext : ∀ i, i < k → (leAt x o s F e i).nxt = leAt x o s F e (i + 1) := by
    intro i hi
    unfold LeS.nxt
    rw [ixN_nat (by rw [hat i (by omega)]; omega), hat i (by omega)]
    unfold leAt
    simp only [LeS.mk.injEq, true_and, and_true, ofNat_succ, powN]
    exact (valN_up x.b i F).symm
  rcases runN_find (go := LeS.go) (next := LeS.nxt) (leAt x o s F e) (fun i => !x.h.getLsbD (F + i)) k (fun i hi => by
      unfold LeS.go
      rw [hlt i hi]
      by_cases h : i < k
      · rw [hbd i h]
      · simp [h]) (fun i hi _ => hnext i hi) k 0 (by omega) with ⟨j, _, hj, hb, e'⟩ | ⟨hb, e'⟩
  · rw [e', hlt j (by omega), decide_eq_true hj]
    have : hasAll x F k = false := by
      rw [Bool.eq_false_iff]
      intro h
      have := (allN_iff.1 h) j hj
      rw [this] at hb
      cases hb
    rw [this]
    exact ⟨rfl, fun h => absurd h (by decide)⟩
  · rw [e', hlt k (Nat.le_refl _), decide_eq_false (by omega)]
    have : hasAll x F k = true := allN_iff.2 fun i hi => by
      have := hb i (Nat.zero_le _) hi
      simpa using this
    rw [this]
    exact ⟨rfl, fun _ => rfl⟩
end Go.Rf
