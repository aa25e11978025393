/- Memory: data and codes; what leaves answer. -/
import Derived.Test.YtadkiiaagdhhlaaRfG
set_option linter.unusedVariables false
set_option linter.unusedSimpArgs false
namespace Go.Rf

abbrev B8 := BitVec 8
def fB8 : FCod B8 := FCod.bv .u8
def cB8 : Cod B8 := fB8.one
def eB8 (x : B8) : AV := cB8.enc x

structure Val where
  k : B8
  m : W
  n : W
  o : W
def fVal : FCod Val := FCod.aggR (FCod.consR fB8 (FCod.consR fI (FCod.consR fW (FCod.consR fI FCod.nilR)))) (fun x => ⟨x.1, x.2.1, x.2.2.1, x.2.2.2.1⟩) (fun g => (g.k, g.m, g.n, g.o, ())) (fun _ => rfl)
def cVal : Cod Val := fVal.one
def eVal (x : Val) : AV := cVal.enc x
/-- A slot of a frame. -/
structure MSl where
  h : B8
  b : Nat → B8
  v : Val
def fMSl : FCod MSl := FCod.aggR (FCod.consR fB8 (FCod.consR (fB8.arrF 8) (FCod.consR fVal FCod.nilR))) (fun x => ⟨x.1, x.2.1, x.2.2.1⟩) (fun g => (g.h, g.b, g.v, ())) (fun _ => rfl)
def cMSl : Cod MSl := Cod.agg3 cB8 (fB8.arr 8) cVal MSl.mk MSl.h MSl.b MSl.v (fun _ _ _ => rfl) (fun _ _ _ => rfl) (fun _ _ _ => rfl)
def eMSl (x : MSl) : AV := cMSl.enc x
abbrev Fra := Nat → MSl
def cFra : Cod Fra := fMSl.arr 64
def eFra (x : Fra) : AV := cFra.enc x
def cBy : Cod (Nat → B8) := fB8.arr 8

theorem leI (x y : W) : leB .i64 x y = decide (x.toInt ≤ y.toInt) := rfl
theorem leU (x y : W) : leB .u64 x y = decide (x.toNat ≤ y.toNat) := rfl
theorem ltU (x y : W) : ltB .u64 x y = decide (x.toNat < y.toNat) := rfl
theorem ltI (x y : W) : ltB .i64 x y = decide (x.toInt < y.toInt) := rfl
theorem leI_lt (x y : W) : leB .i64 x y = !ltB .i64 y x := by
  rw [leI, ltI, Bool.eq_iff_iff]; simp
theorem leU_lt (x y : W) : leB .u64 x y = !ltB .u64 y x := by
  rw [leU, ltU, Bool.eq_iff_iff]; simp

theorem nat_of_int {n : W} (h0 : 0 ≤ n.toInt) : n.toInt = n.toNat := by
  rw [BitVec.toInt_eq_toNat_cond] at h0 ⊢
  split <;> rename_i h
  · rfl
  · rw [if_neg h] at h0
    have := n.isLt
    omega
def sw2 {α : Type} (c d : Bool) (b r : α) : α := bif c then (bif c then b else r) else (bif d then b else r)
def sw3 {α : Type} (c d e : Bool) (b r : α) : α := bif c then (bif c then b else r) else bif d then (bif d then b else r) else (bif e then b else r)
def shr8 (x : B8) (n : Nat) : B8 := shrB .u8 x n
def rem8 (x y : B8) : B8 := remB .u8 x y
def jI (j : W) : Nat := amt .i64 j
def jU (j : W) : Nat := amt .u64 (convB .i64 .u64 j)
def addrV (v : Val) : Bool := v.k != 0#8 && v.k != 1#8
def addrD (v : Val) : Bool := leB .u8 2#8 v.k && leB .u8 v.k 6#8
def hasM (x : MSl) (j : W) : Bool := rem8 (shr8 x.h (jU j)) 2#8 == 1#8
def mayV (v : Val) : Bool :=
  bif v.k == 0#8 then v.m == 0#64 && (v.n == 0#64 && v.o == 0#64) else bif v.k == 1#8 then v.m == 0#64 && v.o == 0#64 else
  sw3 (v.k == 2#8) (v.k == 3#8) (v.k == 4#8) (v.m == 0#64 && v.n == 0#64)
    (bif v.k == 5#8 then (bif ltB .i64 v.m 0#64 then false else v.n == 0#64 && v.o == 0#64)
      else bif v.k == 6#8 then (bif ltB .i64 v.m 0#64 || ltB .u64 v.n 1#64 then false else true) else false)
def mayVD (v : Val) : Bool :=
  bif v.k == 0#8 then v.m == 0#64 && v.n == 0#64 && v.o == 0#64 else bif v.k == 1#8 then v.m == 0#64 && v.o == 0#64 else
  sw3 (v.k == 2#8) (v.k == 3#8) (v.k == 4#8) (v.m == 0#64 && v.n == 0#64)
    (bif v.k == 5#8 then leB .i64 0#64 v.m && v.n == 0#64 && v.o == 0#64 else bif v.k == 6#8 then leB .i64 0#64 v.m && leB .u64 1#64 v.n else false)
theorem mayV_same (v : Val) : mayVD v = mayV v := by
  unfold mayVD mayV
  rw [leI_lt, leU_lt]
  cases ltB .i64 v.m 0#64 <;> cases ltB .u64 v.n 1#64 <;> simp [Bool.and_assoc]
def eqVal (a b : Val) : Bool := a.k == b.k && (a.m == b.m && (a.n == b.n && a.o == b.o))
theorem eqVal_iff {a b : Val} : eqVal a b = true ↔ a = b := by
  obtain ⟨k, m, n, o⟩ := a
  obtain ⟨k', m', n', o'⟩ := b
  simp only [eqVal, Bool.and_eq_true, beq_iff_eq, Val.mk.injEq]
theorem eqVal_self (a : Val) : eqVal a a = true := eqVal_iff.2 rfl
inductive ValOk : Val → Prop where
  | none : ValOk ⟨0#8, 0#64, 0#64, 0#64⟩
  | num (n : W) : ValOk ⟨1#8, 0#64, n, 0#64⟩
  | ctx (o : W) : ValOk ⟨2#8, 0#64, 0#64, o⟩
  | pkt (o : W) : ValOk ⟨3#8, 0#64, 0#64, o⟩
  | frame (o : W) : ValOk ⟨4#8, 0#64, 0#64, o⟩
  | ref (m : W) (hm : leB .i64 0#64 m = true) : ValOk ⟨5#8, m, 0#64, 0#64⟩
  | cell (m n o : W) (hm : leB .i64 0#64 m = true) (hn : leB .u64 1#64 n = true) : ValOk ⟨6#8, m, n, o⟩
theorem kinds (k : B8) : (k = 0#8 ∨ k = 1#8 ∨ k = 2#8 ∨ k = 3#8 ∨ k = 4#8 ∨ k = 5#8 ∨ k = 6#8 ∨ k = 7#8) ∨ 7 < k.toNat := by
  by_cases h : 7 < k.toNat
  · exact .inr h
  · left
    have e : ∀ n : Nat, n < 256 → k.toNat = n → k = BitVec.ofNat 8 n := fun n hn hk => BitVec.eq_of_toNat_eq (by rw [hk]; simp; omega)
    have : k.toNat = 0 ∨ k.toNat = 1 ∨ k.toNat = 2 ∨ k.toNat = 3 ∨ k.toNat = 4 ∨ k.toNat = 5 ∨ k.toNat = 6 ∨ k.toNat = 7 := by omega
    rcases this with c | c | c | c | c | c | c | c
    · exact .inl (e 0 (by decide) c)
    · exact .inr (.inl (e 1 (by decide) c))
    · exact .inr (.inr (.inl (e 2 (by decide) c)))
    · exact .inr (.inr (.inr (.inl (e 3 (by decide) c))))
    · exact .inr (.inr (.inr (.inr (.inl (e 4 (by decide) c)))))
    · exact .inr (.inr (.inr (.inr (.inr (.inl (e 5 (by decide) c))))))
    · exact .inr (.inr (.inr (.inr (.inr (.inr (.inl (e 6 (by decide) c)))))))
    · exact .inr (.inr (.inr (.inr (.inr (.inr (.inr (e 7 (by decide) c)))))))
theorem ne_kind {k : B8} (h : 7 < k.toNat) (c : B8) (hc : c.toNat ≤ 7) : (k == c) = false := by
  rw [beq_eq_false_iff_ne]; intro e; subst e; omega
theorem mayV_ok {v : Val} : mayV v = true ↔ ValOk v := by
  rw [← mayV_same]
  constructor
  · intro h
    obtain ⟨k, m, n, o⟩ := v
    rcases kinds k with hk | hk
    case inr =>
      simp only [mayVD, ne_kind hk 0#8 (by decide), ne_kind hk 1#8 (by decide), ne_kind hk 2#8 (by decide), ne_kind hk 3#8 (by decide), ne_kind hk 4#8 (by decide), ne_kind hk 5#8 (by decide), ne_kind hk 6#8 (by decide)] at h
      exact absurd h (by simp [sw3])
    rcases hk with rfl | rfl | rfl | rfl | rfl | rfl | rfl | rfl <;> simp [mayVD, sw3] at h
    · obtain ⟨⟨rfl, rfl⟩, rfl⟩ := h; exact .none
    · obtain ⟨rfl, rfl⟩ := h; exact .num _
    · obtain ⟨rfl, rfl⟩ := h; exact .ctx _
    · obtain ⟨rfl, rfl⟩ := h; exact .pkt _
    · obtain ⟨rfl, rfl⟩ := h; exact .frame _
    · obtain ⟨⟨h1, rfl⟩, rfl⟩ := h; exact .ref _ h1
    · exact .cell _ _ _ h.1 h.2
  · intro h
    cases h <;> simp_all [mayVD, sw3]
def nilV : Val := ⟨0#8, 0#64, 0#64, 0#64⟩
def nilM : MSl := ⟨0#8, fun _ => 0#8, nilV⟩
def and1 (x : B8) : B8 := x &&& 1#8
theorem lt8 {p : Nat → Prop} (h : p 0 ∧ p 1 ∧ p 2 ∧ p 3 ∧ p 4 ∧ p 5 ∧ p 6 ∧ p 7) : ∀ j, j < 8 → p j := by
  intro j hj
  have : j = 0 ∨ j = 1 ∨ j = 2 ∨ j = 3 ∨ j = 4 ∨ j = 5 ∨ j = 6 ∨ j = 7 := by omega
  rcases this with rfl | rfl | rfl | rfl | rfl | rfl | rfl | rfl
  · exact h.1
  · exact h.2.1
  · exact h.2.2.1
  · exact h.2.2.2.1
  · exact h.2.2.2.2.1
  · exact h.2.2.2.2.2.1
  · exact h.2.2.2.2.2.2.1
  · exact h.2.2.2.2.2.2.2
theorem bit_and1 : ∀ j, j < 8 → ∀ h : B8, (and1 (shr8 h (jU (BitVec.ofNat 64 j))) == 0#8) = !h.getLsbD j :=
  lt8 (by refine ⟨?_, ?_, ?_, ?_, ?_, ?_, ?_, ?_⟩ <;> decide +kernel)
theorem bit_hasM : ∀ j, j < 8 → ∀ h : B8, (rem8 (shr8 h (jU (BitVec.ofNat 64 j))) 2#8 == 1#8) = h.getLsbD j :=
  lt8 (by refine ⟨?_, ?_, ?_, ?_, ?_, ?_, ?_, ?_⟩ <;> decide +kernel)
/-- A slot of a frame that may be. -/
def rightS (x : MSl) : Bool :=
  bif eqVal x.v nilV then allN (fun j => x.b j == 0#8 || x.h.getLsbD j) 8 else mayV x.v && addrV x.v && x.h == 255#8 && allN (fun j => x.b j == 0#8) 8
def rightF (f : Fra) : Bool := allN (fun i => rightS (f i)) 64
theorem all_allN (p : Nat → Bool) : (List.range 8).all p = allN p 8 := by
  rw [Bool.eq_iff_iff, List.all_eq_true, allN_iff]
  simp
def emptyD (v : Val) : Bool := v.k == 0#8 && v.m == 0#64 && v.n == 0#64 && v.o == 0#64
def badV (x : MSl) : Bool := !emptyD x.v && (!mayV x.v || !addrD x.v || x.h != 255#8)
theorem emptyD_eq (v : Val) : emptyD v = eqVal v nilV := by
  unfold emptyD eqVal nilV
  simp only [Bool.and_assoc]
theorem addr_same {v : Val} (h : mayV v = true) : addrD v = addrV v := by
  have := mayV_ok.1 h
  cases this <;> rfl
theorem lt0_8 (b : B8) : ltB .u8 0#8 b = !(b == 0#8) := by
  show decide ((0#8 : B8).toNat < b.toNat) = _
  rw [Bool.eq_iff_iff, decide_eq_true_eq, Bool.not_eq_true', beq_eq_false_iff_ne, Ne, ← BitVec.toNat_inj]
  have z : (0#8 : B8).toNat = 0 := rfl
  omega
end Go.Rf
