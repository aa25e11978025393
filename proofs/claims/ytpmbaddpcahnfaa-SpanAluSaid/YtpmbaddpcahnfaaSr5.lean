/- Spans: of one number each. -/
import Derived.Test.YtpmbaddpcahnfaaSp8
set_option linter.unusedVariables false
set_option linter.unusedSimpArgs false
namespace Go.Rf
open Go.Proofs

variable {n t : W} {x y : W}
theorem shWide_one (h : Wd n t) : shWide (ofS y) n = false := by
  have hn := h.n64
  unfold shWide ofS
  have hu : (toUS n).toNat = n.toNat := by
    unfold toUS
    show ((n.signExtend 64 : W)).toNat = _
    rw [BitVec.signExtend_eq]
  have z : (y - y).toNat = 0 := by rw [BitVec.sub_self]; rfl
  rw [leU, hu, ltI, Bool.or_eq_false_iff, decide_eq_false_iff_not, decide_eq_false_iff_not]
  exact ⟨by show ¬ n.toNat ≤ (y - y).toNat; omega, by show ¬ (shC y n).toInt < (shC y n).toInt; omega⟩

/-- One number, or all of them. -/
def OneOf (op : W) (s : Sp) (t : W) : Prop := s.lo = s.hi ∨ ((op = 2#64 ∨ op = 6#64) ∧ s = ⟨0, t⟩)

theorem core_one (h : Wd n t) {op : W} (hop : isOp op) : OneOf op (core op (ofS x) (ofS y) n t) t := by
  have mx : mayS (ofS x) = true := mayS_iff.2 (Nat.le_refl _)
  have my : mayS (ofS y) = true := mayS_iff.2 (Nat.le_refl _)
  have only : ∀ {u v : W}, memS (ofS u) v → v = u := fun {u v} hv => BitVec.eq_of_toNat_eq (by have := hv.1; have := hv.2; simp only [ofS] at *; omega)
  have two : ∀ {f : W → W → W} {l m : W}, Least (ofS x) (ofS y) f l → Most (ofS x) (ofS y) f m → l = m := by
    intro f l m hl hm
    obtain ⟨u, v, hu, hv, e⟩ := hl.2
    obtain ⟨u', v', hu', hv', e'⟩ := hm.2
    rw [e, e', only hu, only hv, only hu', only hv']
  rcases hop with rfl | rfl | rfl | rfl | rfl | rfl | rfl | rfl | rfl | rfl | rfl | rfl | rfl
  · left
    show (sumS (ofS x) (ofS y) t).lo = (sumS (ofS x) (ofS y) t).hi
    have : sumBad (ofS x) (ofS y) t = false := by simp [sumBad, ofS]
    unfold sumS; rw [this]; rfl
  · left
    show (lessS (ofS x) (ofS y) t).lo = (lessS (ofS x) (ofS y) t).hi
    have : lessBad (ofS x) (ofS y) = false := by simp [lessBad, ofS]
    unfold lessS; rw [this]; rfl
  · show OneOf 2#64 (mulS (ofS x) (ofS y) t) t
    unfold mulS
    cases (ltB .u64 0#64 (mulHi (ofS x).hi (ofS y).hi) || ltB .u64 t ((ofS x).hi * (ofS y).hi)) with
    | true => exact .inr ⟨.inl rfl, rfl⟩
    | false => exact .inl rfl
  · left
    show (partsS (ofS x) (ofS y)).lo = (partsS (ofS x) (ofS y)).hi
    unfold partsS ofS
    cases hy : (y == 0#64) with
    | true => rfl
    | false => rfl
  · exact .inl (two (leastOr_least mx my) (mostOr_most mx my))
  · exact .inl (two (leastAnd_least mx my) (mostAnd_most mx my))
  · show OneOf 6#64 (shiftS 6#64 (ofS x) (ofS y) n t) t
    unfold shiftS
    rw [shWide_one h]
    show OneOf 6#64 (Sp.mux (ltB .u64 (shI t (shC y n)) x) ⟨0, t⟩ ⟨x <<< amt .i64 (shC y n), x <<< amt .i64 (shC y n)⟩) t
    cases ltB .u64 (shI t (shC y n)) x with
    | true => exact .inr ⟨.inr rfl, rfl⟩
    | false => exact .inl rfl
  · left
    show (shiftS 7#64 (ofS x) (ofS y) n t).lo = (shiftS 7#64 (ofS x) (ofS y) n t).hi
    unfold shiftS
    rw [shWide_one h]
    rfl
  · left
    show (lessS (ofS 0#64) (ofS x) t).lo = (lessS (ofS 0#64) (ofS x) t).hi
    have : lessBad (ofS 0#64) (ofS x) = false := by simp [lessBad, ofS]
    unfold lessS; rw [this]; rfl
  · left
    show (restS (ofS x) (ofS y)).lo = (restS (ofS x) (ofS y)).hi
    have : restC2 (ofS x) (ofS y) = true := by simp [restC2, ofS]
    unfold restS
    rw [this]; rfl
  · exact .inl (two (leastXor_least mx my) (mostXor_most mx my))
  · exact .inl rfl
  · left
    show (shiftS 12#64 (ofS x) (ofS y) n t).lo = (shiftS 12#64 (ofS x) (ofS y) n t).hi
    unfold shiftS
    rw [shWide_one h]
    show (Sp.mux (ltB .u64 x (signOf t)) ⟨shI x (shC y n), shI x (shC y n)⟩ (Sp.mux (ltB .u64 x (signOf t)) ⟨shI x (shC y n), drw x (shC y n) t⟩ ⟨drw x (shC y n) t, drw x (shC y n) t⟩)).lo = _
    cases hs : ltB .u64 x (signOf t) with
    | true => show shI x (shC y n) = (Sp.mux (ltB .u64 x (signOf t)) ⟨shI x (shC y n), shI x (shC y n)⟩ _).hi; rw [hs]; rfl
    | false => show drw x (shC y n) t = (Sp.mux (ltB .u64 x (signOf t)) _ (Sp.mux (ltB .u64 x (signOf t)) _ ⟨drw x (shC y n) t, drw x (shC y n) t⟩)).hi; rw [hs]; rfl

theorem cut_one (x : W) : cutS (ofS x) 32#64 = ofS (x &&& t32) := by
  have e : cutN 32#64 = 32#64 := by decide
  have et : topK 32#64 = t32 := by rw [topK_eq (by decide)]; decide
  have m : mayS (ofS x) = true := mayS_iff.2 (Nat.le_refl _)
  unfold cutS
  rw [m, e, et]
  have : (shI (ofS x).lo 32#64 != shI (ofS x).hi 32#64) = false := by simp [ofS]
  rw [this]
  rfl

theorem alu_one {op : W} (hop : isOp op) (w : Bool) (x y : W) : aluS op w (ofS x) (ofS y) = ofS (oneR op w x y) ∨ ((op = 2#64 ∨ op = 6#64) ∧ aluS op w (ofS x) (ofS y) = ⟨0, bif w then t64 else t32⟩) := by
  have mx : mayS (ofS x) = true := mayS_iff.2 (Nat.le_refl _)
  have my : mayS (ofS y) = true := mayS_iff.2 (Nat.le_refl _)
  have hok := alu_ok hop w mx my (X := x) (Y := y) ⟨Nat.le_refl _, Nat.le_refl _⟩ ⟨Nat.le_refl _, Nat.le_refl _⟩
  have h1 : OneOf op (aluS op w (ofS x) (ofS y)) (bif w then t64 else t32) := by
    unfold aluS
    cases w with
    | true => exact core_one wd64 hop
    | false =>
      show OneOf op (core op (cutS (ofS x) 32#64) (cutS (ofS y) 32#64) 32#64 t32) t32
      rw [cut_one, cut_one]
      exact core_one wd32 hop
  rcases h1 with h1 | h1
  · left
    obtain ⟨⟨k1, k2⟩, _⟩ := hok
    rw [← h1] at k2
    have e : (aluS op w (ofS x) (ofS y)).lo = oneR op w x y := BitVec.eq_of_toNat_eq (by omega)
    have e2 : aluS op w (ofS x) (ofS y) = ⟨(aluS op w (ofS x) (ofS y)).lo, (aluS op w (ofS x) (ofS y)).hi⟩ := rfl
    rw [e2, ← h1, e]; rfl
  · exact .inr h1

def both' (a b : Sp) (x : W) : Bool := hasS a x && hasS b x
def eith (a b : Sp) (x : W) : Bool := hasS a x || hasS b x
def offG (g : Gv) : Bool := ltB .i64 g.op 0#64 || ltB .i64 12#64 g.op
def errO (g : Gv) : W := bif aluBad g.op (ofS g.x) (ofS g.y) then 1#64 else 0#64
def resO (g : Gv) : Sp := Sp.mux (aluBad g.op (ofS g.x) (ofS g.y)) nilS (aluS g.op g.w (ofS g.x) (ofS g.y))
def excO (g : Gv) : Bool := (g.op != 2#64 && g.op != 6#64) || (resO g).lo != 0#64 || ((resO g).hi + 1#64 != 0#64 && (resO g).hi != 4294967295#64)
def oneG (g : Gv) : Bool :=
  bif offG g then errO g == 1#64 && true
  else bif errO g != 0#64 || (!eqS (resO g) (ofS (oneR g.op g.w g.x g.y)) && excO g) then false
  else (both' g.a g.b g.x == ((bif noMeetS g.a g.b then false else true) && hasS (Sp.mux (noMeetS g.a g.b) nilS (meetS g.a g.b)) g.x)) &&
    (!eith g.a g.b g.x || hasS (joinS g.a g.b) g.x) && true

theorem meet_has (a b : Sp) (x : W) : both' a b x = ((bif noMeetS a b then false else true) && hasS (Sp.mux (noMeetS a b) nilS (meetS a b)) x) := by
  have key : both' a b x = true ↔ noMeetS a b = false ∧ hasS (meetS a b) x = true := by
    unfold both'
    rw [Bool.and_eq_true, hasS_iff, hasS_iff, hasS_iff]
    simp only [noMeetS, mayS, leU, meetS, maxU_nat, minU_nat, Bool.or_eq_false_iff, Bool.not_eq_false', decide_eq_true_eq]
    omega
  cases hn : noMeetS a b with
  | true =>
    show both' a b x = (false && _)
    cases hb : both' a b x with
    | false => rfl
    | true => rw [(key.1 hb).1] at hn; cases hn
  | false =>
    show both' a b x = (true && hasS (meetS a b) x)
    rw [Bool.true_and, Bool.eq_iff_iff, key, hn]
    simp
theorem join_has (a b : Sp) (x : W) : (!eith a b x || hasS (joinS a b) x) = true := by
  cases h : eith a b x with
  | false => rfl
  | true =>
    show hasS (joinS a b) x = true
    unfold eith at h
    rw [Bool.or_eq_true, hasS_iff, hasS_iff] at h
    unfold joinS
    cases ha : mayS a <;> cases hb : mayS b
    · exfalso
      have n1 : ¬ a.lo.toNat ≤ a.hi.toNat := fun e => by rw [mayS_iff.2 e] at ha; cases ha
      have n2 : ¬ b.lo.toNat ≤ b.hi.toNat := fun e => by rw [mayS_iff.2 e] at hb; cases hb
      omega
    · have n1 : ¬ a.lo.toNat ≤ a.hi.toNat := fun e => by rw [mayS_iff.2 e] at ha; cases ha
      show hasS b x = true
      rw [hasS_iff]; omega
    · have n2 : ¬ b.lo.toNat ≤ b.hi.toNat := fun e => by rw [mayS_iff.2 e] at hb; cases hb
      show hasS a x = true
      rw [hasS_iff]; omega
    · show hasS ⟨minU a.lo b.lo, maxU a.hi b.hi⟩ x = true
      rw [hasS_iff]
      show (minU a.lo b.lo).toNat ≤ _ ∧ _ ≤ (maxU a.hi b.hi).toNat
      rw [minU_nat, maxU_nat]; omega

theorem oneG_true (g : Gv) : oneG g = true := by
  have mx : mayS (ofS g.x) = true := mayS_iff.2 (Nat.le_refl _)
  have my : mayS (ofS g.y) = true := mayS_iff.2 (Nat.le_refl _)
  have eb : aluBad g.op (ofS g.x) (ofS g.y) = offG g := by
    unfold aluBad offG
    rw [mx, my]; simp
  unfold oneG
  cases ho : offG g with
  | true =>
    unfold errO; rw [eb, ho]; rfl
  | false =>
    have hop : isOp g.op := by
      unfold offG at ho
      rw [Bool.or_eq_false_iff] at ho
      exact good_op ho.1 ho.2
    have e0 : errO g = 0#64 := by unfold errO; rw [eb, ho]; rfl
    have er : resO g = aluS g.op g.w (ofS g.x) (ofS g.y) := by unfold resO; rw [eb, ho]; rfl
    have e1 : (!eqS (resO g) (ofS (oneR g.op g.w g.x g.y)) && excO g) = false := by
      rcases alu_one hop g.w g.x g.y with h | ⟨h1, h2⟩
      · rw [er, h, eqS_self]; rfl
      · have : excO g = false := by
          unfold excO
          rw [er, h2]
          have a1 : (g.op != 2#64 && g.op != 6#64) = false := by rcases h1 with h | h <;> rw [h] <;> rfl
          rw [a1]
          cases g.w <;> rfl
        rw [this, Bool.and_false]
    rw [e0, e1, ← meet_has, join_has]
    simp

theorem ev11 (g : Gv) : Ev Try.prog (tabOf sl10) noHooks 6 11 [eGv g] (eB true) := by
  have h : Ev Try.prog (tabOf sl10) noHooks 6 11 [eGv g] (eB (oneG g)) := Ev.of (by kernel_rfl)
  rwa [oneG_true] at h
end Go.Rf
