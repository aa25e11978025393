/- States: the contracts of Join; the document's In, Holds. -/
import Derived.Test.YtflnkcibjebdeaaSt19
set_option linter.unusedVariables false
set_option linter.unusedSimpArgs false
set_option maxRecDepth 100000
namespace Go.Rf
open Go.Proofs
def sumH (c : Nat → Bool) : Nat → B8
  | 0 => 0#8
  | n + 1 => if c n = true then sumH c n + one8 (BitVec.ofNat 64 n) else sumH c n
theorem sumH_congr {c d : Nat → Bool} : ∀ {n : Nat}, (∀ i, i < n → c i = d i) → sumH c n = sumH d n
  | 0, _ => rfl
  | n + 1, h => by
    have ih := sumH_congr (c := c) (d := d) (n := n) (fun i hi => h i (by omega))
    simp only [sumH, h n (by omega), ih]
theorem sumH_bits : ∀ v : B8, sumH (fun i => v.getLsbD i) 8 = v := by decide +kernel
theorem fh_eq (x y : Slt) : JsS.fh ⟨x, y, nilS', 0#64⟩ = and8 (sureS x) (sureS y) := by
  have := runN_count (go := JsS.go) (next := JsS.nxt) (fun i => (⟨x, y, ⟨sumH (fun i => sureD x (BitVec.ofNat 64 i) && sureD y (BitVec.ofNat 64 i)) i, nilR⟩, BitVec.ofNat 64 i⟩ : JsS)) 8
    (fun i hi => by
      show ltB .i64 (BitVec.ofNat 64 i) (BitVec.ofNat 64 8) = _
      rw [ltB_ofNat (by omega) (by omega)])
    (fun i hi => by
      unfold JsS.nxt JsS.c
      show (if (sureD x (BitVec.ofNat 64 i) && sureD y (BitVec.ofNat 64 i)) = true then _ else _) = _
      simp only [sumH]
      split
      · rename_i h
        simp only [JsS.nA, ofNat_succ]
      · rename_i h
        simp only [JsS.nB, ofNat_succ])
  have e : runN JsS.go JsS.nxt 8 ⟨x, y, nilS', 0#64⟩ = _ := this
  unfold JsS.fh
  rw [e]
  show sumH (fun i => sureD x (BitVec.ofNat 64 i) && sureD y (BitVec.ofNat 64 i)) 8 = _
  rw [← sumH_bits (and8 (sureS x) (sureS y))]
  refine sumH_congr fun i hi => ?_
  rw [sure_bit x i hi, sure_bit y i hi]
  unfold and8
  rw [BitVec.getLsbD_and]
/-- What is known of a slot in both. -/
noncomputable def joinSl (x y : Slt) : Slt := bif jc1 x y then ⟨and8 (sureS x) (sureS y), nilR⟩ else bif jc2 x y then ⟨255#8, joinR x.r y.r⟩ else ⟨and8 (sureS x) (sureS y), nilR⟩
noncomputable def joinSlD (x y : Slt) : Slt := bif jd1 x y then (bif jd2 x y then ⟨255#8, joinRD x.r y.r⟩ else ⟨and8 (sureS x) (sureS y), nilR⟩) else ⟨and8 (sureS x) (sureS y), nilR⟩
theorem joinSP_eq (x y : Slt) : joinSP x y = joinSlD x y := by
  unfold joinSP joinSlD jOut
  rw [fh_eq, Slt.mux_eq, Slt.mux_eq]
theorem k44 : ConOk Try.prog 44 (con2 cSlt cSlt fun x y => eSlt (joinSlD x y)) :=
  (show (con2 cSlt cSlt fun x y => eSlt (joinSP x y)) = (con2 cSlt cSlt fun x y => eSlt (joinSlD x y)) from congrArg _ (by funext x y; rw [joinSP_eq])) ▸ kk44
noncomputable def sv9 : List (FuncId × Con) := (17, con1 cVw fun v => eVw v) :: (44, con2 cSlt cSlt fun x y => eSlt (joinSlD x y)) :: sv8
theorem rsv9 : TabOk Try.prog (tabOf sv9) := tabOf_cons (tabOf_cons rsv8 k44) k17
theorem sl_same {x y : Slt} (hx : knownS x = true) (hy : knownS y = true) : joinSlD x y = joinSl x y := by
  have rx : RegOk x.r := mayR_ok.1 (by unfold knownS at hx; rw [Bool.and_eq_true] at hx; exact hx.1)
  have ry : RegOk y.r := mayR_ok.1 (by unfold knownS at hy; rw [Bool.and_eq_true] at hy; exact hy.1)
  unfold joinSlD joinSl jd1 jd2 jc1 jc2
  rw [joinRD_same rx ry]
  cases h1 : (x.r.k == 0#8) <;> cases h2 : (y.r.k == 0#8) <;> simp [bne, h1, h2]

/-! The program's Join. -/
theorem JnS.runS (a b s : Sta) (hs : ∀ j, s.stk j = nilS') : runN (JnS.go 64) JnS.ns 64 ⟨a, b, s, 0#64⟩ = ⟨a, b, ⟨s.regs, fun j => if j < 64 then joinSl (a.stk j) (b.stk j) else nilS', s.pk⟩, 64#64⟩ := by
  have := runN_count (go := JnS.go 64) (next := JnS.ns) (fun i => (⟨a, b, ⟨s.regs, fun j => if j < i then joinSl (a.stk j) (b.stk j) else nilS', s.pk⟩, BitVec.ofNat 64 i⟩ : JnS)) 64
    (fun i hi => by
      show ltB .i64 (BitVec.ofNat 64 i) (BitVec.ofNat 64 64) = _
      rw [ltB_ofNat (by omega) (by omega)])
    (fun i hi => by
      have hix := ixN_ofNat (show i < 2 ^ 63 by omega)
      have fs := fill_step (fun j => joinSl (a.stk j) (b.stk j)) (fun _ => nilS') i
      have hi2 : ¬ i < i := Nat.lt_irrefl i
      unfold JnS.ns JnS.n2 JnS.n1
      simp only [hix, updS_eq, if_neg hi2, ofNat_succ]
      have tw : ∀ (f : Nat → Slt) (p q : Slt), (fun j => if j = i then q else if j = i then p else f j) = fun j => if j = i then q else f j := by
        intro f p q; funext j; by_cases h : j = i <;> simp [h]
      simp only [tw]
      rw [← fs]
      simp only [joinSl]
      cases jc1 (a.stk i) (b.stk i) <;> cases jc2 (a.stk i) (b.stk i) <;> simp [nilS'])
  have e0 : (⟨a, b, ⟨s.regs, fun j => if j < 0 then joinSl (a.stk j) (b.stk j) else nilS', s.pk⟩, BitVec.ofNat 64 0⟩ : JnS) = ⟨a, b, s, 0#64⟩ := by
    have : (fun j => if j < 0 then joinSl (a.stk j) (b.stk j) else nilS') = s.stk := by funext j; rw [if_neg (Nat.not_lt_zero j), hs]
    rw [this]
  rw [← e0]
  exact this
def nilSta : Sta := ⟨fun _ => nilR, fun _ => nilS', 0#64⟩
def Sta.mux (c : Bool) (x y : Sta) : Sta := ⟨fun j => Reg.mux c (x.regs j) (y.regs j), fun j => Slt.mux c (x.stk j) (y.stk j), bif c then x.pk else y.pk⟩
theorem Sta.mux_eq (c : Bool) (x y : Sta) : Sta.mux c x y = bif c then x else y := by
  cases c <;> simp [Sta.mux, Reg.mux_eq, Slt.mux_eq]
noncomputable def badJ (a b : Sta) : Bool := !maySta a || !maySta b
noncomputable def joinSt (a b : Sta) : Sta := bif badJ a b then nilSta else ⟨fun j => joinR (a.regs j) (b.regs j), fun j => joinSl (a.stk j) (b.stk j), minI a.pk b.pk⟩
noncomputable def s1J (F : Reg → Reg → Reg) (a b : Sta) : JnS := runN (JnS.go 11) (JnS.nr F) 11 ⟨a, b, ⟨fun _ => nilR, fun _ => nilS', minI a.pk b.pk⟩, 0#64⟩
noncomputable def s2J (a b : Sta) : JnS := runN (JnS.go 64) JnS.ns 64 ⟨(s1J joinR a b).a, (s1J joinR a b).b, (s1J joinR a b).s, 0#64⟩
noncomputable def hJP : FuncId → Hook := fun f p => if f == 21 && p == pJa then some ((lpJn 21 pJa 26).hk (JnS.T 11 (JnS.nr joinR) 0)) else if f == 21 && p == pJb then some ((lpJn 21 pJb 42).hk (JnS.T 64 JnS.ns 2)) else none
theorem s1J_eq (F : Reg → Reg → Reg) (a b : Sta) : s1J F a b = ⟨a, b, ⟨fun j => if j < 11 then F (a.regs j) (b.regs j) else nilR, fun _ => nilS', minI a.pk b.pk⟩, 11#64⟩ := JnS.runR F a b _
theorem s2J_eq (a b : Sta) : s2J a b = ⟨a, b, ⟨fun j => if j < 11 then joinR (a.regs j) (b.regs j) else nilR, fun j => if j < 64 then joinSl (a.stk j) (b.stk j) else nilS', minI a.pk b.pk⟩, 64#64⟩ := by
  unfold s2J
  rw [s1J_eq]
  exact JnS.runS a b _ (fun _ => rfl)
theorem a21 (x y : Sta) : (fg (evalN Try.prog (tabOf sv8) hJP 6 21 [cSta.enc x, cSta.enc y])).map (·.1) = some (eSta (Sta.mux (badJ x y) nilSta (s2J x y).s)) := by kernel_rfl
theorem b21 (x y : Sta) : (fg (evalN Try.prog (tabOf sv8) hJP 6 21 [cSta.enc x, cSta.enc y])).map (·.2) = some [([!badJ x y], LoopGoal Try.prog (loopAt Try.prog 21 pJa) (lpJn 21 pJa 26) (JnS.T 11 (JnS.nr joinR) 0) ⟨x, y, ⟨fun _ => nilR, fun _ => nilS', minI x.pk y.pk⟩, 0#64⟩ 4 87 0),
    ([!badJ x y], LoopGoal Try.prog (loopAt Try.prog 21 pJb) (lpJn 21 pJb 42) (JnS.T 64 JnS.ns 2) ⟨(s1J joinR x y).a, (s1J joinR x y).b, (s1J joinR x y).s, 0#64⟩ 4 87 0)] := by kernel_rfl
theorem kk21 : ConOk Try.prog 21 (con2 cSta cSta fun x y => eSta (Sta.mux (badJ x y) nilSta (s2J x y).s)) :=
  con2_ok rsv8 (Λ := hJP) 6 (fun _ _ => rfl) (fun x y => Ev.fg2 (a21 x y) (b21 x y) (by
      intro e he _
      simp only [List.mem_cons, List.not_mem_nil, or_false] at he
      rcases he with rfl | rfl
      · exact goalJa _ ⟨by decide, by show (0#64 : W).toNat ≤ 11; decide⟩
      · exact goalJb _ ⟨by decide, by show (0#64 : W).toNat ≤ 64; decide⟩))
theorem k21 : ConOk Try.prog 21 (con2 cSta cSta fun x y => eSta (joinSt x y)) := as_con2 kk21 (fun _ _ => rfl) (fun x y => by
  rw [s2J_eq, Sta.mux_eq]
  unfold joinSt
  cases badJ x y with
  | true => rfl
  | false => exact sta_val (fun i hi => if_pos hi) (fun i hi => if_pos hi) rfl)
end Go.Rf
