/- Scalars: laws over the sums of Each. -/
import Derived.Test.YtigiedlngfkfbaaSe7
import Derived.Test.YtigiedlngfkfbaaSb4
set_option linter.unusedVariables false
set_option linter.unusedSimpArgs false
set_option maxRecDepth 100000
namespace Go.Rf
open Go.Proofs

/-- Counting through a slice. -/
structure CtE where
  i : W
section
variable (n : Nat)
def CtE.lt (s : CtE) : Bool := ltB .i64 s.i (BitVec.ofNat 64 n)
def CtE.nxt (s : CtE) : CtE := ⟨s.i + 1#64⟩
structure CtE.inv (s : CtE) : Prop where
  big : n < 2 ^ 63
  le : s.i.toNat ≤ n
def CtE.mu (s : CtE) : Nat := n - s.i.toNat
def CtE.run (s : CtE) : CtE := runN (CtE.lt n) CtE.nxt n s
def CtE.T (s : CtE) : Rd CtE := .exit 0 ⟨(s.run n).i⟩
theorem CtE.lt_iff {s : CtE} (h : s.inv n) : s.lt n = true ↔ s.i.toNat < n := by
  have h1 := h.big
  have h2 := h.le
  unfold CtE.lt
  rw [ltB_nat (by omega) (by rw [ofNat_toNat (by omega)]; exact h1), ofNat_toNat (by omega), decide_eq_true_eq]
theorem CtE.dec (s : CtE) (h : s.inv n) (hg : s.lt n = true) : s.nxt.inv n ∧ s.nxt.mu n < s.mu n := by
  rw [CtE.lt_iff n h] at hg
  have h1 := h.big
  have e : (s.i + 1#64).toNat = s.i.toNat + 1 := succ_nat (by omega)
  refine ⟨⟨h1, ?_⟩, ?_⟩
  · show (s.i + 1#64).toNat ≤ n; omega
  · show n - (s.i + 1#64).toNat < n - s.i.toNat; omega
/-- A round that finds nothing wrong. -/
theorem CtE.good {step : CtE → Rd CtE} (h1 : ∀ s, s.inv n → s.lt n = true → (step s).sel = .norm s.nxt) (h2 : ∀ s, s.inv n → s.lt n = false → (step s).sel = .exit 0 s) :
    ∀ s : CtE, s.inv n → Good (CtE.inv n) (CtE.mu n) (CtE.T n) s (step s).sel :=
  good_run (go := CtE.lt n) (next := CtE.nxt) (CtE.dec n) (fun s h => by unfold CtE.mu; omega) h1 h2
end
def elE (D : SlD sSm') (s : CtE) : SmV := mkSm (D.els (ixN s.i))

def pE : List Nat := [1, 0, 1, 4]
noncomputable def lp3 (D : SlD sSm') (h : Bool) : Lp CtE where
  keys := [16, 15, 14, 1]
  names := []
  scr := wrAt Try.prog 3 pE
  vals s := [eI s.i, eI (BitVec.ofNat 64 D.len), D.at 1, eB h]
  blks s := []
  dec vs bs := match vs with
    | [i, _, _, _] => match cI.dec i with
      | some i => some ⟨i⟩
      | none => none
    | _ => none
  fx := [(1, some D.blk)]
noncomputable def cx1 : Cx := ⟨Try.prog, tabOf tc1, inlF Try.prog (tabOf tc1) noHooks 3⟩
theorem hI1 : InlOk cx1.P cx1.inl := inlF_ok rtc1 3
noncomputable def r3of (D : SlD sSm') (h : Bool) (s : CtE) : R3 := refP (elE D s).op (elE D s).w (elE D s).a (elE D s).b h
def dif3 (r : R3) : Bool := (!eqC r.x r.x || !eqC r.y r.y) || (r.ok != r.ok)
theorem dif3_no (r : R3) : dif3 r = false := by
  unfold dif3
  rw [eqC_iff.2 rfl, eqC_iff.2 rfl]
  cases r.ok <;> rfl
noncomputable def step3 (D : SlD sSm') (h : Bool) (s : CtE) : Rd CtE := .br (s.lt D.len) (.br (dif3 (r3of D h s)) (.ret s) (.norm s.nxt)) (.exit 0 s)
theorem goal3 (D : SlD sSm') (h : Bool) (s : CtE) (hs : s.inv D.len) : LoopGoal Try.prog (loopAt Try.prog 3 pE) (lp3 D h) (CtE.T D.len) s 2 63 0 := by
  refine lp_rule (cx := cx1) rtc1 hI1 (Λ := fun _ => none) (p := []) (lp3 D h) (CtE.inv D.len) (CtE.mu D.len) (step3 D h) (CtE.T D.len) 2 63 0 (fun _ => ⟨rfl, rfl⟩) ?_ ?_ s hs
  · intro s r hh hi
    refine fl_ok (g := s.lt D.len) (L := [0 ≤ toZ .i64 s.i ∧ toZ .i64 s.i < toZ .i64 (BitVec.ofNat 64 D.len), D.pre.length = D.pre.length, (toZ .i64 s.i).toNat < D.len]) (by kernel_rfl) (fun hg p hp => ?_)
    rw [CtE.lt_iff D.len hi] at hg
    have h1 := hi.big
    simp only [List.mem_cons, List.not_mem_nil, or_false] at hp
    rcases hp with rfl | rfl | rfl
    · rw [toZ_nat (by omega), toZ_nat (by rw [ofNat_toNat (by omega)]; exact h1), ofNat_toNat (by omega)]
      omega
    · trivial
    · rw [toZ_nat (by omega)]; omega
  · refine CtE.good D.len ?_ ?_
    · intro s hi hg
      simp only [step3, Rd.sel, hg, dif3_no, if_true, Bool.false_eq_true, if_false]
    · intro s hi hg
      simp only [step3, Rd.sel, hg, Bool.false_eq_true, if_false]

/-! ### The law's walk -/
noncomputable def A0 : List Oper := opsOf 3 [0]
noncomputable def A1 : List Oper := opsOf 3 [1, 0, 0]
noncomputable def A1a : List Oper := A1.take 1
noncomputable def opC : Oper := (A1.drop 1).headD default
noncomputable def A1b : List Oper := A1.drop 2
noncomputable def A9 : List Oper := opsOf 3 [1, 1, 0]
theorem A1_eq : A1 = A1a ++ (opC :: A1b) := by kernel_rfl
noncomputable def X3 : Code := .block 0 (.loop (loopAt Try.prog 3 pE))
noncomputable def Y3 : Code := .seq (.region 9 A9.toArray false) .ret
theorem body3 : Try.f3.body = some (.seq (.region 0 A0.toArray false) (.seq (.seq (.region 1 A1.toArray false) X3) Y3)) := by kernel_rfl
noncomputable def u0 (s : SmV) (h : Bool) : St := St.enter [eSm s, eB h] (fun _ => none) 0 63
noncomputable def u1 (s : SmV) (h : Bool) : St := stEv (evalList cx1 A0 (u0 s h))
noncomputable def u2 (s : SmV) (h : Bool) : St := stEv (evalList cx1 A1a (u1 s h))
noncomputable def v2 (h : Bool) (D : SlD sSm') : St := slSt D 1 14 [(1, eB h)] [] 63 0
noncomputable def u3 (h : Bool) (D : SlD sSm') : St := stEv (evalList cx1 A1b (v2 h D))
theorem w1 (s : SmV) (h : Bool) : ∃ ob, evalList cx1 A0 (u0 s h) = some (u1 s h, ob) ∧ ob.holds := fl_two (L := []) (by kernel_rfl) (by kernel_rfl) (by simp)
theorem w2 (s : SmV) (h : Bool) : ∃ ob, evalList cx1 A1a (u1 s h) = some (u2 s h, ob) ∧ ob.holds := fl_two (L := []) (by kernel_rfl) (by kernel_rfl) (by simp)
theorem w3 (h : Bool) (D : SlD sSm') (hl : D.len < 2 ^ 63) : ∃ ob, evalList cx1 A1b (v2 h D) = some (u3 h D, ob) ∧ ob.holds := fl_two (L := [0 ≤ toZ .i64 (BitVec.ofNat 64 D.len)]) (by kernel_rfl) (by kernel_rfl) (fun p hp => by
  simp only [List.mem_singleton] at hp
  subst hp
  rw [toZ_nat (by rw [ofNat_toNat (by omega)]; exact hl)]; omega)
noncomputable def hk3 (D : SlD sSm') (h : Bool) : Hook := fun p => if p == [4] then some ((lp3 D h).hk (CtE.T D.len)) else none
noncomputable def outN (x : Option (Outc × Ob)) : St := match x with
  | some (.norm st, _) => st
  | _ => ⟨[], fun _ => .un, [], fun _ => none, 0, 0, 0⟩
noncomputable def u4 (h : Bool) (D : SlD sSm') : St := outN (evalCode cx1 (hk3 D h) X3 [] (u3 h D))
theorem w4 (h : Bool) (D : SlD sSm') (hl : D.len < 2 ^ 63) : ∃ ob, evalCode cx1 (hk3 D h) X3 [] (u3 h D) = some (.norm (u4 h D), ob) ∧ ob.holds :=
  fl_two (L := [LoopGoal Try.prog (loopAt Try.prog 3 pE) (lp3 D h) (CtE.T D.len) ⟨0#64⟩ 2 63 0]) (by kernel_rfl) (by kernel_rfl) (fun p hp => by
    simp only [List.mem_singleton] at hp
    subst hp
    exact goal3 D h ⟨0#64⟩ ⟨hl, Nat.zero_le _⟩)
theorem w5 (h : Bool) (D : SlD sSm') : ∃ ob, evalK cx1 (fun _ => none) Try.f3 Y3 [] (u4 h D) = some (eB true, ob) ∧ ob.holds := fl_two (L := []) (by kernel_rfl) (by kernel_rfl) (by simp)
end Go.Rf
