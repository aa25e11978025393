/- Memory: the loop of frame, over stores that come in. -/
import Derived.Test.YtadkiiaagdhhlaaMaD
import Derived.Test.YtadkiiaagdhhlaaRfH
set_option linter.unusedVariables false
set_option linter.unusedSimpArgs false
set_option maxRecDepth 100000
namespace Go.Rf
open Go.Proofs
def sVal : Sh := .agg (.cons (.int .u8) (.cons (.int .i64) (.cons (.int .u64) (.cons (.int .i64) .nil))))
def sAct : Sh := .agg (.cons (.int .i64) (.cons (.int .i64) (.cons sVal .nil)))
def mkVal (x : sVal.T) : Val := ⟨x.1, x.2.1, x.2.2.1, x.2.2.2.1⟩
/-- A store. -/
structure Act where
  o : W
  s : W
  v : Val
def mkAct (x : sAct.T) : Act := ⟨x.1, x.2.1, mkVal x.2.2.1⟩
def fAct : FCod Act := FCod.aggR (FCod.consR fI (FCod.consR fI (FCod.consR fVal FCod.nilR))) (fun x => ⟨x.1, x.2.1, x.2.2.1⟩) (fun g => (g.o, g.s, g.v, ())) (fun _ => rfl)
def cAct : Cod Act := fAct.one
def eAct (x : Act) : AV := cAct.enc x
def actS (f : Fra) (a : Act) : Fra := storeF f a.o a.s a.v
def actE (f : Fra) (a : Act) : W := storeE f a.o a.s a.v
structure FrS where
  f : Fra
  i : W
section
variable (n : Nat) (ac : Nat → Act)
def FrS.lt (s : FrS) : Bool := ltB .i64 s.i (BitVec.ofNat 64 n)
def FrS.at60 (s : FrS) : Bool := s.i == 60#64
def FrS.ok (s : FrS) : Bool := actE s.f (ac (ixN s.i)) == 0#64
def FrS.go (s : FrS) : Bool := s.lt n && !s.at60
def FrS.nA (s : FrS) : FrS := ⟨actS s.f (ac (ixN s.i)), s.i + 1#64⟩
def FrS.nB (s : FrS) : FrS := ⟨s.f, s.i + 1#64⟩
def FrS.nxt (s : FrS) : FrS := if s.ok ac = true then s.nA ac else s.nB
def FrS.step (s : FrS) : Rd FrS := .br (s.lt n) (.br s.at60 (.exit 0 s) (.br (s.ok ac) (.norm (s.nA ac)) (.norm s.nB))) (.exit 0 s)
structure FrS.inv (s : FrS) : Prop where
  big : n < 2 ^ 63
  le : s.i.toNat ≤ n
  le60 : s.i.toNat ≤ 60
def FrS.mu (s : FrS) : Nat := 60 - s.i.toNat
def FrS.run (s : FrS) : FrS := runN (FrS.go n) (FrS.nxt ac) 60 s
def FrS.rf (s : FrS) : Fra := (s.run n ac).f
def FrS.ri (s : FrS) : W := (s.run n ac).i
def FrS.T (s : FrS) : Rd FrS := .exit 0 ⟨s.rf n ac, s.ri n ac⟩
theorem FrS.lt_iff {s : FrS} (h : s.inv n) : s.lt n = true ↔ s.i.toNat < n := by
  have h1 := h.big
  have h2 := h.le
  unfold FrS.lt
  rw [ltB_nat (by omega) (by rw [ofNat_toNat (by omega)]; exact h1), ofNat_toNat (by omega), decide_eq_true_eq]
theorem FrS.nxt_i (s : FrS) : (s.nxt ac).i = s.i + 1#64 := by unfold FrS.nxt; split <;> rfl
theorem FrS.dec (s : FrS) (h : s.inv n) (hg : s.go n = true) : (s.nxt ac).inv n ∧ (s.nxt ac).mu < s.mu := by
  unfold FrS.go at hg
  rw [Bool.and_eq_true, FrS.lt_iff n h, Bool.not_eq_true'] at hg
  have h1 := h.big
  have h2 := h.le60
  have e : (s.i + 1#64).toNat = s.i.toNat + 1 := succ_nat (by omega)
  have h60 : s.i.toNat ≠ 60 := by
    intro e60
    have : s.i = 60#64 := BitVec.eq_of_toNat_eq e60
    have h3 := hg.2
    unfold FrS.at60 at h3
    rw [this] at h3
    exact absurd h3 (by decide)
  refine ⟨⟨h1, ?_, ?_⟩, ?_⟩
  · rw [FrS.nxt_i, e]; omega
  · rw [FrS.nxt_i, e]; omega
  · unfold FrS.mu; rw [FrS.nxt_i, e]; omega
theorem FrS.good : ∀ s : FrS, s.inv n → Good (FrS.inv n) FrS.mu (FrS.T n ac) s (s.step n ac).sel := by
  refine good_run (go := FrS.go n) (next := FrS.nxt ac) (FrS.dec n ac) (fun s h => by unfold FrS.mu; omega) ?_ ?_
  · intro s hi hg
    simp only [FrS.go, Bool.and_eq_true, Bool.not_eq_true'] at hg
    simp only [FrS.step, Rd.sel, hg.1, hg.2, if_true, Bool.false_eq_true, if_false, FrS.nxt]
    split <;> rfl
  · intro s hi hg
    unfold FrS.go at hg
    cases hl : s.lt n with
    | false => simp only [FrS.step, Rd.sel, hl, Bool.false_eq_true, if_false]
    | true =>
      rw [hl] at hg
      have h6 : s.at60 = true := by simpa using hg
      simp only [FrS.step, Rd.sel, hl, h6, if_true]
end
def pFr : List Nat := [1, 1, 0, 1, 4]
def acts (D : SlD sAct) : Nat → Act := fun i => mkAct (D.els i)
/-- The frame is block k. -/
noncomputable def lpFr (k : Nat) (D : SlD sAct) : Lp FrS where
  keys := [10, 9, 8, 3]
  names := [k]
  scr := wrAt Try.prog 22 pFr
  vals s := [eI s.i, eI (BitVec.ofNat 64 D.len), D.slc, .ptr k []]
  blks s := [⟨35, eFra s.f⟩]
  dec vs bs := match vs, bs with
    | [i, _, _, _], [⟨_, f⟩] => match cI.dec i, cFra.dec f with
      | some i, some f => some ⟨f, i⟩
      | _, _ => none
    | _, _ => none
  fx := [(0, some D.blk)]
end Go.Rf
