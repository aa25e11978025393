/- Scalars: the document's settling is the program's. -/
import Derived.Test.YtigiedlngfkfbaaGreatPs3
set_option linter.unusedVariables false
set_option linter.unusedSimpArgs false
set_option maxRecDepth 100000
namespace Go.Rf

structure RsS where
  t : Tn
  s : Sp
  r : Sc
  ok : Bool
  n : W

def hullA (t : Tn) : Sp := ⟨t.v, t.v + t.m⟩
def RsS.n1 (s : RsS) : Bool := noMeetS s.s (hullA s.t)
def RsS.ends (s : RsS) : Sp := Sp.mux s.n1 nilS (meetS s.s (hullA s.t))
noncomputable def RsS.rng (s : RsS) : Tn := T.Tn.mux (T.badRg s.ends.lo s.ends.hi) T.nil (T.rgT s.ends.lo s.ends.hi)
noncomputable def RsS.n2 (s : RsS) : Bool := T.noMeet s.t s.rng
noncomputable def RsS.bits (s : RsS) : Tn := T.Tn.mux s.n2 T.nil (T.tMeet s.t s.rng)
noncomputable def RsS.same (s : RsS) : Bool := T.eqT s.bits s.t && eqS s.ends s.s
noncomputable def RsS.no (s : RsS) : Bool := s.n1 || s.n2
def RsS.more (s : RsS) : Bool := ltB .i64 s.n 300#64
def RsS.r1 (s : RsS) : RsS := ⟨s.t, s.s, nilC, false, s.n⟩
def RsS.r2 (s : RsS) : RsS := ⟨s.t, s.ends, nilC, false, s.n⟩
noncomputable def RsS.r3 (s : RsS) : RsS := ⟨s.bits, s.ends, ⟨s.t, s.s⟩, true, s.n⟩
noncomputable def RsS.nxt (s : RsS) : RsS := ⟨s.bits, s.ends, s.r, s.ok, s.n + 1#64⟩
noncomputable def RsS.step (s : RsS) : Rd RsS := .br s.more (.br (!ynS s.n1) (.ret s.r1) (.br (!ynS s.n2) (.ret s.r2) (.br s.same (.ret s.r3) (.norm s.nxt)))) (.exit 0 s)
noncomputable def RsS.go (s : RsS) : Bool := s.more && (!s.n1 && !s.n2 && !s.same)
noncomputable def RsS.rt (s : RsS) : RsS := ⟨T.Tn.mux s.no s.t s.bits, Sp.mux s.n1 s.s s.ends, Sc.mux s.no nilC ⟨s.t, s.s⟩, !s.no, s.n⟩
def RsS.inv (s : RsS) : Prop := s.n.toNat ≤ 300
def RsS.mu (s : RsS) : Nat := 300 - s.n.toNat
theorem RsS.more_eq {s : RsS} (h : s.inv) : s.more = decide (s.n.toNat < 300) := by
  have h' : s.n.toNat ≤ 300 := h
  unfold RsS.more
  rw [ltB_nat (by omega) (by decide)]; rfl
theorem RsS.dec (s : RsS) (h : s.inv) (hg : s.go = true) : s.nxt.inv ∧ s.nxt.mu < s.mu := by
  simp only [RsS.go, Bool.and_eq_true, RsS.more_eq h, decide_eq_true_eq] at hg
  have e : s.nxt.n.toNat = s.n.toNat + 1 := succ_nat (by omega)
  simp only [RsS.inv, RsS.mu, e]
  omega
noncomputable def RsS.run (s : RsS) : RsS := runN RsS.go RsS.nxt 300 s
noncomputable def RsS.T (s : RsS) : Rd RsS := .br s.run.more (.ret s.run.rt) (.exit 0 s.run)
theorem RsS.good : ∀ s, RsS.inv s → Good RsS.inv RsS.mu RsS.T s s.step.sel := by
  refine good_ret (go := RsS.go) (next := RsS.nxt) (out := RsS.more) (rt := RsS.rt) RsS.dec (fun s h => by unfold RsS.mu; omega) ?_ ?_ ?_
  · intro s hi hg
    simp only [RsS.go, Bool.and_eq_true, Bool.not_eq_true'] at hg
    obtain ⟨h0, ⟨h1, h2⟩, h3⟩ := hg
    unfold RsS.step
    simp only [Rd.sel, ynS, h0, h1, h2, h3, cond_false, Bool.not_true, if_true, Bool.false_eq_true, if_false]
  · intro s hi hg ho
    unfold RsS.step RsS.rt RsS.no
    cases h1 : s.n1 with
    | true => simp only [Rd.sel, ynS, ho, cond_true, Bool.not_false, if_true]; rfl
    | false =>
      cases h2 : s.n2 with
      | true => simp only [Rd.sel, ynS, ho, cond_true, cond_false, Bool.not_false, Bool.not_true, Bool.false_eq_true, if_true, if_false]; rfl
      | false =>
        have h3 : s.same = true := by
          unfold RsS.go at hg
          rw [ho, h1, h2] at hg
          simpa using hg
        simp only [Rd.sel, ynS, ho, cond_false, Bool.not_true, Bool.false_eq_true, if_false, h3, if_true]; rfl
  · intro s hi hg ho
    simp only [RsS.step, Rd.sel, ho, Bool.false_eq_true, if_false]

noncomputable def rsEnd (t : Tn) (s : Sp) : RsS := RsS.run ⟨t, s, nilC, false, 0#64⟩
noncomputable def setRD (t : Tn) (s : Sp) : Sc := Sc.mux (setBad t s) nilC (Sc.mux (rsEnd t s).more (rsEnd t s).rt.r nilC)
noncomputable def setOkD (t : Tn) (s : Sp) : Bool := bif setBad t s then false else bif (rsEnd t s).more then (rsEnd t s).rt.ok else false

def RsS.to (s : RsS) : StS := ⟨s.t, s.s, s.r, s.ok⟩
theorem hullA_eq {t : Tn} (h : T.may t = true) : hullA t = hull t := by
  unfold hullA hull
  rw [T.may_add h]
theorem RsS.n1_eq {s : RsS} (h : T.may s.t = true) : s.n1 = s.to.n1 := by
  unfold RsS.n1 StS.n1
  rw [hullA_eq h]; rfl
theorem RsS.ends_eq {s : RsS} (h : T.may s.t = true) : s.ends = s.to.ends := by
  unfold RsS.ends StS.ends
  rw [RsS.n1_eq h, hullA_eq h]; rfl
theorem RsS.rng_eq {s : RsS} (h : T.may s.t = true) : s.rng = s.to.rng := by
  unfold RsS.rng StS.rng
  rw [RsS.ends_eq h]
theorem RsS.n2_eq {s : RsS} (h : T.may s.t = true) : s.n2 = s.to.n2 := by
  unfold RsS.n2 StS.n2
  rw [RsS.rng_eq h]; rfl
theorem RsS.bits_eq {s : RsS} (h : T.may s.t = true) : s.bits = s.to.bits := by
  unfold RsS.bits StS.bits
  rw [RsS.n2_eq h, RsS.rng_eq h]; rfl
theorem RsS.same_eq {s : RsS} (h : T.may s.t = true) : s.same = s.to.same := by
  unfold RsS.same StS.same
  rw [RsS.bits_eq h, RsS.ends_eq h, Bool.and_comm]; rfl
theorem RsS.go_eq {s : RsS} (h : T.may s.t = true) : s.go = (s.more && s.to.go) := by
  unfold RsS.go StS.go
  rw [RsS.n1_eq h, RsS.n2_eq h, RsS.same_eq h]
theorem RsS.nxt_to {s : RsS} (h : T.may s.t = true) : s.nxt.to = s.to.nxt := by
  unfold RsS.nxt RsS.to StS.nxt
  show (⟨s.bits, s.ends, s.r, s.ok⟩ : StS) = ⟨s.to.bits, s.to.ends, s.r, s.ok⟩
  rw [RsS.bits_eq h, RsS.ends_eq h]

/-- Both come to the same. -/
theorem rs_run : ∀ (k : Nat) (u : RsS), u.to.inv → u.to.mu + u.n.toNat < 300 → u.to.mu ≤ k → (runN RsS.go RsS.nxt k u).to = runN StS.go StS.nxt k u.to ∧ (runN RsS.go RsS.nxt k u).n.toNat < 300 := by
  intro k
  induction k with
  | zero => intro u hi hm _; exact ⟨rfl, by show u.n.toNat < 300; omega⟩
  | succ k ih =>
    intro u hi hm hk
    have hmore : u.more = true := by
      rw [RsS.more_eq (by unfold RsS.inv; omega)]
      exact decide_eq_true (by omega)
    have hg := RsS.go_eq hi.1
    rw [hmore, Bool.true_and] at hg
    cases hgo : u.to.go with
    | false =>
      rw [hgo] at hg
      rw [runN_stop hg, runN_stop hgo]
      exact ⟨rfl, by omega⟩
    | true =>
      rw [hgo] at hg
      obtain ⟨d1, d2⟩ := StS.dec u.to hi hgo
      have e := RsS.nxt_to hi.1
      have en : u.nxt.n.toNat = u.n.toNat + 1 := succ_nat (by omega)
      rw [runN_go hg, runN_go hgo]
      rw [← e] at d1 d2
      obtain ⟨h1, h2⟩ := ih u.nxt d1 (by omega) (by omega)
      rw [h1, e]
      exact ⟨rfl, h2⟩

theorem mu_le (s : StS) : s.mu ≤ 129 := by
  unfold StS.mu
  have := (T.popW_eq s.t.m).2
  split <;> omega

theorem settle_same (t : Tn) (s : Sp) : setRD t s = setR t s ∧ setOkD t s = setOk t s := by
  cases hb : setBad t s with
  | true => unfold setRD setR setOkD setOk; rw [hb]; exact ⟨rfl, rfl⟩
  | false =>
    have hb' := hb
    unfold setBad at hb'
    simp only [Bool.or_eq_false_iff, Bool.not_eq_false'] at hb'
    have hi : (⟨t, s, nilC, false⟩ : StS).inv := hb'
    have hmu := mu_le ⟨t, s, nilC, false⟩
    obtain ⟨k1, k2⟩ := rs_run 300 ⟨t, s, nilC, false, 0#64⟩ hi (by show StS.mu _ + (0#64 : W).toNat < 300; have z : (0#64 : W).toNat = 0 := rfl; rw [z]; exact Nat.lt_of_le_of_lt hmu (by decide)) (by exact Nat.le_trans hmu (by decide))
    have e1 : (rsEnd t s).to = setEnd t s := by
      show (runN RsS.go RsS.nxt 300 ⟨t, s, nilC, false, 0#64⟩).to = _
      rw [k1]
      exact runN_ge StS.dec 300 _ hi (Nat.le_trans hmu (by decide))
    have hm : (rsEnd t s).more = true := by
      have : (rsEnd t s).n.toNat < 300 := k2
      rw [RsS.more_eq (by unfold RsS.inv; omega)]
      exact decide_eq_true this
    obtain ⟨q1, q2, _⟩ := setEnd_spec hb'.1 hb'.2
    have ht : T.may (rsEnd t s).t = true := by
      have : (rsEnd t s).to.inv := by rw [e1]; exact q1
      exact this.1
    have hno : (rsEnd t s).no = (setEnd t s).no := by
      unfold RsS.no StS.no
      rw [RsS.n1_eq ht, RsS.n2_eq ht, e1]
    have et : (rsEnd t s).t = (setEnd t s).t := congrArg StS.t e1
    have es : (rsEnd t s).s = (setEnd t s).s := congrArg StS.s e1
    unfold setRD setR setOkD setOk
    rw [hb, hm]
    show Sc.mux (rsEnd t s).no nilC ⟨(rsEnd t s).t, (rsEnd t s).s⟩ = Sc.mux (setEnd t s).no nilC ⟨(setEnd t s).t, (setEnd t s).s⟩ ∧ (!(rsEnd t s).no) = (!(setEnd t s).no)
    rw [hno, et, es]
    exact ⟨rfl, rfl⟩
end Go.Rf
