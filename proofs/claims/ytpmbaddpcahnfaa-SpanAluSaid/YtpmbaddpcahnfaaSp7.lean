/- Spans: the document's One. -/
import Derived.Test.YtpmbaddpcahnfaaSp6
import Derived.Test.YtpmbaddpcahnfaaSpp
set_option linter.unusedVariables false
set_option linter.unusedSimpArgs false
namespace Go.Rf
open Go.Proofs

structure DrS where
  x : W
  k : W
  z : W
  i : W
def pDr : List Nat := [1, 0, 1, 4]
noncomputable def lpDr : Lp DrS where
  keys := [0, 1, 2, 7]
  names := []
  scr := wrAt Try.prog 49 pDr
  vals s := [eW s.x, eI s.k, eI s.z, eI s.i]
  blks _ := []
  dec vs _ := match vs with
    | [x, k, z, i] => match cW.dec x, cI.dec k, cI.dec z, cI.dec i with
      | some x, some k, some z, some i => some ⟨x, k, z, i⟩
      | _, _, _, _ => none
    | _ => none

def DrS.go (s : DrS) : Bool := ltB .i64 s.i s.k
def DrS.nxt (s : DrS) : DrS := ⟨quoW s.x 2#64 + (s.x &&& powWr (s.z - 1#64)), s.k, s.z, s.i + 1#64⟩
def DrS.step (s : DrS) : Rd DrS := .br s.go (.norm s.nxt) (.exit 0 s)
def DrS.inv (s : DrS) : Prop := 0 ≤ s.i.toInt
def DrS.mu (s : DrS) : Nat := (s.k.toInt - s.i.toInt).toNat
theorem DrS.dec (s : DrS) (h : s.inv) (hg : s.go = true) : s.nxt.inv ∧ s.nxt.mu < s.mu := by
  rw [DrS.go, ltI, decide_eq_true_eq] at hg
  have e : s.nxt.i.toInt = s.i.toInt + 1 := succ_int hg
  have e2 : s.nxt.k = s.k := rfl
  have h' : 0 ≤ s.i.toInt := h
  simp only [DrS.inv, DrS.mu, e, e2]
  omega
def DrS.run (s : DrS) : DrS := runN DrS.go DrS.nxt s.mu s
def DrS.T (s : DrS) : Rd DrS := .exit 0 s.run
theorem goalDr (s : DrS) (h : s.inv) : LoopGoal Try.prog (loopAt Try.prog 49 pDr) lpDr DrS.T s 0 24 0 := by
  refine lp_rule (cx := ⟨Try.prog, tabOf sl7, inlF Try.prog (tabOf sl7) noHooks 2⟩) sg7 (inlF_ok sg7 2) (Λ := fun _ => none) (p := []) lpDr DrS.inv DrS.mu DrS.step DrS.T 0 24 0 (fun _ => ⟨rfl, rfl⟩) ?_ ?_ s h
  · intro s r h hi
    exact ⟨.tt, by kernel_rfl, trivial⟩
  · refine good_mu (go := DrS.go) (next := DrS.nxt) DrS.dec ?_ ?_
    · intro s hi hg
      simp only [DrS.step, Rd.sel, hg, if_true]
    · intro s hi hg
      simp only [DrS.step, Rd.sel, hg, Bool.false_eq_true, if_false]
def drawnR (x k z : W) : W := (DrS.run ⟨x, k, z, 0#64⟩).x
noncomputable def hDr : FuncId → Hook := fun f p => if f == 49 && p == pDr then some (lpDr.hk DrS.T) else none
theorem k49 : ConOk Try.prog 49 (con3 cW cI cI fun x k z => eW (drawnR x k z)) :=
  con3_ok sg7 (Λ := hDr) 5 (fun _ _ _ => rfl) (fun x k z => Ev.fl (g := true) (L := [LoopGoal Try.prog (loopAt Try.prog 49 pDr) lpDr DrS.T ⟨x, k, z, 0#64⟩ 0 24 0]) (by kernel_rfl)
    (fun _ p hp => by simp only [List.mem_singleton] at hp; subst hp; exact goalDr _ (by show 0 ≤ (0#64 : W).toInt; decide)))
noncomputable def sl8 : List (FuncId × Con) := (49, con3 cW cI cI fun x k z => eW (drawnR x k z)) :: sl7
theorem sg8 : TabOk Try.prog (tabOf sl8) := tabOf_cons sg7 k49

/-- x, y: cut to t; n: how many bits. -/
def one' (op x y n t : W) : W :=
  bif op == 0#64 then (x + y) &&& t else bif op == 1#64 then (x - y) &&& t else bif op == 2#64 then (x * y) &&& t else
  bif op == 3#64 then (bif y == 0#64 then 0#64 else quoW x y) else bif op == 4#64 then x ||| y else bif op == 5#64 then x &&& y else
  bif op == 6#64 then (x * powWr (toIS (remW y (toUS n)))) &&& t else bif op == 7#64 then quoW x (powWr (toIS (remW y (toUS n)))) else
  bif op == 8#64 then (0#64 - x) &&& t else bif op == 9#64 then (bif y == 0#64 then x else remW x y) else bif op == 10#64 then x ^^^ y else
  bif op == 12#64 then drawnR x (toIS (remW y (toUS n))) n else y
def oneR (op : W) (w : Bool) (x y : W) : W :=
  bif !w then one' op (x &&& topW 32#64) (y &&& topW 32#64) 32#64 (topW 32#64) else one' op (x &&& topW 64#64) (y &&& topW 64#64) 64#64 (topW 64#64)

def oneObs (op y n : W) (g : Bool) : List (List Bool × Prop) :=
  [([!(y == 0#64), op == 3#64, !(op == 2#64), !(op == 1#64), !(op == 0#64), g], y ≠ 0#64),
   ([op == 7#64, !(op == 6#64), !(op == 5#64), !(op == 4#64), !(op == 3#64), !(op == 2#64), !(op == 1#64), !(op == 0#64), g], powWr (toIS (remW y (toUS n))) ≠ 0#64),
   ([!(y == 0#64), op == 9#64, !(op == 8#64), !(op == 7#64), !(op == 6#64), !(op == 5#64), !(op == 4#64), !(op == 3#64), !(op == 2#64), !(op == 1#64), !(op == 0#64), g], y ≠ 0#64)]

theorem pow_n0 {k : W} (h0 : 0 ≤ k.toInt) (h : k.toNat < 64) : powWr k ≠ 0#64 := by
  rw [powWr_eq h0]
  intro e
  have := congrArg BitVec.toNat e
  have h1 : 2 ^ k.toNat < 2 ^ 64 := Nat.pow_lt_pow_right (by decide) h
  have h2 := Nat.two_pow_pos k.toNat
  rw [BitVec.toNat_ofNat, Nat.mod_eq_of_lt h1] at this
  have z : (0#64 : W).toNat = 0 := rfl
  omega
theorem cnt_nat (y n : W) (hn : n = 32#64 ∨ n = 64#64) : (toIS (remW y (toUS n))).toNat = y.toNat % n.toNat := by
  have e : toIS (remW y (toUS n)) = y % n := by
    unfold toIS remW toUS
    show (((y % (n.signExtend 64 : W)) : W).setWidth 64 : W) = _
    rw [BitVec.setWidth_eq, BitVec.signExtend_eq]
  rw [e, BitVec.toNat_umod]
theorem cnt_lt (y n : W) (hn : n = 32#64 ∨ n = 64#64) : (toIS (remW y (toUS n))).toNat < 64 := by
  rw [cnt_nat y n hn]
  rcases hn with rfl | rfl
  · exact Nat.lt_of_lt_of_le (Nat.mod_lt _ (by decide)) (by decide)
  · exact Nat.mod_lt _ (by decide)
theorem int_small {k : W} (h : k.toNat < 64) : k.toInt = k.toNat := by
  rw [BitVec.toInt_eq_toNat_cond, if_pos (by omega)]
theorem oneObs_hold (op y n : W) (g : Bool) (hn : n = 32#64 ∨ n = 64#64) : ∀ e ∈ oneObs op y n g, (∀ x ∈ e.1, x = true) → e.2 := by
  intro e he hg
  simp only [oneObs, List.mem_cons, List.not_mem_nil, or_false] at he
  rcases he with rfl | rfl | rfl
  · have := hg _ (List.mem_cons_self ..); simpa using this
  · have := cnt_lt y n hn
    exact pow_n0 (by rw [int_small this]; omega) this
  · have := hg _ (List.mem_cons_self ..); simpa using this

theorem k18 : ConOk Try.prog 18 (con4 cI cB cW cW fun op w x y => eW (oneR op w x y)) :=
  con4_ok sg8 (Λ := noHooks) 6 (fun _ _ _ _ => rfl) (fun op w x y => Ev.fg (L := oneObs op (y &&& topW 32#64) 32#64 (!w) ++ oneObs op (y &&& topW 64#64) 64#64 (!(!w))) (by kernel_rfl) (fun e he => by
    rw [List.mem_append] at he
    rcases he with he | he
    · exact oneObs_hold _ _ _ _ (.inl rfl) e he
    · exact oneObs_hold _ _ _ _ (.inr rfl) e he))
noncomputable def sl9 : List (FuncId × Con) := (18, con4 cI cB cW cW fun op w x y => eW (oneR op w x y)) :: sl8
theorem sg9 : TabOk Try.prog (tabOf sl9) := tabOf_cons sg8 k18
end Go.Rf
