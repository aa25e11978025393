/- Proved: the law TnumMoves answers true at every input: shifted and cut tnums hold the shifted and cut numbers. No condition. -/
import Derived.Test.YtkfgohhmicfnhaaTnr
import Derived.Test.YtkfgohhmicfnhaaTp7
set_option linter.unusedVariables false
set_option linter.unusedSimpArgs false
namespace Go.Rf
open Go.Proofs Go.Proofs.Ytkfgohhmicfnhaa

structure MoS where
  t : Tn
  n : W
  res : Bool
  x : W
  sizes : Nat → W
  i : W

def pMo : List Nat := [1, 1, 1, 1, 0, 1, 4]
def cSz : Cod (Nat → W) := fI.arr 2

noncomputable def lpMo : Lp MoS where
  keys := [2, 3, 6, 7, 40, 41]
  names := [0]
  scr := wrAt Try.prog 12 pMo
  vals s := [eI s.n, .ptr 0 [], eB s.res, cW.enc s.x, cSz.enc s.sizes, eI s.i]
  blks s := [⟨24, eTn s.t⟩]
  dec vs bs := match vs, bs with
    | [n, _, r, x, z, i], [⟨_, p⟩] => match cI.dec n, cB.dec r, cW.dec x, cSz.dec z, cI.dec i, cTn.dec p with
      | some n, some r, some x, some z, some i, some t => some ⟨t, n, r, x, z, i⟩
      | _, _, _, _, _, _ => none
    | _, _ => none

def MoS.go (s : MoS) : Bool := ltB .i64 s.i 2#64
def MoS.size (s : MoS) : W := s.sizes (ixN s.i)
def MoS.wide (s : MoS) : Bool := s.size == 64#64
def MoS.part (s : MoS) : Tn := tCut s.t s.size
def MoS.half (s : MoS) : W := fitW s.wide s.x
def remI (n z : W) : W := remB .i64 n z
def toU (x : W) : W := convB .i64 .u64 x
def MoS.k (s : MoS) : W := remI s.n s.size
def MoS.bad1 (s : MoS) : Bool := eCut s.t s.size != 0#64
def MoS.down (s : MoS) : Tn := Tn.mux (badArsh s.part s.k s.size) nil (tArsh s.part s.k s.size)
def MoS.want (s : MoS) : W := aluV 12#64 s.wide s.half (toU s.k)
def MoS.bad2 (s : MoS) : Bool := !has s.part s.half || (bif badArsh s.part s.k s.size then 1#64 else 0#64) != 0#64 || !has s.down s.want
def MoS.nxt (s : MoS) : MoS := ⟨s.t, s.n, s.res, s.x, s.sizes, s.i + 1#64⟩
def MoS.rt (s : MoS) : MoS := ⟨s.t, s.n, false, s.x, s.sizes, s.i⟩
def MoS.step (s : MoS) : Rd MoS := .br s.go (.br s.bad1 (.ret s.rt) (.br s.bad2 (.ret s.rt) (.norm s.nxt))) (.exit 0 s)

def szF (j : Nat) : W := if j = 1 then 64#64 else if j = 0 then 32#64 else 0#64
def MoS.inv (s : MoS) : Prop := s.i.toNat ≤ 2 ∧ s.sizes = szF ∧ Mem s.t s.x ∧ s.n.toNat < 64
def MoS.mu (s : MoS) : Nat := 2 - s.i.toNat

theorem MoS.go_iff {s : MoS} (h : s.inv) : s.go = decide (s.i.toNat < 2) := by
  have h' : s.i.toNat ≤ 2 := h.1
  rw [MoS.go, ltB_nat (by omega) (by decide)]; rfl

theorem MoS.dec (s : MoS) (h : s.inv) (hg : s.go = true) : s.nxt.inv ∧ s.nxt.mu < s.mu := by
  rw [MoS.go_iff h, decide_eq_true_eq] at hg
  have e : s.nxt.i.toNat = s.i.toNat + 1 := succ_nat (by omega)
  refine ⟨⟨by rw [e]; omega, h.2⟩, ?_⟩
  simp only [MoS.mu, e]; omega

theorem MoS.size_eq {s : MoS} (h : s.inv) (hi : s.i.toNat < 2) : s.size = 32#64 ∨ s.size = 64#64 := by
  unfold MoS.size
  rw [h.2.1, ixN_nat (by omega)]
  have : s.i.toNat = 0 ∨ s.i.toNat = 1 := by omega
  rcases this with e | e <;> rw [e]
  · left; rfl
  · right; rfl

theorem srem_nat {n z : W} (hn : n.toNat < 64) (hz : z = 32#64 ∨ z = 64#64) : (remI n z).toNat = n.toNat % z.toNat := by
  have e : remI n z = n.srem z := rfl
  have m1 : n.msb = false := by
    rw [BitVec.msb_eq_decide]; simp; omega
  have m2 : z.msb = false := by rcases hz with rfl | rfl <;> rfl
  rw [e, BitVec.srem_eq, m1, m2]
  exact BitVec.toNat_umod

theorem MoS.ok1 {s : MoS} (h : s.inv) (hi : s.i.toNat < 2) : s.bad1 = false := by
  have ht := h.2.2.1.may
  unfold MoS.bad1
  rcases MoS.size_eq h hi with e | e <;> rw [e] <;> unfold eCut <;> rw [ht] <;> rfl

theorem MoS.ok2 {s : MoS} (h : s.inv) (hi : s.i.toNat < 2) : s.bad2 = false := by
  obtain ⟨_, _, hx, hn⟩ := h
  have hz := MoS.size_eq ⟨by assumption, by assumption, hx, hn⟩ hi
  have hsz : 1 ≤ s.size.toNat := by rcases hz with e | e <;> rw [e] <;> decide
  have hk : s.k.toNat < s.size.toNat := by
    unfold MoS.k
    rw [srem_nat hn hz]; exact Nat.mod_lt _ hsz
  have hp : Mem s.part s.half := cut_mem hx hz
  have hle : s.size.toNat ≤ 64 := by rcases hz with e | e <;> rw [e] <;> decide
  have hki : s.k.toInt = (s.k.toNat : Int) := int_of_nat (by omega)
  have hzi : s.size.toInt = (s.size.toNat : Int) := int_of_nat hle
  have hb : badArsh s.part s.k s.size = false := by
    have z0 : (0#64 : W).toInt = 0 := rfl
    have hz2 : (s.size != 32#64 && s.size != 64#64) = false := by rcases hz with e | e <;> rw [e] <;> rfl
    simp only [badArsh, hp.may, hz2, lt_int, le_int, z0, hki, hzi, Bool.not_true, Bool.false_or, Bool.or_eq_false_iff, decide_eq_false_iff_not]
    omega
  have hd : Mem s.down s.want := by
    have : s.down = tArsh s.part s.k s.size := by unfold MoS.down Tn.mux; rw [hb]; rfl
    have hu : toU s.k = s.k := by
      show (s.k.signExtend 64 : W) = s.k
      exact BitVec.signExtend_eq _
    have hw : s.want = aluV 12#64 (s.size == 64#64) (fitW (s.size == 64#64) s.x) s.k := by
      unfold MoS.want
      rw [hu]; rfl
    rw [this, hw]
    exact arsh_mem hx hz hk
  unfold MoS.bad2
  rw [has_iff.2 hp, hb, has_iff.2 hd]
  rfl

def moT (s : MoS) : Rd MoS := .exit 0 (runN MoS.go MoS.nxt 2 s)

theorem moGoal (s : MoS) (h : s.inv) : LoopGoal Try.prog (loopAt Try.prog 12 pMo) lpMo moT s 1 159 0 := by
  refine lp_rule (cx := ⟨Try.prog, tabOf lG, inlF Try.prog (tabOf lG) noHooks 2⟩) gG (inlF_ok gG 2) (Λ := fun _ => none) (p := []) lpMo MoS.inv MoS.mu MoS.step moT 1 159 0 (fun _ => ⟨rfl, rfl⟩) ?_ ?_ s h
  · intro s r h hi
    refine fl_ok (g := s.go) (L := [0 ≤ toZ .i64 s.i ∧ toZ .i64 s.i < ((2 : Nat) : Int), s.size ≠ 0#64]) (by kernel_rfl) (fun hg p hp => ?_)
    rw [MoS.go_iff hi, decide_eq_true_eq] at hg
    simp only [List.mem_cons, List.not_mem_nil, or_false] at hp
    rcases hp with rfl | rfl
    · exact (ixOb_holds (n := 2) (by decide) hg).1
    · rcases MoS.size_eq hi hg with e | e <;> rw [e] <;> decide
  · refine good_run MoS.dec (fun s h => by simp only [MoS.mu]; omega) ?_ ?_
    · intro s hi hg
      have hlt := hg
      rw [MoS.go_iff hi, decide_eq_true_eq] at hlt
      simp only [MoS.step, Rd.sel, hg, if_true, MoS.ok1 hi hlt, MoS.ok2 hi hlt, Bool.false_eq_true, if_false]
    · intro s hi hg
      simp only [MoS.step, Rd.sel, hg, Bool.false_eq_true, if_false]

noncomputable def hMo : FuncId → Hook := fun f p => if f == 12 && p == pMo then some (lpMo.hk moT) else none

def n64 (n : W) : W := convB .u64 .i64 (remB .u64 (convB .i64 .u64 n) 64#64)
def moS (a : Tn) (x n : W) : MoS := ⟨a, n64 n, false, a.v ||| x &&& a.m, szF, 0#64⟩
def lshR (t : Tn) (n : W) : Tn := Tn.mux (badSh t n) nil (tLsh t n)
def rshR (t : Tn) (n : W) : Tn := Tn.mux (badSh t n) nil (tRsh t n)
def shE (t : Tn) (n : W) : Bool := (bif badSh t n then 1#64 else 0#64) == (0#64 : W)
def movesR (t : Tn) (x n : W) : Bool :=
  shE t n && shE t n && shE (lshR t n) n && has (lshR t n) (x <<< shn n) && has (rshR t n) (shrW x (shn n)) && has (rshR (lshR t n) n) (shrW (x <<< shn n) (shn n)) && leB .i64 (freeW (rshR t n)) (freeW t) && leB .i64 (freeW (lshR t n)) (freeW t)
def moves (a : Tn) (x n : W) : Bool :=
  bif !true || !may a then true else movesR (runN MoS.go MoS.nxt 2 (moS a x n)).t (runN MoS.go MoS.nxt 2 (moS a x n)).x (runN MoS.go MoS.nxt 2 (moS a x n)).n

theorem MoS.keep (k : Nat) (s : MoS) : (runN MoS.go MoS.nxt k s).t = s.t ∧ (runN MoS.go MoS.nxt k s).x = s.x ∧ (runN MoS.go MoS.nxt k s).n = s.n :=
  runN_inv (go := MoS.go) (next := MoS.nxt) (fun u => u.t = s.t ∧ u.x = s.x ∧ u.n = s.n) (fun u h _ => h) k s ⟨rfl, rfl, rfl⟩

theorem n64_lt (n : W) : (n64 n).toNat < 64 := by
  have e : n64 n = (((n.signExtend 64) % 64#64).setWidth 64 : W) := rfl
  rw [e, BitVec.setWidth_eq, BitVec.toNat_umod]
  have : (64#64 : W).toNat = 64 := rfl
  rw [this]
  exact Nat.mod_lt _ (by decide)

theorem rsh_mem {t : Tn} {x : W} (h : Mem t x) (k : Nat) : Mem ⟨t.v >>> k, t.m >>> k⟩ (x >>> k) := by
  rw [mem_iff_bits]
  intro i hi
  simp only [BitVec.getLsbD_ushiftRight]
  by_cases hk : k + i < 64
  · exact h.bit (k + i) hk
  · rw [BitVec.getLsbD_of_ge t.v _ (by omega), BitVec.getLsbD_of_ge x _ (by omega)]; rfl

theorem lsh_mem' {t : Tn} {x : W} (h : Mem t x) (k : Nat) : Mem ⟨t.v <<< k, t.m <<< k⟩ (x <<< k) := by
  rw [mem_iff_bits]
  intro i hi
  simp only [BitVec.getLsbD_shiftLeft, hi, decide_true, Bool.true_and]
  by_cases hk : i < k
  · simp [hk]
  · rw [h.bit (i - k) (by omega)]; simp [hk]

theorem free_le {a b : Tn} (ha : may a = true) (hb : may b = true) (h : ones a.m ≤ ones b.m) : leB .i64 (freeW a) (freeW b) = true := by
  obtain ⟨p1, p2⟩ := popW_eq a.m
  obtain ⟨p3, p4⟩ := popW_eq b.m
  unfold freeW
  rw [ha, hb]
  simp only [Bool.not_true, cond_false, p1, p3]
  rw [le_int, ofNat_int _ p2, ofNat_int _ p4, decide_eq_true_eq]
  omega

theorem movesR_true {t : Tn} {x n : W} (h : Mem t x) (hn : n.toNat < 64) : movesR t x n = true := by
  have hi := int_of_nat (x := n) (by omega)
  have bs : ∀ u : Tn, may u = true → badSh u n = false := fun u hu => badSh_false hu (by omega) (by omega)
  have sh : shn n = n.toNat := shn_eq n
  have l : ∀ u : Tn, may u = true → lshR u n = ⟨u.v <<< n.toNat, u.m <<< n.toNat⟩ := fun u hu => by
    unfold lshR Tn.mux; rw [bs u hu]; simp only [cond_false, tLsh, sh]
  have r : ∀ u : Tn, may u = true → rshR u n = ⟨u.v >>> n.toNat, u.m >>> n.toNat⟩ := fun u hu => by
    unfold rshR Tn.mux; rw [bs u hu]; simp only [cond_false, tRsh, sh, shr_eq]
  have m1 := lsh_mem' h n.toNat
  have m2 := rsh_mem h n.toNat
  have m3 := rsh_mem m1 n.toNat
  have e : ∀ u : Tn, may u = true → shE u n = true := fun u hu => by unfold shE; rw [bs u hu]; rfl
  have sw : ∀ y : W, shrW y n.toNat = y >>> n.toNat := fun y => rfl
  unfold movesR
  rw [l t h.may, r t h.may, e t h.may, e _ m1.may, r _ m1.may, sh, sw, sw, has_iff.2 m1, has_iff.2 m2, has_iff.2 m3, free_le m2.may h.may (ones_shr _ _), free_le m1.may h.may (ones_shl _ _)]
  rfl

theorem moves_true (a : Tn) (x n : W) : moves a x n = true := by
  unfold moves
  cases ha : may a with
  | false => rfl
  | true =>
    obtain ⟨k1, k2, k3⟩ := MoS.keep 2 (moS a x n)
    rw [k1, k2, k3]
    have hm : Mem a (a.v ||| x &&& a.m) := by
      rw [mem_iff_bits]
      intro i hi
      have := may_bit ha i
      simp only [BitVec.getLsbD_or, BitVec.getLsbD_and]
      revert this
      cases a.m.getLsbD i <;> cases a.v.getLsbD i <;> simp
    exact movesR_true hm (n64_lt n)


theorem memb {a : Tn} (ha : may a = true) (x : W) : Mem a (a.v ||| x &&& a.m) := by
  rw [mem_iff_bits]
  intro i hi
  have := may_bit ha i
  simp only [BitVec.getLsbD_or, BitVec.getLsbD_and]
  revert this
  cases a.m.getLsbD i <;> cases a.v.getLsbD i <;> simp

theorem ev12 (a : Tn) (x n : W) : Ev Try.prog (tabOf lG) hMo 5 12 [eTn a, cW.enc x, cI.enc n] (eB (moves a x n)) :=
  Ev.fl (g := !(!true || !may a)) (L := [LoopGoal Try.prog (loopAt Try.prog 12 pMo) lpMo moT (moS a x n) 1 159 0]) (by kernel_rfl) (fun hg p hp => by
    simp only [List.mem_singleton] at hp
    subst hp
    have ha : may a = true := by simpa using hg
    exact moGoal _ ⟨by show (0#64 : W).toNat ≤ 2; decide, rfl, memb ha x, n64_lt n⟩)

theorem ev12' (a : Tn) (x n : W) : Ev Try.prog (tabOf lG) hMo 5 12 [eTn a, cW.enc x, cI.enc n] (eB true) := by
  have h := ev12 a x n
  rwa [moves_true] at h

theorem lift12 (os : Os) (started : os.Started) (H : Type) (enc : TypeId × Value → H) :
    ReturnsInHanded {} Try.checked os 12 .any (Rows.tnumMovesSpec.pre6 enc Try.prog Try.f12 Rows.tnumMovesRow.domain false) (Rows.tnumMovesSpec.post enc Try.prog Try.f12 false true false false) :=
  law_lift (C := Try.checked) (tb := 4) [sTn, sW, sI] own started (by kernel_rfl) Try.func12
    (ChangeSpec.witness6 (enc := enc) (C := Try.checked) false ⟨#[], #[.agg #[.int .u64 0, .int .u64 0], .int .u64 0, .int .i64 0], []⟩ 8 (by kernel_rfl) (by kernel_rfl) (by kernel_rfl) (by kernel_rfl))
    (by kernel_rfl) rfl Try.underlying4 rfl
    (fun ds h => match ds, h with | [_, _, _], _ => rfl)
    (fun xs w => match xs with
      | (a, x, n, ()) => (ev12' ⟨a.1, a.2.1⟩ x n).calls gG (encs_ok (l := [sTn, sW, sI]) (ts := Try.f12.params.toList) (by kernel_rfl) (a, x, n, ())) w)

theorem tnumMoves_row : Rows.TnumMovesSaid :=
  OpenClaim.holds_of_wide 12 Try.f12 rfl rfl rfl rfl rfl rfl rfl ⟨rfl, rfl, rfl, rfl, rfl⟩ rfl rfl rfl rfl rfl (by kernel_rfl) Try.func12 (by kernel_rfl)
    (of_decide_eq_true (by kernel_rfl)) (by unfold Func.isWrapper; first | (rw [if_pos (by decide +kernel)]; kernel_rfl) | (rw [if_neg (by decide +kernel)]; exact ⟨rfl, rfl⟩))
    (fun os started H enc _ => lift12 os started H enc)
end Go.Rf

namespace Go.Proofs.Ytkfgohhmicfnhaa
theorem tnumMoves_holds : Rows.TnumMovesSaid := Go.Rf.tnumMoves_row
end Go.Proofs.Ytkfgohhmicfnhaa
