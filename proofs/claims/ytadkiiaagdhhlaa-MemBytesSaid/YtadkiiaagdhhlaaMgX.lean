/- Several texts as one: Mg1 Mg2 Mg3 Mg4 Mg5 Mg6 Mg7 Mg8 Mg9 MgA. -/
import Derived.Test.YtadkiiaagdhhlaaMeXB
import Derived.LoopN
import Derived.Test.YtadkiiaagdhhlaaRfI
set_option linter.unusedVariables false
set_option linter.unusedSimpArgs false
set_option maxRecDepth 100000

/- Memory: the document's Get by its contract over any bytes. -/
namespace Go.Rf
open Go.Proofs

structure RgS where
  off : W
  size : W
  n : W
  p : W
  j : W
def pRg : List Nat := [1, 1, 1, 1, 1, 0, 1, 4]
section
variable (b : Nat → B8) (L : Nat)
def RgS.go (s : RgS) : Bool := ltB .i64 s.j s.size
def RgS.nxt (s : RgS) : RgS := ⟨s.off, s.size, s.n + s.p * zx (b (ixN (s.off + s.j))), s.p * 256#64, s.j + 1#64⟩
def RgS.step (s : RgS) : Rd RgS := .br s.go (.norm (s.nxt b)) (.exit 0 s)
structure RgS.inv (s : RgS) : Prop where
  sz : s.size.toNat ≤ 8
  le : s.j.toNat ≤ s.size.toNat
  fit : s.off.toNat + s.size.toNat ≤ L
  big : L < 2 ^ 62
def RgS.mu (s : RgS) : Nat := s.size.toNat - s.j.toNat
def RgS.T (s : RgS) : Rd RgS := .exit 0 (runN RgS.go (RgS.nxt b) 8 s)
theorem RgS.go_iff {s : RgS} (h : s.inv L) : s.go = true ↔ s.j.toNat < s.size.toNat := by
  have h1 := h.sz
  have h2 := h.le
  unfold RgS.go
  rw [ltB_nat (by omega) (by omega), decide_eq_true_eq]
theorem RgS.dec (s : RgS) (h : s.inv L) (hg : s.go = true) : (s.nxt b).inv L ∧ (s.nxt b).mu < s.mu := by
  rw [RgS.go_iff L h] at hg
  have h1 := h.sz
  have e : (s.j + 1#64).toNat = s.j.toNat + 1 := succ_nat (by omega)
  refine ⟨⟨h1, ?_, h.fit, h.big⟩, ?_⟩
  · show (s.j + 1#64).toNat ≤ s.size.toNat; omega
  · show s.size.toNat - (s.j + 1#64).toNat < s.size.toNat - s.j.toNat; omega
end
noncomputable def lpRg (D : SlD sB) : Lp RgS where
  keys := [10, 8, 9, 0, 1, 2]
  names := [0]
  scr := wrAt Try.prog 25 pRg
  vals s := [eI s.j, eW s.n, eW s.p, D.at 0, eI s.off, eI s.size]
  blks s := [D.blk]
  dec vs bs := match vs, bs with
    | [j, n, p, _, o, z], [_] => match cI.dec j, cW.dec n, cW.dec p, cI.dec o, cI.dec z with
      | some j, some n, some p, some o, some z => some ⟨o, z, n, p, j⟩
      | _, _, _, _, _ => none
    | _, _ => none
theorem goalRg (D : SlD sB) (s : RgS) (h : s.inv D.len) : LoopGoal Try.prog (loopAt Try.prog 25 pRg) (lpRg D) (RgS.T (elB D)) s 1 43 1 := by
  refine lp_rule (cx := cxM) rma9 hIM (Λ := fun _ => none) (p := []) (lpRg D) (RgS.inv D.len) RgS.mu (RgS.step (elB D)) (RgS.T (elB D)) 1 43 1 (fun _ => ⟨rfl, rfl⟩) ?_ ?_ s h
  · intro s r hh hi
    refine fl_ok (g := s.go) (L := [0 ≤ toZ .i64 (s.off + s.j) ∧ toZ .i64 (s.off + s.j) < toZ .i64 (BitVec.ofNat 64 D.len), D.pre.length = D.pre.length, (toZ .i64 (s.off + s.j)).toNat < D.len]) (by kernel_rfl) (fun hg p hp => ?_)
    rw [RgS.go_iff D.len hi] at hg
    have h1 := hi.sz
    have h2 := hi.fit
    have h3 := hi.big
    have e0 : (s.off + s.j).toNat = s.off.toNat + s.j.toNat := by rw [BitVec.toNat_add]; omega
    have e1 : toZ .i64 (s.off + s.j) = (s.off + s.j).toNat := toZ_nat (by omega)
    have e2 : toZ .i64 (BitVec.ofNat 64 D.len) = D.len := by rw [toZ_nat (by rw [ofNat_toNat (by omega)]; omega), ofNat_toNat (by omega)]
    simp only [List.mem_cons, List.not_mem_nil, or_false] at hp
    rcases hp with rfl | rfl | rfl
    · rw [e1, e2]; omega
    · trivial
    · rw [e1]; omega
  · show ∀ s, s.inv D.len → Good (RgS.inv D.len) RgS.mu (fun s => .exit 0 (runN RgS.go (RgS.nxt (elB D)) 8 s)) s (s.step (elB D)).sel
    refine good_run (go := RgS.go) (next := RgS.nxt (elB D)) (RgS.dec (elB D) D.len) (fun s h => by unfold RgS.mu; have := h.sz; omega) ?_ ?_
    · intro s hi hg
      simp only [RgS.step, Rd.sel, hg, if_true]
    · intro s hi hg
      simp only [RgS.step, Rd.sel, hg, Bool.false_eq_true, if_false]
end Go.Rf

/- Memory: the document's Get tells what Get tells. -/
namespace Go.Rf
open Go.Proofs

noncomputable def F0 : List Oper := opsM 25 [0]
noncomputable def F1 : List Oper := opsM 25 [1, 0, 0]
noncomputable def F2 : List Oper := opsM 25 [1, 0, 1, 2, 0]
noncomputable def F3 : List Oper := opsM 25 [1, 1, 0, 0]
noncomputable def F4 : List Oper := opsM 25 [1, 1, 0, 1, 2, 0]
noncomputable def F5 : List Oper := opsM 25 [1, 1, 1, 0]
noncomputable def F6 : List Oper := opsM 25 [1, 1, 1, 1, 0]
noncomputable def F7 : List Oper := opsM 25 [1, 1, 1, 1, 1, 0, 0]
noncomputable def F12 : List Oper := opsM 25 [1, 1, 1, 1, 1, 1, 0]
noncomputable def FL : Code := .block 0 (.loop (loopAt Try.prog 25 pRg))
theorem body25 : Try.f25.body = some (.seq (.region 0 F0.toArray false) (.seq (.seq (.region 1 F1.toArray false) (retIf 13 2 F2)) (.seq (.seq (.region 3 F3.toArray false) (retIf 23 4 F4)) (.seq (.region 5 F5.toArray false) (.seq (.region 6 F6.toArray false)
  (.seq (.seq (.region 7 F7.toArray false) FL) (.seq (.region 12 F12.toArray false) .ret))))))) := by kernel_rfl
def rgS (x : GI) : RgS := ⟨x.off, x.size, 0#64, 1#64, 0#64⟩
def rgN (x : GI) : W := (runN RgS.go (RgS.nxt (elB x.D)) 8 (rgS x)).n
def outB2 (x : GI) : Bool := ltB .i64 x.off 0#64 || ltB .i64 (BitVec.ofNat 64 x.D.len - x.size) x.off
section
variable (x : GI)
noncomputable def rq0 : St := St.enter (argG x) (hpB x.D.blk) 1 43
noncomputable def rq1 : St := outM (evalList cxM F0 (rq0 x))
noncomputable def rq2 : St := outM (evalList cxM F1 (rq1 x))
noncomputable def rqA : St := outM (evalList cxM F2 (rq2 x))
noncomputable def rq3 : St := outM (evalList cxM F3 (rq2 x))
noncomputable def rqB : St := outM (evalList cxM F4 (rq3 x))
noncomputable def rq5 : St := outM (evalList cxM F5 (rq3 x))
noncomputable def rq6 : St := outM (evalList cxM F6 (rq5 x))
noncomputable def rq7 : St := outM (evalList cxM F7 (rq6 x))
noncomputable def hkR : Hook := fun p => if p == [4] then some ((lpRg x.D).hk (RgS.T (elB x.D))) else none
noncomputable def rq8 : St := outK (evalCode cxM (hkR x) FL [] (rq7 x))
noncomputable def rq9 : St := outM (evalList cxM F12 (rq8 x))
theorem er1 : ∃ ob, evalList cxM F0 (rq0 x) = some (rq1 x, ob) ∧ ob.holds := fl_two (L := []) (by kernel_rfl) (by kernel_rfl) (by simp)
theorem er2 : ∃ ob, evalList cxM F1 (rq1 x) = some (rq2 x, ob) ∧ ob.holds := fl_two (L := []) (by kernel_rfl) (by kernel_rfl) (by simp)
theorem rq2g : (rq2 x).look 13 = .bool fun _ => !(sizeB x.size) := by kernel_rfl
theorem erA : ∃ ob, evalList cxM F2 (rq2 x) = some (rqA x, ob) ∧ ob.holds := fl_two (L := []) (by kernel_rfl) (by kernel_rfl) (by simp)
theorem rqAa : (rqA x).look 6 = .lit .u64 0 := by kernel_rfl
theorem rqAb : (rqA x).look 7 = .lit .i64 1 := by kernel_rfl
theorem rqAc : (rqA x).hp 0 = some x.D.blk := by kernel_rfl
theorem er3 (h : x.D.len < 2 ^ 63) : ∃ ob, evalList cxM F3 (rq2 x) = some (rq3 x, ob) ∧ ob.holds := fl_two (L := [0 ≤ toZ .i64 (BitVec.ofNat 64 x.D.len)]) (by kernel_rfl) (by kernel_rfl) (len_ob h)
theorem rq3g : (rq3 x).look 23 = .bool fun _ => outB2 x := by kernel_rfl
theorem erB : ∃ ob, evalList cxM F4 (rq3 x) = some (rqB x, ob) ∧ ob.holds := fl_two (L := []) (by kernel_rfl) (by kernel_rfl) (by simp)
theorem rqBa : (rqB x).look 6 = .lit .u64 0 := by kernel_rfl
theorem rqBb : (rqB x).look 7 = .lit .i64 42 := by kernel_rfl
theorem rqBc : (rqB x).hp 0 = some x.D.blk := by kernel_rfl
theorem er5 : ∃ ob, evalList cxM F5 (rq3 x) = some (rq5 x, ob) ∧ ob.holds := fl_two (L := []) (by kernel_rfl) (by kernel_rfl) (by simp)
theorem er6 : ∃ ob, evalList cxM F6 (rq5 x) = some (rq6 x, ob) ∧ ob.holds := fl_two (L := []) (by kernel_rfl) (by kernel_rfl) (by simp)
theorem er7 : ∃ ob, evalList cxM F7 (rq6 x) = some (rq7 x, ob) ∧ ob.holds := fl_two (L := []) (by kernel_rfl) (by kernel_rfl) (by simp)
theorem er8 (h : (rgS x).inv x.D.len) : ∃ ob, evalCode cxM (hkR x) FL [] (rq7 x) = some (.norm (rq8 x), ob) ∧ ob.holds :=
  fl_two (L := [LoopGoal Try.prog (loopAt Try.prog 25 pRg) (lpRg x.D) (RgS.T (elB x.D)) (rgS x) 1 43 1]) (by kernel_rfl) (by kernel_rfl) (fun p hp => by
    simp only [List.mem_singleton] at hp
    subst hp
    exact goalRg x.D _ h)
theorem er9 : ∃ ob, evalList cxM F12 (rq8 x) = some (rq9 x, ob) ∧ ob.holds := fl_two (L := []) (by kernel_rfl) (by kernel_rfl) (by simp)
theorem rq9a : (rq9 x).look 6 = eW (rgN x) := by kernel_rfl
theorem rq9b : (rq9 x).look 7 = .lit .i64 0 := by kernel_rfl
theorem rq9c : (rq9 x).hp 0 = some x.D.blk := by kernel_rfl
end
/-- The number is the same. -/
theorem rgN_val (x : GI) (hl : x.D.len < 2 ^ 62) (h : inE x.pi = 0#64) : rgN x = valN (elB x.D) x.off.toNat x.size.toNat := by
  obtain ⟨k1, k2⟩ := inE_bad (x := x.pi) hl h
  have k1' : x.size.toNat = 1 ∨ x.size.toNat = 2 ∨ x.size.toNat = 4 ∨ x.size.toNat = 8 := k1
  have k2' : x.off.toNat + x.size.toNat ≤ x.D.len := k2
  have hk8 : x.size.toNat ≤ 8 := by omega
  have pw : ∀ t : Nat, t ≤ 8 → (BitVec.ofNat 64 (256 ^ t) * 256#64 : W) = BitVec.ofNat 64 (256 ^ (t + 1)) := fun t ht => by
    apply BitVec.eq_of_toNat_eq
    rw [BitVec.toNat_mul, BitVec.toNat_ofNat, BitVec.toNat_ofNat, BitVec.toNat_ofNat, ← Nat.mul_mod, ← Nat.pow_succ]
  have hseq := runN_count (go := RgS.go) (next := RgS.nxt (elB x.D)) (fun t => (⟨x.off, x.size, valN (elB x.D) x.off.toNat t, BitVec.ofNat 64 (256 ^ t), BitVec.ofNat 64 t⟩ : RgS)) x.size.toNat
    (fun t ht => by
      show ltB .i64 (BitVec.ofNat 64 t) x.size = _
      rw [show x.size = BitVec.ofNat 64 x.size.toNat from (ofNat_selfM _).symm, ltB_ofNat (by omega) (by omega), ofNat_toNat (by omega)]) (fun t ht => by
      have hix : ixN (x.off + BitVec.ofNat 64 t) = x.off.toNat + t := by
        have e : (x.off + BitVec.ofNat 64 t).toNat = x.off.toNat + t := by rw [BitVec.toNat_add, ofNat_toNat (by omega)]; omega
        rw [ixN_nat (by omega), e]
      unfold RgS.nxt
      simp only [hix, ofNat_succ, pw t (by omega)]
      have e1 : valN (elB x.D) x.off.toNat t + BitVec.ofNat 64 (256 ^ t) * zx (elB x.D (x.off.toNat + t)) = valN (elB x.D) x.off.toNat (t + 1) := by
        apply BitVec.eq_of_toNat_eq
        have hg := numG_add (elB x.D) t x.off.toNat 1
        have hlt := numG_lt (elB x.D) (t + 1) x.off.toNat
        have hle : 256 ^ (t + 1) ≤ 2 ^ 64 := by
          have : (256 : Nat) ^ (t + 1) ≤ 256 ^ 8 := Nat.pow_le_pow_right (by decide) (by omega)
          have e : (256 : Nat) ^ 8 = 2 ^ 64 := by decide
          omega
        have hpt : 256 ^ t < 2 ^ 64 := by
          have : (256 : Nat) ^ t ≤ 256 ^ 7 := Nat.pow_le_pow_right (by decide) (by omega)
          have e : (256 : Nat) ^ 7 < 2 ^ 64 := by decide
          omega
        have h1 : numG (elB x.D) (x.off.toNat + t) 1 = (elB x.D (x.off.toNat + t)).toNat := by
          show _ + 256 * 0 = _
          omega
        rw [h1] at hg
        rw [BitVec.toNat_add, BitVec.toNat_mul, zx_nat, BitVec.toNat_ofNat, Nat.mod_eq_of_lt hpt, valN_G _ _ _ (by omega), valN_G _ _ _ (by omega), Nat.add_mod_mod, hg, Nat.mod_eq_of_lt (by omega)]
      rw [e1])
  have hinv : (rgS x).inv x.D.len := ⟨hk8, Nat.zero_le _, k2', hl⟩
  have hmu : (rgS x).mu = x.size.toNat := rfl
  unfold rgN
  rw [runN_ge (RgS.dec (elB x.D) x.D.len) 8 (rgS x) hinv (by rw [hmu]; omega), hmu]
  exact congrArg RgS.n hseq
end Go.Rf

/- Memory: the document's Get by its contract: the walk. -/
namespace Go.Rf
open Go.Proofs

/-- At a return of two plain values: nothing of the block that came in is written. -/
theorem retTwo {fn : Func} {t u : Nat} (hres : fn.results = #[.tmp t, .tmp u]) {D : SlD sB} {b : Nat} {w : World} (hb : w.heap[b]? = some (.cells (cells E0 [] D.blk.v).toArray D.T D.fz)) (st : St) {p q : AV} (f6 : st.look t = p) (f7 : st.look u = q) (hu : pf p = true) (hv : pf q = true) (g0 : st.hp 0 = some D.blk)
    {ae : Go.Act} {we : World} (hsg : SRel (E1 b) w st ae we) : bodyPost Try.prog fn (fun e w' => e = .returned (.tuple #[val E0 p, val E0 q]) ∧ RowKit.Below w.heap.size w w') .ret ae we := by
  obtain ⟨E, q1, q2, q3, q4, q5, q6, q7, q8, q9, q10⟩ := hsg
  obtain ⟨b0, s1, s2, s3⟩ := q4 0 _ g0
  have hb0 : E 0 = some b := q8.sub 0 b rfl
  obtain rfl : b0 = b := by rw [s1] at hb0; exact Option.some.inj hb0
  have tr : ∀ {t : Nat} {u : AV}, st.look t = u → pf u = true → ae.tmps.getD t undef = val E0 u := by
    intro t u h hp
    have q := q1 t
    rw [h] at q
    have e : val E u = ae.tmps.getD t undef := by
      cases u <;> first
        | exact q.2
        | simp [pf] at hp
    rw [← e]; exact val_pf hp E E0
  refine bodyPost_ret (results_two (t := t) (u := u) hres _ _ _) q3 ⟨by rw [tr f6 hu, tr f7 hv], ⟨q8.os, q8.tape, q8.output, q8.size, fun k hk => ?_⟩⟩
  by_cases hkb : k = b0
  · subst hkb
    rw [s3, (blk_cells (flatB.good _) E).1, hb]
    rfl
  · refine q8.keep k hk (fun n hn => hkb ?_)
    unfold E1 at hn
    split at hn
    · simpa using hn.symm
    · cases hn
theorem resR : Try.f25.results = #[.tmp 6, .tmp 7] := by kernel_rfl
theorem entR (x : GI) (hl : x.D.len < 2 ^ 63) {b : Nat} {w : World} (hb : w.heap[b]? = some (.cells (cells E0 [] x.D.blk.v).toArray x.D.T x.D.fz)) : SRel (E1 b) w (rq0 x) (enterActB (E1 b) Try.f25 (argG x)) w := by
  have hnt : Try.f25.ntmps = 43 := by kernel_rfl
  have h := enterB1 (fn := Try.f25) (args := argG x) (B := x.D.blk) (b := b) (w := w) (by rw [hnt]; show 3 ≤ 43; omega) (fun v hv => by
    simp only [argG, List.mem_cons, List.not_mem_nil, or_false] at hv
    rcases hv with rfl | rfl | rfl
    · exact (at_val (D := { x.D with b := b }) (n := 0) (E := E1 b) rfl hl).2
    · trivial
    · trivial) (blk_cells (flatB.good _) (E1 b)).2 (by rw [(blk_cells (flatB.good _) (E1 b)).1]; exact hb)
  rw [hnt] at h
  exact h
/-- The document's Get tells what Get tells. -/
theorem callsRGet (x : GI) (hl : x.D.len < 2 ^ 62) {b : Nat} {w : World} (hb : w.heap[b]? = some (.cells (cells E0 [] x.D.blk.v).toArray x.D.T x.D.fz)) :
    Calls Try.prog 25 ((argG x).map (val (E1 b))).toArray w (fun e w' => e = .returned (getA x) ∧ RowKit.Below w.heap.size w w') := by
  have hl' : x.D.len < 2 ^ 63 := by omega
  refine calls_of_wp Try.func25 body25 ?_
  have hs0 := entR x hl' hb
  refine wp_seq (regM (er1 x) hs0 fun a1 w1 hs1 => ?_)
  show (Code.seq (.seq (.region 1 F1.toArray false) (retIf 13 2 F2)) _).wp Try.prog _ a1 w1
  refine wp_seq (wp_seq (regM (er2 x) hs1 fun a2 w2 hs2 => ?_))
  have hc := boolM (rq2g x) hs2
  have eI' : inE x.pi = bif !(sizeB x.size) then 1#64 else bif outB2 x then 42#64 else 0#64 := rfl
  cases hs : sizeB x.size with
  | false =>
    rw [hs] at hc
    refine wp_cond_true hc ?_
    refine wp_seq (regM (erA x) hs2 fun a3 w3 hs3 => ?_)
    refine wp_ret ?_
    have := retTwo resR hb (rqA x) (rqAa x) (rqAb x) rfl rfl (rqAc x) hs3
    have e1 : inE x.pi = 1#64 := by rw [eI', hs]; rfl
    have ea : getA x = .tuple #[val E0 (.lit .u64 0), val E0 (.lit .i64 1)] := by
      unfold getA
      rw [e1]; rfl
    rw [ea]; exact this
  | true =>
    rw [hs] at hc
    refine wp_cond_false hc (wp_skip ?_)
    show (Code.seq (.seq (.region 3 F3.toArray false) (retIf 23 4 F4)) _).wp Try.prog _ a2 w2
    refine wp_seq (wp_seq (regM (er3 x hl') hs2 fun a3 w3 hs3 => ?_))
    have hc2 := boolM (rq3g x) hs3
    cases ho : outB2 x with
    | true =>
      rw [ho] at hc2
      refine wp_cond_true hc2 ?_
      refine wp_seq (regM (erB x) hs3 fun a4 w4 hs4 => ?_)
      refine wp_ret ?_
      have := retTwo resR hb (rqB x) (rqBa x) (rqBb x) rfl rfl (rqBc x) hs4
      have e1 : inE x.pi = 42#64 := by rw [eI', hs, ho]; rfl
      have ea : getA x = .tuple #[val E0 (.lit .u64 0), val E0 (.lit .i64 42)] := by
        unfold getA
        rw [e1]; rfl
      rw [ea]; exact this
    | false =>
      rw [ho] at hc2
      refine wp_cond_false hc2 (wp_skip ?_)
      have e1 : inE x.pi = 0#64 := by rw [eI', hs, ho]; rfl
      obtain ⟨k1, k2⟩ := inE_bad (x := x.pi) hl e1
      have k1' : x.size.toNat = 1 ∨ x.size.toNat = 2 ∨ x.size.toNat = 4 ∨ x.size.toNat = 8 := k1
      have k2' : x.off.toNat + x.size.toNat ≤ x.D.len := k2
      show (Code.seq (.region 5 F5.toArray false) _).wp Try.prog _ a3 w3
      refine wp_seq (regM (er5 x) hs3 fun a4 w4 hs4 => ?_)
      show (Code.seq (.region 6 F6.toArray false) _).wp Try.prog _ a4 w4
      refine wp_seq (regM (er6 x) hs4 fun a5 w5 hs5 => ?_)
      show (Code.seq (.seq (.region 7 F7.toArray false) FL) _).wp Try.prog _ a5 w5
      refine wp_seq (wp_seq (regM (er7 x) hs5 fun a6 w6 hs6 => ?_))
      show FL.wp Try.prog _ a6 w6
      refine codeM (er8 x ⟨by show x.size.toNat ≤ 8; omega, Nat.zero_le _, k2', hl⟩) hs6 fun a7 w7 hs7 => ?_
      show (Code.seq (.region 12 F12.toArray false) .ret).wp Try.prog _ a7 w7
      refine wp_seq (regM (er9 x) hs7 fun a8 w8 hs8 => ?_)
      refine wp_ret ?_
      have := retTwo resR hb (rq9 x) (rq9a x) (rq9b x) rfl rfl (rq9c x) hs8
      have ea : getA x = .tuple #[val E0 (eW (rgN x)), val E0 (.lit .i64 0)] := by
        unfold getA
        rw [e1, rgN_val x hl e1]
        show Value.tuple #[.int .u64 (toZ .u64 (getN x)), _] = _
        rw [getN_val x hl e1]; rfl
      rw [ea]; exact this
/-- The document's Get as a step. -/
theorem step_rget {Es : Env} {ws : World} {st : St} {a : Go.Act} {w : World} (hs : SRel Es ws st a w) {D : SlD sB} {n : Nat} (hB : st.hp n = some D.blk) (hl : D.len < 2 ^ 62) {off size : W} {o : Oper} {rest : List Oper} {Q : Exit → Go.Act → World → Prop}
    (hgd : o.guard = none) (hev : eff Try.prog (opd st.look) o.op = some (.call 25 [D.at n, .int .i64 fun _ => off, .int .i64 fun _ => size])) {dst : Nat} (hd : o.dst = some dst) (hdst : dst < st.nt)
    (hK : ∀ a' w', SRel Es ws (st.setT dst (getT ⟨D, off, size⟩)) a' w' → wpList Try.prog #[] Q rest a' w') : wpList Try.prog #[] Q (o :: rest) a w := by
  refine wpList_plain hgd fun K hKK => ?_
  obtain ⟨E, h1, h2, h3, h4, h5, h6, h7, h8, h9, h10⟩ := id hs
  obtain ⟨b, b1, b2, b3⟩ := h4 n D.blk hB
  have hrow : w.heap[b]? = some (.cells (cells E0 [] D.blk.v).toArray D.T D.fz) := by
    rw [b3, (blk_cells (flatB.good _) E).1]; rfl
  obtain ⟨_, hr⟩ := eff_run hev E a (fun x _ => opd_st h1 x)
  unfold Oper.wp
  rw [hr w, Oper.upon_enter]
  have hc := callsRGet ⟨D, off, size⟩ hl hrow
  have ea : ([D.at n, .int .i64 fun _ => off, .int .i64 fun _ => size].map (val E)) = (argG ⟨D, off, size⟩).map (val (E1 b)) := by
    simp only [argG, List.map_cons, List.map_nil, at_two b1 (show D.len < 2 ^ 63 by omega)]
    rfl
  rw [ea]
  refine hc.mono ?_
  rintro e w' ⟨rfl, hbel⟩
  refine hKK _ _ (hK _ w' ?_)
  rw [hd]
  exact tmp_set (below_rel hs hbel) hdst _ _ (fun E' _ => getT_rel _ E')
end Go.Rf

/- Memory: the document's Put: its code and states. -/
namespace Go.Rf
open Go.Proofs

noncomputable def H0 : List Oper := opsM 27 [0]
noncomputable def H1 : List Oper := opsM 27 [1, 0, 0]
noncomputable def H2 : List Oper := opsM 27 [1, 0, 1, 2, 0]
noncomputable def H3 : List Oper := opsM 27 [1, 1, 0, 0]
noncomputable def H4 : List Oper := opsM 27 [1, 1, 0, 1, 2, 0]
noncomputable def H5 : List Oper := opsM 27 [1, 1, 1, 0]
noncomputable def H6 : List Oper := opsM 27 [1, 1, 1, 1, 0, 0]
noncomputable def H7 : List Oper := opsM 27 [1, 1, 1, 1, 0, 1, 4, 5, 0, 0]
noncomputable def H9 : List Oper := opsM 27 [1, 1, 1, 1, 0, 1, 4, 5, 1, 0, 4, 0]
noncomputable def H10 : List Oper := opsM 27 [1, 1, 1, 1, 0, 1, 4, 5, 1, 0, 4, 1, 0, 0]
noncomputable def H11 : List Oper := opsM 27 [1, 1, 1, 1, 0, 1, 4, 5, 1, 0, 4, 1, 0, 1, 2, 0]
noncomputable def H12 : List Oper := opsM 27 [1, 1, 1, 1, 0, 1, 4, 5, 1, 0, 4, 1, 0, 1, 2, 1]
noncomputable def H13 : List Oper := opsM 27 [1, 1, 1, 1, 0, 1, 4, 5, 1, 0, 4, 1, 1]
noncomputable def H8 : List Oper := opsM 27 [1, 1, 1, 1, 0, 1, 4, 5, 1, 1]
noncomputable def H14 : List Oper := opsM 27 [1, 1, 1, 1, 1, 0]
noncomputable def rndH : Code := .seq (.seq (.region 7 H7.toArray false) (.cond (.tmp 29) .skip (.exit 0)))
  (.seq (.block 1 (.seq (.region 9 H9.toArray false) (.seq (.seq (.region 10 H10.toArray false) (.cond (.tmp 45) (.seq (.region 11 H11.toArray false) (.region 12 H12.toArray false)) .skip)) (.region 13 H13.toArray false)))) (.region 8 H8.toArray false))
theorem body27 : Try.f27.body = some (.seq (.region 0 H0.toArray false) (.seq (.seq (.region 1 H1.toArray false) (retIf 15 2 H2)) (.seq (.seq (.region 3 H3.toArray false) (retIf 25 4 H4)) (.seq (.region 5 H5.toArray false) (.seq (.seq (.region 6 H6.toArray false) (.block 0 (.loop rndH))) (.seq (.region 14 H14.toArray false) .ret)))))) := by kernel_rfl
theorem H13_eq : H13 = H13.take 3 ++ (opM H13 3 :: [opM H13 4]) := by kernel_rfl
theorem gH13 : noGd H13 = true ∧ noGd (H13.take 3) = true ∧ noGd [opM H13 4] = true := ⟨by kernel_rfl, by kernel_rfl, by kernel_rfl⟩
theorem oH : (opM H13 3).op = .call { callee := .builtin .append, args := #[.tmp 51, .tmp 53], argTypes := #[57, 57] } ∧ (opM H13 3).dst = some 54 ∧ (opM H13 3).guard = none := ⟨by kernel_rfl, by kernel_rfl, by kernel_rfl⟩
/-- What a round knows. -/
structure HI where
  D : SlD sB
  off : W
  size : W
def hbH0 (x : HI) : List (Nat × Option Blk) := [(0, some x.D.blk)]
def hbH1 (x : HI) (D1 : SlD sB) : List (Nat × Option Blk) := (2, some D1.blk) :: hbH0 x
def enH0 (x : HI) (n i : W) : List (Nat × AV) := [(0, x.D.at 0), (1, eI x.off), (2, eI x.size), (3, eW n), (11, eI i)]
def enHA (x : HI) (n i : W) : List (Nat × AV) := (10, .vsl none 0) :: enH0 x n i
def enHB (x : HI) (n i : W) (D1 : SlD sB) : List (Nat × AV) := (10, D1.at 2) :: enH0 x n i
/-- A round's beginning: nothing yet; something. -/
def stHA (x : HI) (n i : W) : St := ⟨enHA x n i, fun _ => .un, hbH0 x, fun _ => none, 1, 56, 1⟩
def stHB (x : HI) (n i : W) (D1 : SlD sB) : St := ⟨enHB x n i D1, fun _ => .un, hbH1 x D1, fun _ => none, 3, 56, 1⟩
def inR (x : HI) (i : W) : Bool := leB .i64 x.off i && ltB .i64 i (x.off + x.size)
def lowB8 (n : W) : B8 := convB .u64 .u8 (remB .u64 n 256#64)
theorem ix_ob {D : SlD sB} (hl : D.len < 2 ^ 62) {i : W} (hi : i.toNat < D.len) : ∀ p ∈ [0 ≤ toZ .i64 i ∧ toZ .i64 i < toZ .i64 (BitVec.ofNat 64 D.len), D.pre.length = D.pre.length, (toZ .i64 i).toNat < D.len], p := fun p hp => by
  have h1 : toZ .i64 i = i.toNat := toZ_nat (by omega)
  have h2 : toZ .i64 (BitVec.ofNat 64 D.len) = D.len := by rw [toZ_nat (by rw [ofNat_toNat (by omega)]; omega), ofNat_toNat (by omega)]
  simp only [List.mem_cons, List.not_mem_nil, or_false] at hp
  rcases hp with rfl | rfl | rfl
  · rw [h1, h2]; omega
  · trivial
  · rw [h1]; omega
noncomputable def m7A (x : HI) (n i : W) : St := outM (evalList cxM H7 (stHA x n i))
theorem e_m7A (x : HI) (n i : W) (h : x.D.len < 2 ^ 63) : ∃ ob, evalList cxM H7 (stHA x n i) = some ((m7A x n i), ob) ∧ ob.holds := fl_two (L := [0 ≤ toZ .i64 (BitVec.ofNat 64 x.D.len)]) (by kernel_rfl) (by kernel_rfl) (len_ob h)
theorem m7Ag (x : HI) (n i : W) : (m7A x n i).look 29 = .bool fun _ => ltB .i64 i (BitVec.ofNat 64 x.D.len) := by kernel_rfl
noncomputable def m9A (x : HI) (n i : W) : St := outM (evalList cxM H9 (m7A x n i))
theorem e_m9A (x : HI) (n i : W) (hl : x.D.len < 2 ^ 62) (hi : i.toNat < x.D.len) : ∃ ob, evalList cxM H9 (m7A x n i) = some ((m9A x n i), ob) ∧ ob.holds := fl_two (L := [0 ≤ toZ .i64 i ∧ toZ .i64 i < toZ .i64 (BitVec.ofNat 64 x.D.len), x.D.pre.length = x.D.pre.length, (toZ .i64 i).toNat < x.D.len]) (by kernel_rfl) (by kernel_rfl) (ix_ob hl hi)
noncomputable def m10A (x : HI) (n i : W) : St := outM (evalList cxM H10 (m9A x n i))
theorem e_m10A (x : HI) (n i : W) : ∃ ob, evalList cxM H10 (m9A x n i) = some ((m10A x n i), ob) ∧ ob.holds := fl_two (L := []) (by kernel_rfl) (by kernel_rfl) (by simp)
theorem m10Ag (x : HI) (n i : W) : (m10A x n i).look 45 = .bool fun _ => inR x i := by kernel_rfl
noncomputable def m11A (x : HI) (n i : W) : St := outM (evalList cxM H11 (m10A x n i))
theorem e_m11A (x : HI) (n i : W) : ∃ ob, evalList cxM H11 (m10A x n i) = some ((m11A x n i), ob) ∧ ob.holds := fl_two (L := []) (by kernel_rfl) (by kernel_rfl) (by simp)
noncomputable def m12A (x : HI) (n i : W) : St := outM (evalList cxM H12 (m11A x n i))
theorem e_m12A (x : HI) (n i : W) : ∃ ob, evalList cxM H12 (m11A x n i) = some ((m12A x n i), ob) ∧ ob.holds := fl_two (L := []) (by kernel_rfl) (by kernel_rfl) (by simp)
def enCA (x : HI) (n i : W) (y : B8) : List (Nat × AV) := (12, .int .u8 fun _ => y) :: enHA x n i
def stCA (x : HI) (n i : W) (y : B8) : St := ⟨enCA x n i y, fun _ => .un, hbH0 x, fun _ => none, 1, 56, 1⟩
theorem m12Ac (x : HI) (n i : W) : ((enCA x (quoB .u64 n 256#64) i (lowB8 n)).map fun z => unlitM ((m12A x n i).look z.1)) = (enCA x (quoB .u64 n 256#64) i (lowB8 n)).map (·.2) := by kernel_rfl
theorem m12Ad (x : HI) (n i : W) : ((hbH0 x).map fun z => (m12A x n i).hp z.1) = (hbH0 x).map (·.2) := by kernel_rfl
theorem m12Aa (x : HI) (n i : W) : (m12A x n i).nt = 56 ∧ (m12A x n i).lo = 1 := ⟨by kernel_rfl, by kernel_rfl⟩
theorem m10Ac (x : HI) (n i : W) : ((enCA x n i (elB x.D (ixN i))).map fun z => unlitM ((m10A x n i).look z.1)) = (enCA x n i (elB x.D (ixN i))).map (·.2) := by kernel_rfl
theorem m10Ad (x : HI) (n i : W) : ((hbH0 x).map fun z => (m10A x n i).hp z.1) = (hbH0 x).map (·.2) := by kernel_rfl
theorem m10Aa (x : HI) (n i : W) : (m10A x n i).nt = 56 ∧ (m10A x n i).lo = 1 := ⟨by kernel_rfl, by kernel_rfl⟩
theorem enCA_n (x : HI) (n i : W) (y : B8) : ((enCA x n i y).all fun z => nltB 1 z.2) = true := by kernel_rfl
theorem hbCA_n (x : HI) (n i : W) : ((hbH0 x).all fun z => Nat.blt z.1 1 && match z.2 with | some B => nltB 1 B.v | none => true) = true := by kernel_rfl
noncomputable def m13A (x : HI) (n i : W) (y : B8) : St := outM (evalList cxM (H13.take 3) (stCA x n i y))
theorem e_m13A (x : HI) (n i : W) (y : B8) : ∃ ob, evalList cxM (H13.take 3) (stCA x n i y) = some ((m13A x n i y), ob) ∧ ob.holds := fl_two (L := []) (by kernel_rfl) (by kernel_rfl) (by simp)
theorem m13Aa (x : HI) (n i : W) (y : B8) : (m13A x n i y).nt = 56 ∧ (m13A x n i y).lo = 1 ∧ (m13A x n i y).next = 2 := ⟨by kernel_rfl, by kernel_rfl, by kernel_rfl⟩
theorem m13Ab (x : HI) (n i : W) (y : B8) : (m13A x n i y).look 51 = .vsl none 0 := by kernel_rfl
theorem m13Ac (x : HI) (n i : W) (y : B8) : (m13A x n i y).look 53 = .slc 1 [] (.lit .i64 (1 : Nat)) 1 := by kernel_rfl
noncomputable def bk13A (x : HI) (n i : W) (y : B8) : Blk := ((m13A x n i y).hp 1).getD ⟨0, .un⟩
theorem m13Ad (x : HI) (n i : W) (y : B8) : (m13A x n i y).hp 1 = some (bk13A x n i y) ∧ noRaw (bk13A x n i y).v = true := ⟨by kernel_rfl, by kernel_rfl⟩
theorem m13Ae (x : HI) (n i : W) (y : B8) (E : Env) : cells E [] (bk13A x n i y).v = [.int .u8 (toZ .u8 y)] := by kernel_rfl
theorem m13Af (x : HI) (n i : W) (y : B8) : ((enH0 x n i).map fun z => unlitM ((m13A x n i y).look z.1)) = (enH0 x n i).map (·.2) := by kernel_rfl
theorem m13Ag (x : HI) (n i : W) (y : B8) : ((hbH0 x).map fun z => (m13A x n i y).hp z.1) = (hbH0 x).map (·.2) := by kernel_rfl
noncomputable def m7B (x : HI) (n i : W) (D1 : SlD sB) : St := outM (evalList cxM H7 (stHB x n i D1))
theorem e_m7B (x : HI) (n i : W) (D1 : SlD sB) (h : x.D.len < 2 ^ 63) : ∃ ob, evalList cxM H7 (stHB x n i D1) = some ((m7B x n i D1), ob) ∧ ob.holds := fl_two (L := [0 ≤ toZ .i64 (BitVec.ofNat 64 x.D.len)]) (by kernel_rfl) (by kernel_rfl) (len_ob h)
theorem m7Bg (x : HI) (n i : W) (D1 : SlD sB) : (m7B x n i D1).look 29 = .bool fun _ => ltB .i64 i (BitVec.ofNat 64 x.D.len) := by kernel_rfl
noncomputable def m9B (x : HI) (n i : W) (D1 : SlD sB) : St := outM (evalList cxM H9 (m7B x n i D1))
theorem e_m9B (x : HI) (n i : W) (D1 : SlD sB) (hl : x.D.len < 2 ^ 62) (hi : i.toNat < x.D.len) : ∃ ob, evalList cxM H9 (m7B x n i D1) = some ((m9B x n i D1), ob) ∧ ob.holds := fl_two (L := [0 ≤ toZ .i64 i ∧ toZ .i64 i < toZ .i64 (BitVec.ofNat 64 x.D.len), x.D.pre.length = x.D.pre.length, (toZ .i64 i).toNat < x.D.len]) (by kernel_rfl) (by kernel_rfl) (ix_ob hl hi)
noncomputable def m10B (x : HI) (n i : W) (D1 : SlD sB) : St := outM (evalList cxM H10 (m9B x n i D1))
theorem e_m10B (x : HI) (n i : W) (D1 : SlD sB) : ∃ ob, evalList cxM H10 (m9B x n i D1) = some ((m10B x n i D1), ob) ∧ ob.holds := fl_two (L := []) (by kernel_rfl) (by kernel_rfl) (by simp)
theorem m10Bg (x : HI) (n i : W) (D1 : SlD sB) : (m10B x n i D1).look 45 = .bool fun _ => inR x i := by kernel_rfl
noncomputable def m11B (x : HI) (n i : W) (D1 : SlD sB) : St := outM (evalList cxM H11 (m10B x n i D1))
theorem e_m11B (x : HI) (n i : W) (D1 : SlD sB) : ∃ ob, evalList cxM H11 (m10B x n i D1) = some ((m11B x n i D1), ob) ∧ ob.holds := fl_two (L := []) (by kernel_rfl) (by kernel_rfl) (by simp)
noncomputable def m12B (x : HI) (n i : W) (D1 : SlD sB) : St := outM (evalList cxM H12 (m11B x n i D1))
theorem e_m12B (x : HI) (n i : W) (D1 : SlD sB) : ∃ ob, evalList cxM H12 (m11B x n i D1) = some ((m12B x n i D1), ob) ∧ ob.holds := fl_two (L := []) (by kernel_rfl) (by kernel_rfl) (by simp)
def enCB (x : HI) (n i : W) (D1 : SlD sB) (y : B8) : List (Nat × AV) := (12, .int .u8 fun _ => y) :: enHB x n i D1
def stCB (x : HI) (n i : W) (D1 : SlD sB) (y : B8) : St := ⟨enCB x n i D1 y, fun _ => .un, hbH1 x D1, fun _ => none, 3, 56, 1⟩
theorem m12Bc (x : HI) (n i : W) (D1 : SlD sB) : ((enCB x (quoB .u64 n 256#64) i D1 (lowB8 n)).map fun z => unlitM ((m12B x n i D1).look z.1)) = (enCB x (quoB .u64 n 256#64) i D1 (lowB8 n)).map (·.2) := by kernel_rfl
theorem m12Bd (x : HI) (n i : W) (D1 : SlD sB) : ((hbH1 x D1).map fun z => (m12B x n i D1).hp z.1) = (hbH1 x D1).map (·.2) := by kernel_rfl
theorem m12Ba (x : HI) (n i : W) (D1 : SlD sB) : (m12B x n i D1).nt = 56 ∧ (m12B x n i D1).lo = 1 := ⟨by kernel_rfl, by kernel_rfl⟩
theorem m10Bc (x : HI) (n i : W) (D1 : SlD sB) : ((enCB x n i D1 (elB x.D (ixN i))).map fun z => unlitM ((m10B x n i D1).look z.1)) = (enCB x n i D1 (elB x.D (ixN i))).map (·.2) := by kernel_rfl
theorem m10Bd (x : HI) (n i : W) (D1 : SlD sB) : ((hbH1 x D1).map fun z => (m10B x n i D1).hp z.1) = (hbH1 x D1).map (·.2) := by kernel_rfl
theorem m10Ba (x : HI) (n i : W) (D1 : SlD sB) : (m10B x n i D1).nt = 56 ∧ (m10B x n i D1).lo = 1 := ⟨by kernel_rfl, by kernel_rfl⟩
theorem enCB_n (x : HI) (n i : W) (D1 : SlD sB) (y : B8) : ((enCB x n i D1 y).all fun z => nltB 3 z.2) = true := by kernel_rfl
theorem hbCB_n (x : HI) (n i : W) (D1 : SlD sB) : ((hbH1 x D1).all fun z => Nat.blt z.1 3 && match z.2 with | some B => nltB 3 B.v | none => true) = true := by kernel_rfl
noncomputable def m13B (x : HI) (n i : W) (D1 : SlD sB) (y : B8) : St := outM (evalList cxM (H13.take 3) (stCB x n i D1 y))
theorem e_m13B (x : HI) (n i : W) (D1 : SlD sB) (y : B8) : ∃ ob, evalList cxM (H13.take 3) (stCB x n i D1 y) = some ((m13B x n i D1 y), ob) ∧ ob.holds := fl_two (L := []) (by kernel_rfl) (by kernel_rfl) (by simp)
theorem m13Ba (x : HI) (n i : W) (D1 : SlD sB) (y : B8) : (m13B x n i D1 y).nt = 56 ∧ (m13B x n i D1 y).lo = 1 ∧ (m13B x n i D1 y).next = 4 := ⟨by kernel_rfl, by kernel_rfl, by kernel_rfl⟩
theorem m13Bb (x : HI) (n i : W) (D1 : SlD sB) (y : B8) : (m13B x n i D1 y).look 51 = D1.at 2 ∧ (m13B x n i D1 y).hp 2 = some D1.blk := ⟨by kernel_rfl, by kernel_rfl⟩
theorem m13Bc (x : HI) (n i : W) (D1 : SlD sB) (y : B8) : (m13B x n i D1 y).look 53 = .slc 3 [] (.lit .i64 (1 : Nat)) 1 := by kernel_rfl
noncomputable def bk13B (x : HI) (n i : W) (D1 : SlD sB) (y : B8) : Blk := ((m13B x n i D1 y).hp 3).getD ⟨0, .un⟩
theorem m13Bd (x : HI) (n i : W) (D1 : SlD sB) (y : B8) : (m13B x n i D1 y).hp 3 = some (bk13B x n i D1 y) ∧ noRaw (bk13B x n i D1 y).v = true := ⟨by kernel_rfl, by kernel_rfl⟩
theorem m13Be (x : HI) (n i : W) (D1 : SlD sB) (y : B8) (E : Env) : cells E [] (bk13B x n i D1 y).v = [.int .u8 (toZ .u8 y)] := by kernel_rfl
theorem m13Bf (x : HI) (n i : W) (D1 : SlD sB) (y : B8) : ((enH0 x n i).map fun z => unlitM ((m13B x n i D1 y).look z.1)) = (enH0 x n i).map (·.2) := by kernel_rfl
theorem m13Bg (x : HI) (n i : W) (D1 : SlD sB) (y : B8) : ((hbH0 x).map fun z => (m13B x n i D1 y).hp z.1) = (hbH0 x).map (·.2) := by kernel_rfl
theorem flatB1 (y : B8) : flatN sB 1 (fun _ => y) = [.int .u8 (toZ .u8 y)] := by kernel_rfl
theorem enH0_n (x : HI) (n i : W) : ((enH0 x n i).all fun z => nltB 2 z.2) = true := by kernel_rfl
theorem hbH0_n (x : HI) : ((hbH0 x).all fun z => Nat.blt z.1 2 && match z.2 with | some B => nltB 2 B.v | none => true) = true := by kernel_rfl
/-! Behind the append. -/
noncomputable def m14 (x : HI) (n i : W) (D1 : SlD sB) (k : Nat) : St := outM (evalList cxM [opM H13 4] (slSt D1 k 54 (enH0 x n i) (hbH0 x) 56 1))
noncomputable def m15 (x : HI) (n i : W) (D1 : SlD sB) : St := outM (evalList cxM H8 (m14 x n i D1 2))
theorem e_m14 (x : HI) (n i : W) (D1 : SlD sB) : ∃ ob, evalList cxM [opM H13 4] (slSt D1 2 54 (enH0 x n i) (hbH0 x) 56 1) = some (m14 x n i D1 2, ob) ∧ ob.holds := fl_two (L := []) (by kernel_rfl) (by kernel_rfl) (by simp)
theorem e_m15 (x : HI) (n i : W) (D1 : SlD sB) : ∃ ob, evalList cxM H8 (m14 x n i D1 2) = some (m15 x n i D1, ob) ∧ ob.holds := fl_two (L := []) (by kernel_rfl) (by kernel_rfl) (by simp)
theorem m15a (x : HI) (n i : W) (D1 : SlD sB) : (m15 x n i D1).nt = 56 ∧ (m15 x n i D1).lo = 1 := ⟨by kernel_rfl, by kernel_rfl⟩
theorem m15c (x : HI) (n i : W) (D1 : SlD sB) : ((enHB x n (i + 1#64) D1).map fun z => unlitM ((m15 x n i D1).look z.1)) = (enHB x n (i + 1#64) D1).map (·.2) := by kernel_rfl
theorem m15d (x : HI) (n i : W) (D1 : SlD sB) : ((hbH1 x D1).map fun z => (m15 x n i D1).hp z.1) = (hbH1 x D1).map (·.2) := by kernel_rfl
theorem enHB_n (x : HI) (n i : W) (D1 : SlD sB) : ((enHB x n i D1).all fun z => nltB 3 z.2) = true := by kernel_rfl
theorem hbH1_n (x : HI) (D1 : SlD sB) : ((hbH1 x D1).all fun z => Nat.blt z.1 3 && match z.2 with | some B => nltB 3 B.v | none => true) = true := by kernel_rfl
end Go.Rf

/- Memory: the document's Put: the rounds. -/
namespace Go.Rf
open Go.Proofs

theorem vslM {st : St} {t : Nat} (h : st.look t = .vsl none 0) {Es : Env} {ws : World} {a : Go.Act} {w : World} (hs : SRel Es ws st a w) : a.eval (.tmp t) = .slice none 0 0 := by
  obtain ⟨E, h1, _⟩ := hs
  have q := h1 t
  rw [h] at q
  exact q.2.symm
def nxtN (x : HI) (n : W) (i : Nat) : W := bif inR x (BitVec.ofNat 64 i) then quoB .u64 n 256#64 else n
def nxtY (x : HI) (n : W) (i : Nat) : B8 := bif inR x (BitVec.ofNat 64 i) then lowB8 n else elB x.D i
section
variable {Es : Env} {ws : World}
theorem tailA (x : HI) (n i : W) (y : B8) {Q : Exit → Go.Act → World → Prop} (hQ : ∀ (D' : SlD sB) a' w', D'.Fix 5 → D'.len = 1 → D'.els = (fun _ => y) → SRel Es ws (m14 x n i D' 2) a' w' → Q .normal a' w')
    {a : Go.Act} {w : World} (hs : SRel Es ws (stCA x n i y) a w) : (Code.region 13 H13.toArray false).wp Try.prog Q a w := by
  refine list_region (by simpa using gH13.1) ?_
  rw [List.toList_toArray, H13_eq]
  refine wpList_app _ (noGd_spec gH13.2.1) _ _ ?_
  refine lstM gH13.2.1 (e_m13A x n i y) hs fun a2 w2 hs2 => ⟨rfl, ?_⟩
  have hk : Kept (m13A x n i y) (m13A x n i y).next (enH0 x n i) (hbH0 x) := by
    rw [(m13Aa x n i y).2.2]
    exact kept_ofM (m13Af x n i y) (m13Ag x n i y) (enH0_n x n i) (hbH0_n x) (by rw [(m13Aa x n i y).2.1]; rfl)
  refine step_append_nil (P := Try.prog) flatB hs2 oH.2.2 oH.1 oH.2.1 (by rw [(m13Aa x n i y).1]; omega) (vslM (m13Ab x n i y) hs2) (m13Ac x n i y) (m13Ad x n i y).1 (m13Ad x n i y).2 (ys := fun _ => y) (fun E => (m13Ae x n i y E).trans (flatB1 y).symm) hk inf5 (.int .u8 0) t57 i5a i5b i5c rfl (by rw [i5d]; omega) (by omega) (by omega) ?_
  intro D' a3 w3 d1 d2 d3 hs3
  rw [(m13Aa x n i y).1, (m13Aa x n i y).2.1, (m13Aa x n i y).2.2] at hs3
  exact lstM gH13.2.2 (e_m14 x n i D') hs3 fun a4 w4 hs4 => hQ D' a4 w4 d1 d2 d3 hs4
theorem tailB (x : HI) (n i : W) (D1 : SlD sB) (hD : D1.Fix 5) (hDl : D1.len + 1 ≤ 140737488355328) (y : B8) {Q : Exit → Go.Act → World → Prop} (hQ : ∀ (D' : SlD sB) a' w', D'.Fix 5 → D'.len = D1.len + 1 → D'.els = catE D1.len D1.els (fun _ => y) → SRel Es ws (m14 x n i D' 2) a' w' → Q .normal a' w')
    {a : Go.Act} {w : World} (hs : SRel Es ws (stCB x n i D1 y) a w) : (Code.region 13 H13.toArray false).wp Try.prog Q a w := by
  refine list_region (by simpa using gH13.1) ?_
  rw [List.toList_toArray, H13_eq]
  refine wpList_app _ (noGd_spec gH13.2.1) _ _ ?_
  refine lstM gH13.2.1 (e_m13B x n i D1 y) hs fun a2 w2 hs2 => ⟨rfl, ?_⟩
  have hk : Kept (m13B x n i D1 y) 2 (enH0 x n i) (hbH0 x) := kept_ofM (m13Bf x n i D1 y) (m13Bg x n i D1 y) (enH0_n x n i) (hbH0_n x) (by rw [(m13Ba x n i D1 y).2.1]; rfl)
  refine step_append (P := Try.prog) flatB hs2 oH.2.2 (s := 51) (x := 53) (t := 57) (te := 5) oH.1 (dst := 54) oH.2.1 (by rw [(m13Ba x n i D1 y).1]; omega) (D := D1) (n := 2) (m13Bb x n i D1 y).1 (m13Bb x n i D1 y).2 hD
    (m := 3) (k := 1) (c := 1) (B2 := bk13B x n i D1 y) (ys := fun _ => y) (m13Bc x n i D1 y) (m13Bd x n i D1 y).1 (m13Bd x n i D1 y).2 (fun E => (m13Be x n i D1 y E).trans (flatB1 y).symm) hk inf5 (.int .u8 0) t57 i5a i5b i5c rfl (by rw [i5d]; omega) (by omega) ?_
  intro D' a3 w3 d1 d2 d3 hs3
  rw [(m13Ba x n i D1 y).1, (m13Ba x n i D1 y).2.1] at hs3
  exact lstM gH13.2.2 (e_m14 x n i D') hs3 fun a4 w4 hs4 => hQ D' a4 w4 d1 d2 d3 hs4
theorem roundA (x : HI) (hl : x.D.len ≤ 140737488355328) (n : W) (i : Nat) (hi : i < x.D.len) {Q : Exit → Go.Act → World → Prop} (hQ : ∀ (D' : SlD sB) a' w', D'.Fix 5 → D'.len = 1 → D'.els = (fun _ => nxtY x n i) → SRel Es ws (stHB x (nxtN x n i) (BitVec.ofNat 64 (i + 1)) D') a' w' → Q .normal a' w')
    {a : Go.Act} {w : World} (hs : SRel Es ws (m7A x n (BitVec.ofNat 64 i)) a w) :
    (Code.seq (.block 1 (.seq (.region 9 H9.toArray false) (.seq (.seq (.region 10 H10.toArray false) (.cond (.tmp 45) (.seq (.region 11 H11.toArray false) (.region 12 H12.toArray false)) .skip)) (.region 13 H13.toArray false)))) (.region 8 H8.toArray false)).wp Try.prog Q a w := by
  have hin : (BitVec.ofNat 64 i : W).toNat = i := ofNat_toNat (by omega)
  refine wp_seq (wp_block (wp_seq (regM (e_m9A x n _ (by omega) (by rw [hin]; exact hi)) hs fun a2 w2 hs2 => ?_)))
  show (Code.seq (.seq (.region 10 H10.toArray false) _) _).wp Try.prog _ a2 w2
  refine wp_seq (wp_seq (regM (e_m10A x n _) hs2 fun a3 w3 hs3 => ?_))
  have hc := boolM (m10Ag x n (BitVec.ofNat 64 i)) hs3
  have fin : ∀ (D' : SlD sB) (a' : Go.Act) (w' : World), D'.Fix 5 → D'.len = 1 → D'.els = (fun _ => nxtY x n i) → SRel Es ws (m14 x (nxtN x n i) (BitVec.ofNat 64 i) D' 2) a' w' → (Code.region 8 H8.toArray false).wp Try.prog Q a' w' := fun D' a' w' d1 d2 d3 h => by
    refine regM (e_m15 x _ _ D') h fun a5 w5 hs5 => ?_
    have hs6 := norm_relM (kept_ofM (m15c x (nxtN x n i) (BitVec.ofNat 64 i) D') (m15d x (nxtN x n i) (BitVec.ofNat 64 i) D') (enHB_n _ _ _ _) (hbH1_n _ _) (by rw [(m15a x (nxtN x n i) (BitVec.ofNat 64 i) D').2]; rfl)) (m15a x (nxtN x n i) (BitVec.ofNat 64 i) D').1 (m15a x (nxtN x n i) (BitVec.ofNat 64 i) D').2 hs5
    rw [ofNat_succ] at hs6
    exact hQ D' a5 w5 d1 d2 d3 hs6
  cases hr : inR x (BitVec.ofNat 64 i) with
  | true =>
    rw [hr] at hc
    have en : nxtN x n i = quoB .u64 n 256#64 := by unfold nxtN; rw [hr]; rfl
    have ey : nxtY x n i = lowB8 n := by unfold nxtY; rw [hr]; rfl
    refine wp_cond_true hc ?_
    refine wp_seq (regM (e_m11A x n _) hs3 fun a4 w4 hs4 => ?_)
    show (Code.region 12 H12.toArray false).wp Try.prog _ a4 w4
    refine regM (e_m12A x n _) hs4 fun a5 w5 hs5 => ?_
    have hs6 := norm_relM (kept_ofM (m12Ac x n (BitVec.ofNat 64 i)) (m12Ad x n (BitVec.ofNat 64 i)) (enCA_n x _ _ _) (hbCA_n x n (BitVec.ofNat 64 i)) (by rw [(m12Aa x n (BitVec.ofNat 64 i)).2]; rfl)) (m12Aa x n (BitVec.ofNat 64 i)).1 (m12Aa x n (BitVec.ofNat 64 i)).2 hs5
    show (Code.region 13 H13.toArray false).wp Try.prog _ a5 w5
    refine tailA x (quoB .u64 n 256#64) (BitVec.ofNat 64 i) (lowB8 n) (fun D' a' w' d1 d2 d3 h => ?_) hs6
    exact fin D' a' w' d1 d2 (by rw [ey]; exact d3) (by rw [en]; exact h)
  | false =>
    rw [hr] at hc
    have en : nxtN x n i = n := by unfold nxtN; rw [hr]; rfl
    have ey : nxtY x n i = elB x.D i := by unfold nxtY; rw [hr]; rfl
    refine wp_cond_false hc (wp_skip ?_)
    have hs6 := norm_relM (kept_ofM (m10Ac x n (BitVec.ofNat 64 i)) (m10Ad x n (BitVec.ofNat 64 i)) (enCA_n x _ _ _) (hbCA_n x n (BitVec.ofNat 64 i)) (by rw [(m10Aa x n (BitVec.ofNat 64 i)).2]; rfl)) (m10Aa x n (BitVec.ofNat 64 i)).1 (m10Aa x n (BitVec.ofNat 64 i)).2 hs3
    rw [ixN_ofNat (by omega)] at hs6
    show (Code.region 13 H13.toArray false).wp Try.prog _ a3 w3
    refine tailA x n (BitVec.ofNat 64 i) (elB x.D i) (fun D' a' w' d1 d2 d3 h => ?_) hs6
    exact fin D' a' w' d1 d2 (by rw [ey]; exact d3) (by rw [en]; exact h)
theorem roundB (x : HI) (hl : x.D.len ≤ 140737488355328) (n : W) (i : Nat) (hi : i < x.D.len) (D1 : SlD sB) (hD : D1.Fix 5) (hDl : D1.len = i) {Q : Exit → Go.Act → World → Prop} (hQ : ∀ (D' : SlD sB) a' w', D'.Fix 5 → D'.len = D1.len + 1 → D'.els = catE D1.len D1.els (fun _ => nxtY x n i) → SRel Es ws (stHB x (nxtN x n i) (BitVec.ofNat 64 (i + 1)) D') a' w' → Q .normal a' w')
    {a : Go.Act} {w : World} (hs : SRel Es ws (m7B x n (BitVec.ofNat 64 i) D1) a w) :
    (Code.seq (.block 1 (.seq (.region 9 H9.toArray false) (.seq (.seq (.region 10 H10.toArray false) (.cond (.tmp 45) (.seq (.region 11 H11.toArray false) (.region 12 H12.toArray false)) .skip)) (.region 13 H13.toArray false)))) (.region 8 H8.toArray false)).wp Try.prog Q a w := by
  have hin : (BitVec.ofNat 64 i : W).toNat = i := ofNat_toNat (by omega)
  refine wp_seq (wp_block (wp_seq (regM (e_m9B x n _ D1 (by omega) (by rw [hin]; exact hi)) hs fun a2 w2 hs2 => ?_)))
  show (Code.seq (.seq (.region 10 H10.toArray false) _) _).wp Try.prog _ a2 w2
  refine wp_seq (wp_seq (regM (e_m10B x n _ D1) hs2 fun a3 w3 hs3 => ?_))
  have hc := boolM (m10Bg x n (BitVec.ofNat 64 i) D1) hs3
  have fin : ∀ (D' : SlD sB) (a' : Go.Act) (w' : World), D'.Fix 5 → D'.len = D1.len + 1 → D'.els = catE D1.len D1.els (fun _ => nxtY x n i) → SRel Es ws (m14 x (nxtN x n i) (BitVec.ofNat 64 i) D' 2) a' w' → (Code.region 8 H8.toArray false).wp Try.prog Q a' w' := fun D' a' w' d1 d2 d3 h => by
    refine regM (e_m15 x _ _ D') h fun a5 w5 hs5 => ?_
    have hs6 := norm_relM (kept_ofM (m15c x (nxtN x n i) (BitVec.ofNat 64 i) D') (m15d x (nxtN x n i) (BitVec.ofNat 64 i) D') (enHB_n _ _ _ _) (hbH1_n _ _) (by rw [(m15a x (nxtN x n i) (BitVec.ofNat 64 i) D').2]; rfl)) (m15a x (nxtN x n i) (BitVec.ofNat 64 i) D').1 (m15a x (nxtN x n i) (BitVec.ofNat 64 i) D').2 hs5
    rw [ofNat_succ] at hs6
    exact hQ D' a5 w5 d1 d2 d3 hs6
  cases hr : inR x (BitVec.ofNat 64 i) with
  | true =>
    rw [hr] at hc
    have en : nxtN x n i = quoB .u64 n 256#64 := by unfold nxtN; rw [hr]; rfl
    have ey : nxtY x n i = lowB8 n := by unfold nxtY; rw [hr]; rfl
    refine wp_cond_true hc ?_
    refine wp_seq (regM (e_m11B x n _ D1) hs3 fun a4 w4 hs4 => ?_)
    show (Code.region 12 H12.toArray false).wp Try.prog _ a4 w4
    refine regM (e_m12B x n _ D1) hs4 fun a5 w5 hs5 => ?_
    have hs6 := norm_relM (kept_ofM (m12Bc x n (BitVec.ofNat 64 i) D1) (m12Bd x n (BitVec.ofNat 64 i) D1) (enCB_n x _ _ D1 _) (hbCB_n x n (BitVec.ofNat 64 i) D1) (by rw [(m12Ba x n (BitVec.ofNat 64 i) D1).2]; rfl)) (m12Ba x n (BitVec.ofNat 64 i) D1).1 (m12Ba x n (BitVec.ofNat 64 i) D1).2 hs5
    show (Code.region 13 H13.toArray false).wp Try.prog _ a5 w5
    refine tailB x (quoB .u64 n 256#64) (BitVec.ofNat 64 i) D1 hD (by omega) (lowB8 n) (fun D' a' w' d1 d2 d3 h => ?_) hs6
    exact fin D' a' w' d1 d2 (by rw [ey]; exact d3) (by rw [en]; exact h)
  | false =>
    rw [hr] at hc
    have en : nxtN x n i = n := by unfold nxtN; rw [hr]; rfl
    have ey : nxtY x n i = elB x.D i := by unfold nxtY; rw [hr]; rfl
    refine wp_cond_false hc (wp_skip ?_)
    have hs6 := norm_relM (kept_ofM (m10Bc x n (BitVec.ofNat 64 i) D1) (m10Bd x n (BitVec.ofNat 64 i) D1) (enCB_n x _ _ D1 _) (hbCB_n x n (BitVec.ofNat 64 i) D1) (by rw [(m10Ba x n (BitVec.ofNat 64 i) D1).2]; rfl)) (m10Ba x n (BitVec.ofNat 64 i) D1).1 (m10Ba x n (BitVec.ofNat 64 i) D1).2 hs3
    rw [ixN_ofNat (by omega)] at hs6
    show (Code.region 13 H13.toArray false).wp Try.prog _ a3 w3
    refine tailB x n (BitVec.ofNat 64 i) D1 hD (by omega) (elB x.D i) (fun D' a' w' d1 d2 d3 h => ?_) hs6
    exact fin D' a' w' d1 d2 (by rw [ey]; exact d3) (by rw [en]; exact h)
end
end Go.Rf

/- Memory: the document's Put by its contract. -/
namespace Go.Rf
open Go.Proofs

def nSeq (x : HI) (n : W) : Nat → W
  | 0 => n
  | i + 1 => nxtN x (nSeq x n i) i
def byS (x : HI) (n : W) (i : Nat) : B8 := nxtY x (nSeq x n i) i
section
variable {Es : Env} {ws : World}
theorem loopH (x : HI) (hl : x.D.len ≤ 140737488355328) (hpos : 0 < x.D.len) (n : W) {Q : Exit → Go.Act → World → Prop}
    (hQ : ∀ (D1 : SlD sB) m a' w', D1.Fix 5 → D1.len = x.D.len → (∀ j, j < x.D.len → D1.els j = byS x n j) → SRel Es ws (m7B x m (BitVec.ofNat 64 x.D.len) D1) a' w' → Q (.exit 0) a' w')
    {a0 : Go.Act} {w0 : World} (hs : SRel Es ws (stHA x n 0#64) a0 w0) : (Code.loop rndH).wp Try.prog Q a0 w0 := by
  refine wp_loop_ix (fun i a' w' => i ≤ x.D.len ∧ ((i = 0 ∧ SRel Es ws (stHA x n 0#64) a' w') ∨ (1 ≤ i ∧ ∃ D1 : SlD sB, D1.Fix 5 ∧ D1.len = i ∧ (∀ j, j < i → D1.els j = byS x n j) ∧ SRel Es ws (stHB x (nSeq x n i) (BitVec.ofNat 64 i) D1) a' w'))) (fun i => x.D.len - i) ?_ 0 a0 w0 ⟨Nat.zero_le _, .inl ⟨rfl, hs⟩⟩
  rintro i a1 w1 ⟨hi, ⟨rfl, hs1⟩ | ⟨h1, D1, d1, d2, d3, hs1⟩⟩
  · refine wp_seq (wp_seq (regM (e_m7A x n 0#64 (by omega)) hs1 fun a2 w2 hs2 => ?_))
    have hc := boolM (m7Ag x n 0#64) hs2
    rw [show (0#64 : W) = BitVec.ofNat 64 0 from rfl, ltB_ofNat (by omega) (by omega), decide_eq_true hpos] at hc
    refine wp_cond_true hc (wp_skip ?_)
    refine roundA x hl n 0 hpos (fun D' a3 w3 e1 e2 e3 hs3 => ?_) hs2
    refine ⟨1, ⟨by omega, .inr ⟨Nat.le_refl _, D', e1, e2, fun j hj => ?_, hs3⟩⟩, by omega⟩
    obtain rfl : j = 0 := by omega
    rw [e3]; rfl
  · refine wp_seq (wp_seq (regM (e_m7B x _ _ D1 (by omega)) hs1 fun a2 w2 hs2 => ?_))
    have hc := boolM (m7Bg x (nSeq x n i) (BitVec.ofNat 64 i) D1) hs2
    rw [ltB_ofNat (by omega) (by omega)] at hc
    by_cases hlt : i < x.D.len
    · rw [decide_eq_true hlt] at hc
      refine wp_cond_true hc (wp_skip ?_)
      refine roundB x hl (nSeq x n i) i hlt D1 d1 d2 (fun D' a3 w3 e1 e2 e3 hs3 => ?_) hs2
      refine ⟨i + 1, ⟨by omega, .inr ⟨by omega, D', e1, by omega, fun j hj => ?_, hs3⟩⟩, by omega⟩
      by_cases hj2 : j < D1.len
      · have h3 : D'.els j = D1.els j := (congrFun e3 j).trans (if_pos hj2)
        exact h3.trans (d3 j (by omega))
      · have h3 : D'.els j = nxtY x (nSeq x n i) i := (congrFun e3 j).trans (if_neg hj2)
        obtain rfl : j = i := by omega
        exact h3
    · rw [decide_eq_false hlt] at hc
      refine wp_cond_false hc ?_
      obtain rfl : i = x.D.len := by omega
      exact wp_exit (hQ D1 _ a2 w2 d1 d2 d3 hs2)
end
/-! What it comes to. -/
def HI.pi (x : HI) (n : W) : PI := ⟨x.D, x.off, x.size, n⟩
theorem inR_iff {x : HI} {n : W} (hx : (x.pi n).ok) {i : Nat} (hi : i < x.D.len) : inR x (BitVec.ofNat 64 i) = decide (x.off.toNat ≤ i ∧ i < x.off.toNat + x.size.toNat) := by
  have h1 : x.off.toNat + x.size.toNat ≤ x.D.len := hx.fit
  have h2 : x.D.len ≤ 140737488355328 := hx.few
  have es : (x.off + x.size).toNat = x.off.toNat + x.size.toNat := by rw [BitVec.toNat_add]; omega
  unfold inR
  rw [leI, show x.off + x.size = BitVec.ofNat 64 (x.off.toNat + x.size.toNat) from BitVec.eq_of_toNat_eq (by rw [es, ofNat_toNat (by omega)]), ltB_ofNat (by omega) (by omega)]
  have e1 : x.off.toInt = x.off.toNat := BitVec.toInt_eq_toNat_of_lt (by omega)
  have e2 : (BitVec.ofNat 64 i : W).toInt = i := by rw [BitVec.toInt_eq_toNat_of_lt (by rw [ofNat_toNat (by omega)]; omega), ofNat_toNat (by omega)]
  rw [e1, e2, Bool.eq_iff_iff]
  simp
theorem nSeq_nat {x : HI} {n : W} (hx : (x.pi n).ok) : ∀ i, i ≤ x.D.len → (nSeq x n i).toNat = n.toNat / 256 ^ (min (i - x.off.toNat) x.size.toNat)
  | 0, _ => by simp [nSeq]
  | i + 1, hi => by
    have ih := nSeq_nat hx i (by omega)
    show (nxtN x (nSeq x n i) i).toNat = _
    unfold nxtN
    rw [inR_iff hx (by omega)]
    by_cases h : x.off.toNat ≤ i ∧ i < x.off.toNat + x.size.toNat
    · rw [decide_eq_true h]
      show (quoB .u64 (nSeq x n i) 256#64).toNat = _
      have eq : (quoB .u64 (nSeq x n i) 256#64).toNat = (nSeq x n i).toNat / 256 := rfl
      rw [eq, ih, show min (i - x.off.toNat) x.size.toNat = i - x.off.toNat by omega, show min (i + 1 - x.off.toNat) x.size.toNat = (i - x.off.toNat) + 1 by omega, Nat.div_div_eq_div_mul, ← Nat.pow_succ]
    · rw [decide_eq_false h]
      show (nSeq x n i).toNat = _
      rw [ih]
      congr 2
      omega
theorem byS_put {x : HI} {n : W} (hx : (x.pi n).ok) {i : Nat} (hi : i < x.D.len) : byS x n i = putTo (x.pi n) x.size.toNat i := by
  have hs8 : x.size.toNat ≤ 8 := by have := hx.size; have h : x.size.toNat = 1 ∨ x.size.toNat = 2 ∨ x.size.toNat = 4 ∨ x.size.toNat = 8 := this; omega
  unfold byS nxtY putTo
  rw [inR_iff hx hi]
  by_cases h : x.off.toNat ≤ i ∧ i < x.off.toNat + x.size.toNat
  · rw [decide_eq_true h, if_pos (by exact h)]
    show lowB8 (nSeq x n i) = byteP n (BitVec.ofNat 64 (i - x.off.toNat))
    rw [byteP_nat n (by omega)]
    apply BitVec.eq_of_toNat_eq
    rw [byte_nat]
    have e : (lowB8 (nSeq x n i)).toNat = (nSeq x n i).toNat % 256 % 256 := by
      unfold lowB8
      show ((remB .u64 (nSeq x n i) 256#64).setWidth 8 : B8).toNat = _
      rw [BitVec.toNat_setWidth]
      rfl
    rw [e, nSeq_nat hx i (by omega), Nat.mod_mod, show min (i - x.off.toNat) x.size.toNat = i - x.off.toNat by omega, Nat.pow_mul]
  · rw [decide_eq_false h, if_neg (by exact h)]; rfl
end Go.Rf

/- Memory: the document's Put by its contract: the walk. -/
namespace Go.Rf
open Go.Proofs

def HI.g (x : HI) : GI := ⟨x.D, x.off, x.size⟩
def argH (x : HI) (n : W) : List AV := [x.D.at 0, eI x.off, eI x.size, eW n]
theorem H5_eq : H5 = opM H5 0 :: [] := by kernel_rfl
theorem oH5 : (opM H5 0).op = .assign (.const (.slice none 0 0)) ∧ (opM H5 0).dst = some 10 ∧ (opM H5 0).guard = none := ⟨by kernel_rfl, by kernel_rfl, by kernel_rfl⟩
theorem gH5 : noGd H5 = true := by kernel_rfl
theorem H2_eq : H2 = opM H2 0 :: [opM H2 1] := by kernel_rfl
theorem oH2 : (opM H2 0).op = .assign (.const (.slice none 0 0)) ∧ (opM H2 0).dst = some 8 ∧ (opM H2 0).guard = none := ⟨by kernel_rfl, by kernel_rfl, by kernel_rfl⟩
theorem gH2 : noGd H2 = true ∧ noGd [opM H2 1] = true := ⟨by kernel_rfl, by kernel_rfl⟩
theorem H4_eq : H4 = opM H4 0 :: [opM H4 1] := by kernel_rfl
theorem oH4 : (opM H4 0).op = .assign (.const (.slice none 0 0)) ∧ (opM H4 0).dst = some 8 ∧ (opM H4 0).guard = none := ⟨by kernel_rfl, by kernel_rfl, by kernel_rfl⟩
theorem gH4 : noGd H4 = true ∧ noGd [opM H4 1] = true := ⟨by kernel_rfl, by kernel_rfl⟩
section
variable (x : HI) (n : W)
noncomputable def w0H : St := St.enter (argH x n) (hpB x.D.blk) 1 56
noncomputable def w1H : St := outM (evalList cxM H0 (w0H x n))
noncomputable def w2H : St := outM (evalList cxM H1 (w1H x n))
noncomputable def wAH : St := outM (evalList cxM [opM H2 1] ((w2H x n).setT 8 (.vsl none 0)))
noncomputable def w3H : St := outM (evalList cxM H3 (w2H x n))
noncomputable def wBH : St := outM (evalList cxM [opM H4 1] ((w3H x n).setT 8 (.vsl none 0)))
noncomputable def w6H : St := outM (evalList cxM H6 ((w3H x n).setT 10 (.vsl none 0)))
theorem ew1 : ∃ ob, evalList cxM H0 (w0H x n) = some (w1H x n, ob) ∧ ob.holds := fl_two (L := []) (by kernel_rfl) (by kernel_rfl) (by simp)
theorem ew2 : ∃ ob, evalList cxM H1 (w1H x n) = some (w2H x n, ob) ∧ ob.holds := fl_two (L := []) (by kernel_rfl) (by kernel_rfl) (by simp)
theorem w2Hg : (w2H x n).look 15 = .bool fun _ => !(sizeB x.size) := by kernel_rfl
theorem ewA : ∃ ob, evalList cxM [opM H2 1] ((w2H x n).setT 8 (.vsl none 0)) = some (wAH x n, ob) ∧ ob.holds := fl_two (L := []) (by kernel_rfl) (by kernel_rfl) (by simp)
theorem wAa : (wAH x n).look 8 = .vsl none 0 := by kernel_rfl
theorem wAb : (wAH x n).look 9 = .lit .i64 1 := by kernel_rfl
theorem wAc : (wAH x n).hp 0 = some x.D.blk := by kernel_rfl
theorem w2Hn : (w2H x n).nt = 56 := by kernel_rfl
theorem ew3 (h : x.D.len < 2 ^ 63) : ∃ ob, evalList cxM H3 (w2H x n) = some (w3H x n, ob) ∧ ob.holds := fl_two (L := [0 ≤ toZ .i64 (BitVec.ofNat 64 x.D.len)]) (by kernel_rfl) (by kernel_rfl) (len_ob h)
theorem w3Hg : (w3H x n).look 25 = .bool fun _ => outB2 x.g := by kernel_rfl
theorem w3Hn : (w3H x n).nt = 56 := by kernel_rfl
theorem ewB : ∃ ob, evalList cxM [opM H4 1] ((w3H x n).setT 8 (.vsl none 0)) = some (wBH x n, ob) ∧ ob.holds := fl_two (L := []) (by kernel_rfl) (by kernel_rfl) (by simp)
theorem wBa : (wBH x n).look 8 = .vsl none 0 := by kernel_rfl
theorem wBb : (wBH x n).look 9 = .lit .i64 42 := by kernel_rfl
theorem wBc : (wBH x n).hp 0 = some x.D.blk := by kernel_rfl
theorem ew6 : ∃ ob, evalList cxM H6 ((w3H x n).setT 10 (.vsl none 0)) = some (w6H x n, ob) ∧ ob.holds := fl_two (L := []) (by kernel_rfl) (by kernel_rfl) (by simp)
theorem w6a : (w6H x n).nt = 56 ∧ (w6H x n).lo = 1 := ⟨by kernel_rfl, by kernel_rfl⟩
theorem w6c : ((enHA x n 0#64).map fun z => unlitM ((w6H x n).look z.1)) = (enHA x n 0#64).map (·.2) := by kernel_rfl
theorem w6d : ((hbH0 x).map fun z => (w6H x n).hp z.1) = (hbH0 x).map (·.2) := by kernel_rfl
theorem enHA_n : ((enHA x n 0#64).all fun z => nltB 1 z.2) = true := by kernel_rfl
theorem hbH0_n1 : ((hbH0 x).all fun z => Nat.blt z.1 1 && match z.2 with | some B => nltB 1 B.v | none => true) = true := by kernel_rfl
variable (m i : W) (D1 : SlD sB)
noncomputable def w14H : St := outM (evalList cxM H14 (m7B x m i D1))
theorem ew14 : ∃ ob, evalList cxM H14 (m7B x m i D1) = some (w14H x m i D1, ob) ∧ ob.holds := fl_two (L := []) (by kernel_rfl) (by kernel_rfl) (by simp)
theorem w14a : (w14H x m i D1).look 8 = D1.at 2 := by kernel_rfl
theorem w14b : (w14H x m i D1).look 9 = .lit .i64 0 := by kernel_rfl
theorem w14c : (w14H x m i D1).hp 2 = some D1.blk := by kernel_rfl
theorem w14d : (w14H x m i D1).hp 0 = some x.D.blk := by kernel_rfl
end
end Go.Rf

/- Memory: the document's Put puts what Put puts. -/
namespace Go.Rf
open Go.Proofs

theorem resH : Try.f27.results = #[.tmp 8, .tmp 9] := by kernel_rfl
theorem entH (x : HI) (n : W) (hl : x.D.len < 2 ^ 63) {b : Nat} {w : World} (hb : w.heap[b]? = some (.cells (cells E0 [] x.D.blk.v).toArray x.D.T x.D.fz)) : SRel (E1 b) w (w0H x n) (enterActB (E1 b) Try.f27 (argH x n)) w := by
  have hnt : Try.f27.ntmps = 56 := by kernel_rfl
  have h := enterB1 (fn := Try.f27) (args := argH x n) (B := x.D.blk) (b := b) (w := w) (by rw [hnt]; show 4 ≤ 56; omega) (fun v hv => by
    simp only [argH, List.mem_cons, List.not_mem_nil, or_false] at hv
    rcases hv with rfl | rfl | rfl | rfl
    · exact (at_val (D := { x.D with b := b }) (n := 0) (E := E1 b) rfl hl).2
    · trivial
    · trivial
    · trivial) (blk_cells (flatB.good _) (E1 b)).2 (by rw [(blk_cells (flatB.good _) (E1 b)).1]; exact hb)
  rw [hnt] at h
  exact h
/-- At a return that refuses. -/
theorem retHb (D : SlD sB) (z : Int) {b : Nat} {w : World} (hb : w.heap[b]? = some (.cells (cells E0 [] D.blk.v).toArray D.T D.fz)) (st : St) (f8 : st.look 8 = .vsl none 0) (f9 : st.look 9 = .lit .i64 z) (g0 : st.hp 0 = some D.blk)
    {ae : Go.Act} {we : World} (hsg : SRel (E1 b) w st ae we) : bodyPost Try.prog Try.f27 (fun e w' => e = .returned (.tuple #[.slice none 0 0, .int .i64 z]) ∧ RowKit.Below w.heap.size w w') .ret ae we := by
  obtain ⟨E, q1, q2, q3, q4, q5, q6, q7, q8, q9, q10⟩ := hsg
  obtain ⟨b0, s1, s2, s3⟩ := q4 0 _ g0
  have hb0 : E 0 = some b := q8.sub 0 b rfl
  obtain rfl : b0 = b := by rw [s1] at hb0; exact Option.some.inj hb0
  have v8 := q1 8
  have v9 := q1 9
  rw [f8] at v8
  rw [f9] at v9
  have e8 : ae.tmps.getD 8 undef = .slice none 0 0 := v8.2.symm
  have e9 : ae.tmps.getD 9 undef = .int .i64 z := v9.2.symm
  refine bodyPost_ret (results_two (t := 8) (u := 9) resH _ _ _) q3 ⟨by rw [e8, e9], ⟨q8.os, q8.tape, q8.output, q8.size, fun k hk => ?_⟩⟩
  by_cases hkb : k = b0
  · subst hkb
    rw [s3, (blk_cells (flatB.good _) E).1, hb]
    rfl
  · refine q8.keep k hk (fun n hn => hkb ?_)
    unfold E1 at hn
    split at hn
    · simpa using hn.symm
    · cases hn
/-- What the document's Put gives where it puts. -/
def RPutPost (x : PI) (w : World) (e : Ending) (w' : World) : Prop :=
  ∃ D2 : SlD sB, e = .returned (.tuple #[D2.value, .int .i64 0]) ∧ D2.Own 5 w' ∧ D2.len = x.D.len ∧ (∀ j, j < x.D.len → D2.els j = putTo x x.size.toNat j) ∧ w.heap.size ≤ D2.b ∧ RowKit.Below w.heap.size w w'
theorem retHg (x : HI) (n : W) {b : Nat} {w : World} (hb : w.heap[b]? = some (.cells (cells E0 [] x.D.blk.v).toArray x.D.T x.D.fz)) (hl : x.D.len < 2 ^ 63) (D : SlD sB) (d1 : D.Fix 5) (d2 : D.len = x.D.len) (d3 : ∀ j, j < x.D.len → D.els j = putTo (x.pi n) x.size.toNat j) (st : St) (f8 : st.look 8 = D.at 2) (f9 : st.look 9 = .lit .i64 0) (g1 : st.hp 2 = some D.blk) (g0 : st.hp 0 = some x.D.blk)
    {ae : Go.Act} {we : World} (hsg : SRel (E1 b) w st ae we) : bodyPost Try.prog Try.f27 (RPutPost (x.pi n) w) .ret ae we := by
  obtain ⟨E, q1, q2, q3, q4, q5, q6, q7, q8, q9, q10⟩ := hsg
  obtain ⟨b1, r1, r2, r3⟩ := q4 2 _ g1
  obtain ⟨b0, s1, s2, s3⟩ := q4 0 _ g0
  have hb0 : E 0 = some b := q8.sub 0 b rfl
  obtain rfl : b0 = b := by rw [s1] at hb0; exact Option.some.inj hb0
  have v8 := q1 8
  have v9 := q1 9
  rw [f8] at v8
  rw [f9] at v9
  let D2 : SlD sB := { D with b := b1 }
  have e8 : ae.tmps.getD 8 undef = D2.value := by
    have e := (at_val (D := D2) (n := 2) r1 (by show D.len < 2 ^ 63; omega)).1
    exact v8.2.symm.trans e
  have e9 : ae.tmps.getD 9 undef = .int .i64 0 := v9.2.symm
  refine bodyPost_ret (results_two (t := 8) (u := 9) resH _ _ _) q3 ?_
  refine ⟨D2, by rw [e8, e9], ⟨?_, d1.le, d1.pre, d1.fz, d1.ty, d1.post, d1.max⟩, d2, d3, ?_, ⟨q8.os, q8.tape, q8.output, q8.size, fun k hk => ?_⟩⟩
  · show we.heap[b1]? = _
    rw [r3, (blk_cells (flatB.good _) E).1]
    rfl
  · rcases q8.new 2 b1 r1 with h | h
    · cases h
    · exact h
  · by_cases hkb : k = b0
    · subst hkb
      rw [s3, (blk_cells (flatB.good _) E).1, hb]
      rfl
    · refine q8.keep k hk (fun n hn => hkb ?_)
      unfold E1 at hn
      split at hn
      · simpa using hn.symm
      · cases hn
/-- What the document's Put gives. -/
def RPost (x : HI) (n : W) (w : World) (e : Ending) (w' : World) : Prop := (inE (x.pi n) = 0#64 ∧ RPutPost (x.pi n) w e w') ∨ (inE (x.pi n) ≠ 0#64 ∧ e = .returned (.tuple #[.slice none 0 0, .int .i64 (toZ .i64 (inE (x.pi n)))]) ∧ RowKit.Below w.heap.size w w')
/-- The document's Put. -/
theorem callsRPut (x : HI) (n : W) (hl : x.D.len ≤ 140737488355328) {b : Nat} {w : World} (hb : w.heap[b]? = some (.cells (cells E0 [] x.D.blk.v).toArray x.D.T x.D.fz)) :
    Calls Try.prog 27 ((argH x n).map (val (E1 b))).toArray w (RPost x n w) := by
  have hl2 : x.D.len < 2 ^ 62 := by omega
  have hl3 : x.D.len < 2 ^ 63 := by omega
  refine calls_of_wp Try.func27 body27 ?_
  have hs0 := entH x n hl3 hb
  refine wp_seq (regM (ew1 x n) hs0 fun a1 w1 hs1 => ?_)
  show (Code.seq (.seq (.region 1 H1.toArray false) (retIf 15 2 H2)) _).wp Try.prog _ a1 w1
  refine wp_seq (wp_seq (regM (ew2 x n) hs1 fun a2 w2 hs2 => ?_))
  have hc := boolM (w2Hg x n) hs2
  have eI' : inE (x.pi n) = bif !(sizeB x.size) then 1#64 else bif outB2 x.g then 42#64 else 0#64 := rfl
  cases hs : sizeB x.size with
  | false =>
    rw [hs] at hc
    refine wp_cond_true hc ?_
    refine wp_seq (list_region (by simpa using gH2.1) ?_)
    rw [List.toList_toArray, H2_eq]
    refine step_nilM hs2 oH2.2.2 oH2.1 oH2.2.1 (by rw [w2Hn]; omega) fun a3 w3 hs3 => ?_
    refine lstM gH2.2 (ewA x n) hs3 fun a4 w4 hs4 => ?_
    refine wp_ret ?_
    have e1 : inE (x.pi n) = 1#64 := by rw [eI', hs]; rfl
    show bodyPost Try.prog Try.f27 (RPost x n w) .ret a4 w4
    refine bodyPost_mono (retHb x.D 1 hb (wAH x n) (wAa x n) (wAb x n) (wAc x n) hs4) fun e w' h => .inr ⟨by rw [e1]; decide, by rw [e1]; exact h.1, h.2⟩
  | true =>
    rw [hs] at hc
    refine wp_cond_false hc (wp_skip ?_)
    show (Code.seq (.seq (.region 3 H3.toArray false) (retIf 25 4 H4)) _).wp Try.prog _ a2 w2
    refine wp_seq (wp_seq (regM (ew3 x n hl3) hs2 fun a3 w3 hs3 => ?_))
    have hc2 := boolM (w3Hg x n) hs3
    cases ho : outB2 x.g with
    | true =>
      rw [ho] at hc2
      refine wp_cond_true hc2 ?_
      refine wp_seq (list_region (by simpa using gH4.1) ?_)
      rw [List.toList_toArray, H4_eq]
      refine step_nilM hs3 oH4.2.2 oH4.1 oH4.2.1 (by rw [w3Hn]; omega) fun a4 w4 hs4 => ?_
      refine lstM gH4.2 (ewB x n) hs4 fun a5 w5 hs5 => ?_
      refine wp_ret ?_
      have e1 : inE (x.pi n) = 42#64 := by rw [eI', hs, ho]; rfl
      show bodyPost Try.prog Try.f27 (RPost x n w) .ret a5 w5
      refine bodyPost_mono (retHb x.D 42 hb (wBH x n) (wBa x n) (wBb x n) (wBc x n) hs5) fun e w' h => .inr ⟨by rw [e1]; decide, by rw [e1]; exact h.1, h.2⟩
    | false =>
      rw [ho] at hc2
      refine wp_cond_false hc2 (wp_skip ?_)
      have e1 : inE (x.pi n) = 0#64 := by rw [eI', hs, ho]; rfl
      obtain ⟨k1, k2⟩ := inE_bad (x := x.pi n) hl2 e1
      have hx : (x.pi n).ok := ⟨k1, k2, hl⟩
      have k1' : x.size.toNat = 1 ∨ x.size.toNat = 2 ∨ x.size.toNat = 4 ∨ x.size.toNat = 8 := k1
      have k2' : x.off.toNat + x.size.toNat ≤ x.D.len := k2
      show (Code.seq (.region 5 H5.toArray false) _).wp Try.prog _ a3 w3
      refine wp_seq (list_region (by simpa using gH5) ?_)
      rw [List.toList_toArray, H5_eq]
      refine step_nilM hs3 oH5.2.2 oH5.1 oH5.2.1 (by rw [w3Hn]; omega) fun a4 w4 hs4 => ?_
      show (Code.seq (.seq (.region 6 H6.toArray false) (.block 0 (.loop rndH))) _).wp Try.prog _ a4 w4
      refine wp_seq (wp_seq (regM (ew6 x n) hs4 fun a5 w5 hs5 => ?_))
      have hsA : SRel (E1 b) w (stHA x n 0#64) a5 w5 := norm_relM (kept_ofM (w6c x n) (w6d x n) (enHA_n x n) (hbH0_n1 x) (by rw [(w6a x n).2]; rfl)) (w6a x n).1 (w6a x n).2 hs5
      refine wp_block (loopH x hl (by omega) n (fun D1 m a6 w6 d1 d2 d3 hs6 => ?_) hsA)
      show (Code.seq (.region 14 H14.toArray false) .ret).wp Try.prog _ a6 w6
      refine wp_seq (regM (ew14 x m _ D1) hs6 fun a7 w7 hs7 => ?_)
      refine wp_ret ?_
      show bodyPost Try.prog Try.f27 (RPost x n w) .ret a7 w7
      exact bodyPost_mono (retHg x n hb hl3 D1 d1 d2 (fun j hj => (d3 j hj).trans (byS_put hx hj)) (w14H x m _ D1) (w14a x m _ D1) (w14b x m _ D1) (w14c x m _ D1) (w14d x m _ D1) hs7) fun e w' h => .inl ⟨e1, h⟩
end Go.Rf

/- Memory: the document's Put as a step. -/
namespace Go.Rf
open Go.Proofs

/-- What the document's Put gives where it puts. -/
structure RPutD (x : PI) (D2 : SlD sB) : Prop where
  fix : D2.Fix 5
  len : D2.len = x.D.len
  els : ∀ j, j < x.D.len → D2.els j = putTo x x.size.toNat j
theorem step_rput {Es : Env} {ws : World} {st : St} {a : Go.Act} {w : World} (hs : SRel Es ws st a w) {D : SlD sB} {n : Nat} (hB : st.hp n = some D.blk) {off size v : W} (hx : PI.ok ⟨D, off, size, v⟩) {o : Oper} {rest : List Oper} {Q : Exit → Go.Act → World → Prop}
    (hgd : o.guard = none) (hev : eff Try.prog (opd st.look) o.op = some (.call 27 [D.at n, .int .i64 fun _ => off, .int .i64 fun _ => size, .int .u64 fun _ => v])) {dst : Nat} (hd : o.dst = some dst) (hdst : dst < st.nt)
    {ents : List (Nat × AV)} {hbs : List (Nat × Option Blk)} (hk : KeptR st st.next ents hbs)
    (hK : ∀ (D2 : SlD sB) a' w', RPutD ⟨D, off, size, v⟩ D2 → SRel Es ws (bkSt (putT st.next D2) D2.blk st.next dst ents hbs st.nt st.lo) a' w' → wpList Try.prog #[] Q rest a' w') : wpList Try.prog #[] Q (o :: rest) a w := by
  have hl0 : D.len ≤ 140737488355328 := hx.few
  have hl : D.len < 2 ^ 62 := by omega
  refine step_callB (P := Try.prog) (Δ := SlD sB) hs hgd hev (putT st.next) (fun D2 => D2.blk) (RPutD ⟨D, off, size, v⟩) ?_ hd hdst hk hK
  intro E h4 _
  obtain ⟨b, b1, b2, b3⟩ := h4 n D.blk hB
  have hrow : w.heap[b]? = some (.cells (cells E0 [] D.blk.v).toArray D.T D.fz) := by
    rw [b3, (blk_cells (flatB.good _) E).1]; rfl
  have ea : ([D.at n, .int .i64 fun _ => off, .int .i64 fun _ => size, .int .u64 fun _ => v].map (val E)) = (argH ⟨D, off, size⟩ v).map (val (E1 b)) := by
    simp only [argH, List.map_cons, List.map_nil, at_two b1 (show D.len < 2 ^ 63 by omega)]
    rfl
  rw [ea]
  refine (callsRPut ⟨D, off, size⟩ v hl0 hrow).mono ?_
  rintro e w' (⟨_, D2, rfl, k1, k2, k3, k5, k6⟩ | ⟨k, _⟩)
  · have k2' : D2.len = D.len := k2
    refine ⟨D2, _, D2.b, rfl, ⟨k1.fix, k2, k3⟩, fun E' hE' => ?_, fun E' => ?_, k5, k6⟩
    · have e := at_val (D := D2) (n := st.next) (E := E') hE' (by omega)
      refine ⟨⟨e.2, trivial, trivial⟩, ?_⟩
      show Value.tuple #[val E' (D2.at st.next), .int .i64 0] = _
      rw [e.1]
    · refine ⟨(blk_cells (flatB.good _) E').2, ?_⟩
      rw [(blk_cells (flatB.good _) E').1, k1.row]
      rfl
  · exact absurd (inE_ok hx) k
theorem step_rputNo {Es : Env} {ws : World} {st : St} {a : Go.Act} {w : World} (hs : SRel Es ws st a w) {D : SlD sB} {n : Nat} (hB : st.hp n = some D.blk) (hl : D.len ≤ 140737488355328) {off size v : W} (hx : inE ⟨D, off, size, v⟩ ≠ 0#64) {o : Oper} {rest : List Oper} {Q : Exit → Go.Act → World → Prop}
    (hgd : o.guard = none) (hev : eff Try.prog (opd st.look) o.op = some (.call 27 [D.at n, .int .i64 fun _ => off, .int .i64 fun _ => size, .int .u64 fun _ => v])) {dst : Nat} (hd : o.dst = some dst) (hdst : dst < st.nt)
    (hK : ∀ a' w', SRel Es ws (st.setT dst (.tup (.cons (.vsl none 0) (.cons (eI (inE ⟨D, off, size, v⟩)) .nil)))) a' w' → wpList Try.prog #[] Q rest a' w') : wpList Try.prog #[] Q (o :: rest) a w := by
  refine wpList_plain hgd fun K hKK => ?_
  obtain ⟨E, h1, h2, h3, h4, h5, h6, h7, h8, h9, h10⟩ := id hs
  obtain ⟨b, b1, b2, b3⟩ := h4 n D.blk hB
  have hrow : w.heap[b]? = some (.cells (cells E0 [] D.blk.v).toArray D.T D.fz) := by
    rw [b3, (blk_cells (flatB.good _) E).1]; rfl
  obtain ⟨_, hr⟩ := eff_run hev E a (fun x _ => opd_st h1 x)
  unfold Oper.wp
  rw [hr w, Oper.upon_enter]
  have ea : ([D.at n, .int .i64 fun _ => off, .int .i64 fun _ => size, .int .u64 fun _ => v].map (val E)) = (argH ⟨D, off, size⟩ v).map (val (E1 b)) := by
    simp only [argH, List.map_cons, List.map_nil, at_two b1 (show D.len < 2 ^ 63 by omega)]
    rfl
  rw [ea]
  refine (callsRPut ⟨D, off, size⟩ v hl hrow).mono ?_
  rintro e w' (⟨k, _⟩ | ⟨_, rfl, hbel⟩)
  · exact absurd k hx
  · refine hKK _ _ (hK _ w' ?_)
    rw [hd]
    exact tmp_set (below_rel hs hbel) hdst _ _ (fun E' _ => ⟨⟨trivial, trivial, trivial⟩, rfl⟩)
end Go.Rf

/- Memory: a row said as a shorter row; strings of the same bytes. -/
namespace Go.Rf
open Go.Proofs

theorem bytesOf_congr {f g : Ix → BitVec IntKind.u8.bits} {L : Nat} (h : ∀ i, i < L → f [i] = g [i]) : bytesOf f L = bytesOf g L := by
  have e : bytesNs f L = bytesNs g L := by
    unfold bytesNs
    exact List.map_congr_left (fun i hi => by rw [h i (by simpa using hi)])
  unfold bytesOf
  rw [e]
/-- The same block, said as a shorter row. -/
def shortD (D : SlD sB) (L : Nat) : SlD sB := { D with len := L, post := flatN sB (D.len - L) (fun i => D.els (L + i)) ++ D.post }
theorem shortD_cells (D : SlD sB) {L : Nat} (hL : L ≤ D.len) : cells E0 [] (shortD D L).blk.v = cells E0 [] D.blk.v := by
  rw [blk_cells3 flatB (shortD D L), blk_cells3 flatB D]
  have e : flatN sB D.len D.els = flatN sB L D.els ++ flatN sB (D.len - L) (fun i => D.els (L + i)) := by
    rw [← flatN_add, show L + (D.len - L) = D.len by omega]
  show D.pre ++ flatN sB L D.els ++ (flatN sB (D.len - L) (fun i => D.els (L + i)) ++ D.post) = _
  rw [e]
  simp
/-- A state with the one, with the other. -/
theorem short_blk (D : SlD sB) {L : Nat} (hL : L ≤ D.len) : (shortD D L).blk.T = D.blk.T ∧ fzOf (shortD D L).blk.v = fzOf D.blk.v ∧ ∀ E, cells E [] (shortD D L).blk.v = cells E [] D.blk.v := by
  refine ⟨rfl, rfl, fun E => ?_⟩
  rw [(blk_cells (D := shortD D L) (flatB.good _) E).1, (blk_cells (D := D) (flatB.good _) E).1, shortD_cells D hL]
end Go.Rf
