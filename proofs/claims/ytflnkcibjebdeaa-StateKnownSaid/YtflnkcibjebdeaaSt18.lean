/- States: joins: the program's loops. -/
import Derived.Test.YtflnkcibjebdeaaSt17
set_option linter.unusedVariables false
set_option linter.unusedSimpArgs false
set_option maxRecDepth 100000
namespace Go.Rf
open Go.Proofs
theorem vw_val {a b : Vw} (h1 : ∀ i, i < 11 → a.regs i = b.regs i) (h2 : ∀ i, i < 64 → a.fr i = b.fr i) (h3 : a.pk = b.pk) : val E0 (eVw a) = val E0 (eVw b) := by
  rw [val_by_cells, val_by_cells]
  have e : cells E0 [] (eVw a) = cells E0 [] (eVw b) := by
    show cells E0 [] ((fVal.arr 11).enc a.regs) ++ (cells E0 [] ((fMSl.arr 64).enc a.fr) ++ (cells E0 [] (eI a.pk) ++ [])) = cells E0 [] ((fVal.arr 11).enc b.regs) ++ (cells E0 [] ((fMSl.arr 64).enc b.fr) ++ (cells E0 [] (eI b.pk) ++ []))
    rw [cells_congr 11 fVal rfl h1, cells_congr 64 fMSl rfl h2, h3]
  rw [e]; rfl
theorem sta_val {a b : Sta} (h1 : ∀ i, i < 11 → a.regs i = b.regs i) (h2 : ∀ i, i < 64 → a.stk i = b.stk i) (h3 : a.pk = b.pk) : val E0 (eSta a) = val E0 (eSta b) := by
  rw [val_by_cells, val_by_cells]
  have e : cells E0 [] (eSta a) = cells E0 [] (eSta b) := by
    show cells E0 [] ((fReg.arr 11).enc a.regs) ++ (cells E0 [] ((fSlt.arr 64).enc a.stk) ++ (cells E0 [] (eI a.pk) ++ [])) = cells E0 [] ((fReg.arr 11).enc b.regs) ++ (cells E0 [] ((fSlt.arr 64).enc b.stk) ++ (cells E0 [] (eI b.pk) ++ []))
    rw [cells_congr 11 fReg rfl h1, cells_congr 64 fSlt rfl h2, h3]
  rw [e]; rfl
theorem as_con1 {P : Program} {f : FuncId} {α : Type} {ca : Cod α} {g g' : α → AV} (h : ConOk P f (con1 ca g)) (hp : ∀ x, pfT (g' x) = true) (e : ∀ x, valT E0 (g x) = valT E0 (g' x)) : ConOk P f (con1 ca g') :=
  ConOk.as h fun args r ob hK => by
    unfold con1 at hK ⊢
    split at hK <;> try (simp at hK; done)
    split at hK <;> simp at hK
    rename_i a x hx
    obtain ⟨rfl, rfl⟩ := hK
    exact ⟨g x, by simp [hx], hp x, e x⟩
theorem as_con2 {P : Program} {f : FuncId} {α β : Type} {ca : Cod α} {cb : Cod β} {g g' : α → β → AV} (h : ConOk P f (con2 ca cb g)) (hp : ∀ x y, pfT (g' x y) = true) (e : ∀ x y, valT E0 (g x y) = valT E0 (g' x y)) : ConOk P f (con2 ca cb g') :=
  ConOk.as h fun args r ob hK => by
    unfold con2 at hK ⊢
    split at hK <;> try (simp at hK; done)
    split at hK <;> simp at hK
    rename_i a b x y hx hy
    obtain ⟨rfl, rfl⟩ := hK
    exact ⟨g x y, by simp [hx, hy], hp x y, e x y⟩
theorem k17 : ConOk Try.prog 17 (con1 cVw fun v => eVw v) := as_con1 kk17 (fun _ => rfl) (fun v => by
  rw [runVw]
  exact vw_val (fun i _ => rfl) (fun i hi => if_pos hi) rfl)

def updR (f : Nat → Reg) (i : Nat) (r : Reg) : Nat → Reg := fun j => ⟨if j = i then r.k else (f j).k, if j = i then r.ln else (f j).ln, if j = i then r.m else (f j).m,
  ⟨⟨if j = i then r.s.t.v else (f j).s.t.v, if j = i then r.s.t.m else (f j).s.t.m⟩, ⟨if j = i then r.s.s.lo else (f j).s.s.lo, if j = i then r.s.s.hi else (f j).s.s.hi⟩⟩,
  if j = i then r.lo else (f j).lo, if j = i then r.hi else (f j).hi⟩
theorem updR_eq (f : Nat → Reg) (i : Nat) (r : Reg) : updR f i r = fun j => if j = i then r else f j := by
  funext j
  unfold updR
  by_cases h : j = i <;> simp [h]
def updS (f : Nat → Slt) (i : Nat) (x : Slt) : Nat → Slt := fun j => ⟨if j = i then x.h else (f j).h, updR (fun j => (f j).r) i x.r j⟩
theorem updS_eq (f : Nat → Slt) (i : Nat) (x : Slt) : updS f i x = fun j => if j = i then x else f j := by
  funext j
  unfold updS
  rw [updR_eq]
  by_cases h : j = i <;> simp [h]
structure JnS where
  a : Sta
  b : Sta
  s : Sta
  i : W
def JnS.inv (n : Nat) (s : JnS) : Prop := n < 2 ^ 63 ∧ s.i.toNat ≤ n
def JnS.mu (n : Nat) (s : JnS) : Nat := n - s.i.toNat
def JnS.go (n : Nat) (s : JnS) : Bool := ltB .i64 s.i (BitVec.ofNat 64 n)
theorem JnS.lt {n : Nat} {s : JnS} (h : s.inv n) (hg : s.go n = true) : s.i.toNat < n := by
  obtain ⟨h1, h2⟩ := h
  rw [JnS.go, ltB_nat (by omega) (by rw [ofNat_toNat (by omega)]; exact h1), ofNat_toNat (by omega), decide_eq_true_eq] at hg
  exact hg
theorem JnS.dec {n : Nat} {s t : JnS} (ht : t.i = s.i + 1#64) (h : s.inv n) (hg : s.go n = true) : t.inv n ∧ t.mu n < s.mu n := by
  have h1 := JnS.lt h hg
  have e : (s.i + 1#64).toNat = s.i.toNat + 1 := succ_nat (by have := h.1; omega)
  unfold JnS.inv JnS.mu
  rw [ht, e]
  refine ⟨⟨h.1, ?_⟩, ?_⟩ <;> omega
/-- One round of each of the two loops. -/
noncomputable def JnS.nr (F : Reg → Reg → Reg) (s : JnS) : JnS := ⟨s.a, s.b, ⟨updR s.s.regs (ixN s.i) (F (s.a.regs (ixN s.i)) (s.b.regs (ixN s.i))), s.s.stk, s.s.pk⟩, s.i + 1#64⟩
def JnS.T (n : Nat) (nx : JnS → JnS) (id : Nat) (s : JnS) : Rd JnS := .exit id (runN (JnS.go n) nx n s)
theorem JnS.good (n : Nat) (nx : JnS → JnS) (hi : ∀ s, (nx s).i = s.i + 1#64) (id : Nat) (step : JnS → Rd JnS) (h1 : ∀ s, s.go n = true → (step s).sel = .norm (nx s)) (h2 : ∀ s, s.go n = false → (step s).sel = .exit id s) :
    ∀ s : JnS, s.inv n → Good (JnS.inv n) (JnS.mu n) (JnS.T n nx id) s (step s).sel :=
  good_run (go := JnS.go n) (next := nx) (fun s h hg => JnS.dec (hi s) h hg) (fun s h => by simp only [JnS.mu]; omega) (fun s _ hg => h1 s hg) (fun s _ hg => h2 s hg)
theorem JnS.runR (F : Reg → Reg → Reg) (a b s : Sta) : runN (JnS.go 11) (JnS.nr F) 11 ⟨a, b, s, 0#64⟩ = ⟨a, b, ⟨fun j => if j < 11 then F (a.regs j) (b.regs j) else s.regs j, s.stk, s.pk⟩, 11#64⟩ := by
  have := runN_count (go := JnS.go 11) (next := JnS.nr F) (fun i => (⟨a, b, ⟨fun j => if j < i then F (a.regs j) (b.regs j) else s.regs j, s.stk, s.pk⟩, BitVec.ofNat 64 i⟩ : JnS)) 11
    (fun i hi => by
      show ltB .i64 (BitVec.ofNat 64 i) (BitVec.ofNat 64 11) = _
      rw [ltB_ofNat (by omega) (by omega)])
    (fun i hi => by
      simp only [JnS.nr, ofNat_succ, ixN_ofNat (show i < 2 ^ 63 by omega), updR_eq]
      rw [fill_step (fun j => F (a.regs j) (b.regs j)) (fun j => s.regs j) i])
  exact this

def pJa : List Nat := [1, 1, 1, 0, 1, 4]
def pJb : List Nat := [1, 1, 1, 1, 0, 1, 4]
noncomputable def lpJn (f : FuncId) (p : List Nat) (t : Nat) : Lp JnS where
  keys := [t, 2, 3, 5]
  names := [0, 1, 3]
  scr := wrAt Try.prog f p
  vals s := [eI s.i, .ptr 0 [], .ptr 1 [], .ptr 3 []]
  blks s := [⟨36, eSta s.a⟩, ⟨36, eSta s.b⟩, ⟨36, eSta s.s⟩]
  dec vs bs := match vs, bs with
    | [i, _, _, _], [⟨_, a⟩, ⟨_, b⟩, ⟨_, s⟩] => match cI.dec i, cSta.dec a, cSta.dec b, cSta.dec s with
      | some i, some a, some b, some s => some ⟨a, b, s, i⟩
      | _, _, _, _ => none
    | _, _ => none
noncomputable def JnS.sr (F : Reg → Reg → Reg) (id : Nat) (s : JnS) : Rd JnS := .br (s.go 11) (.norm (s.nr F)) (.exit id s)
theorem goalJa (s : JnS) (h : s.inv 11) : LoopGoal Try.prog (loopAt Try.prog 21 pJa) (lpJn 21 pJa 26) (JnS.T 11 (JnS.nr joinR) 0) s 4 87 0 := by
  refine lp_rule (cx := ⟨Try.prog, tabOf sv8, inlF Try.prog (tabOf sv8) noHooks 2⟩) rsv8 (inlF_ok rsv8 2) (Λ := fun _ => none) (p := []) (lpJn 21 pJa 26) (JnS.inv 11) (JnS.mu 11) (JnS.sr joinR 0) (JnS.T 11 (JnS.nr joinR) 0) 4 87 0 (fun _ => ⟨rfl, rfl⟩) ?_ ?_ s h
  · intro s r h hi
    exact fl_ok (g := s.go 11) (L := ixs s.i 11 3) (by kernel_rfl) (fun hg => ixs_hold (by decide) (JnS.lt hi hg) _)
  · refine JnS.good 11 _ (fun _ => rfl) 0 _ ?_ ?_
    · intro s hg
      simp only [JnS.sr, Rd.sel, hg, if_true]
    · intro s hg
      simp only [JnS.sr, Rd.sel, hg, Bool.false_eq_true, if_false]
/-! The slots. -/
def nilR : Reg := ⟨0#8, false, 0#64, nilC, 0#64, 0#64⟩
noncomputable def jc1 (x y : Slt) : Bool := x.r.k == 0#8 || y.r.k == 0#8
noncomputable def jc2 (x y : Slt) : Bool := (joinR x.r y.r).k != 0#8
noncomputable def JnS.n1 (s : JnS) : JnS := ⟨s.a, s.b, ⟨s.s.regs, updS s.s.stk (ixN s.i) ⟨and8 (sureS (s.a.stk (ixN s.i))) (sureS (s.b.stk (ixN s.i))), (s.s.stk (ixN s.i)).r⟩, s.s.pk⟩, s.i + 1#64⟩
noncomputable def JnS.n2 (s : JnS) : JnS := ⟨s.a, s.b, ⟨s.s.regs, updS s.n1.s.stk (ixN s.i) ⟨255#8, joinR (s.a.stk (ixN s.i)).r (s.b.stk (ixN s.i)).r⟩, s.s.pk⟩, s.i + 1#64⟩
noncomputable def JnS.ss (s : JnS) : Rd JnS := .br (s.go 64) (.br (jc1 (s.a.stk (ixN s.i)) (s.b.stk (ixN s.i))) (.norm s.n1) (.br (jc2 (s.a.stk (ixN s.i)) (s.b.stk (ixN s.i))) (.norm s.n2) (.norm s.n1))) (.exit 2 s)
noncomputable def JnS.ns (s : JnS) : JnS := if jc1 (s.a.stk (ixN s.i)) (s.b.stk (ixN s.i)) = true then s.n1 else if jc2 (s.a.stk (ixN s.i)) (s.b.stk (ixN s.i)) = true then s.n2 else s.n1
theorem goalJb (s : JnS) (h : s.inv 64) : LoopGoal Try.prog (loopAt Try.prog 21 pJb) (lpJn 21 pJb 42) (JnS.T 64 JnS.ns 2) s 4 87 0 := by
  refine lp_rule (cx := ⟨Try.prog, tabOf sv8, inlF Try.prog (tabOf sv8) noHooks 2⟩) rsv8 (inlF_ok rsv8 2) (Λ := fun _ => none) (p := []) (lpJn 21 pJb 42) (JnS.inv 64) (JnS.mu 64) JnS.ss (JnS.T 64 JnS.ns 2) 4 87 0 (fun _ => ⟨rfl, rfl⟩) ?_ ?_ s h
  · intro s r h hi
    exact fl_ok (g := s.go 64) (L := ixs s.i 64 4) (by kernel_rfl) (fun hg => ixs_hold (by decide) (JnS.lt hi hg) _)
  · refine JnS.good 64 _ (fun s => by unfold JnS.ns; split; rfl; split <;> rfl) 2 _ ?_ ?_
    · intro s hg
      simp only [JnS.ss, Rd.sel, hg, if_true, JnS.ns]
      split
      · rfl
      · split <;> rfl
    · intro s hg
      simp only [JnS.ss, Rd.sel, hg, Bool.false_eq_true, if_false]
end Go.Rf
