/- Memory: the loop of MemStores. -/
import Derived.Test.YtadkiiaagdhhlaaMaJ
set_option linter.unusedVariables false
set_option linter.unusedSimpArgs false
set_option maxRecDepth 100000
namespace Go.Rf
open Go.Proofs
section
variable (n : Nat) (ac : Nat → Act)
def FrS.bad (s : FrS) : Bool := (!eqFra (actS s.f (ac (ixN s.i))) (actS s.f (ac (ixN s.i))) || actE s.f (ac (ixN s.i)) != actE s.f (ac (ixN s.i))) || mayV (ac (ixN s.i)).v != mayV (ac (ixN s.i)).v
def FrS.step4 (s : FrS) : Rd FrS := .br (s.lt n) (.br s.at60 (.exit 0 s) (.br (s.bad ac) (.ret s) (.br (s.ok ac) (.norm (s.nA ac)) (.norm s.nB)))) (.exit 0 s)
theorem FrS.bad_no (s : FrS) : s.bad ac = false := by
  unfold FrS.bad
  rw [eqFra_self]
  simp
theorem FrS.step4_sel (s : FrS) : (s.step4 n ac).sel = (s.step n ac).sel := by
  unfold FrS.step4 FrS.step
  simp only [Rd.sel, FrS.bad_no, Bool.false_eq_true, if_false]
end
def pSt : List Nat := [1, 1, 1, 0, 1, 4]
noncomputable def lpSt (D : SlD sAct) : Lp FrS where
  keys := [18, 17, 16, 5, 2]
  names := [1, 2]
  scr := wrAt Try.prog 4 pSt
  vals s := [eI s.i, eI (BitVec.ofNat 64 D.len), D.slc, .ptr 2 [], .ptr 1 []]
  blks s := [⟨29, eFra s.f⟩, ⟨35, eFra s.f⟩]
  dec vs bs := match vs, bs with
    | [i, _, _, _, _], [⟨_, f⟩, _] => match cI.dec i, cFra.dec f with
      | some i, some f => some ⟨f, i⟩
      | _, _ => none
    | _, _ => none
  fx := [(0, some D.blk)]
theorem goalSt (D : SlD sAct) (s : FrS) (h : s.inv D.len) : LoopGoal Try.prog (loopAt Try.prog 4 pSt) (lpSt D) (FrS.T D.len (acts D)) s 3 73 1 := by
  refine lp_rule (cx := ⟨Try.prog, tabOf ma9, inlF Try.prog (tabOf ma9) noHooks 2⟩) rma9 (inlF_ok rma9 2) (Λ := fun _ => none) (p := []) (lpSt D) (FrS.inv D.len) FrS.mu (FrS.step4 D.len (acts D)) (FrS.T D.len (acts D)) 3 73 1 (fun _ => ⟨rfl, rfl⟩) ?_ ?_ s h
  · intro s r h hi
    refine fl_ok (g := s.lt D.len) (L := [0 ≤ toZ .i64 s.i ∧ toZ .i64 s.i < toZ .i64 (BitVec.ofNat 64 D.len), D.pre.length = D.pre.length, (toZ .i64 s.i).toNat < D.len]) (by kernel_rfl) (fun hg p hp => ?_)
    rw [FrS.lt_iff D.len hi] at hg
    have h1 := hi.big
    simp only [List.mem_cons, List.not_mem_nil, or_false] at hp
    rcases hp with rfl | rfl | rfl
    · rw [toZ_nat (by omega), toZ_nat (by rw [ofNat_toNat (by omega)]; exact h1), ofNat_toNat (by omega)]
      omega
    · trivial
    · rw [toZ_nat (by omega)]; omega
  · intro s hi
    rw [FrS.step4_sel]
    exact FrS.good D.len (acts D) s hi
noncomputable def hSt (D : SlD sAct) : FuncId → Hook := fun f p => if f == 4 && p == pSt then some ((lpSt D).hk (FrS.T D.len (acts D))) else none
def rowF (n : Nat) (ac : Nat → Act) (f : Fra) : Fra := (⟨f, 0#64⟩ : FrS).rf n ac
def lawSt (F : Fra) : Bool := bif !true then false else eqFra F F
theorem lawSt_true (F : Fra) : lawSt F = true := by unfold lawSt; rw [eqFra_self]; rfl
noncomputable def obSt (D : SlD sAct) (f : Fra) : List Prop := [0 ≤ toZ .i64 (BitVec.ofNat 64 D.len), LoopGoal Try.prog (loopAt Try.prog 4 pSt) (lpSt D) (FrS.T D.len (acts D)) ⟨f, 0#64⟩ 3 73 1]
theorem a4 (D : SlD sAct) (f : Fra) : (fl (evalNM Try.prog (tabOf ma9) (hSt D) 8 4 [eFra f, D.slc] D.blk)).map (fun y => y.1) = some (eB (lawSt (rowF D.len (acts D) f))) := by kernel_rfl
theorem b4 (D : SlD sAct) (f : Fra) : (fl (evalNM Try.prog (tabOf ma9) (hSt D) 8 4 [eFra f, D.slc] D.blk)).map (fun y => y.2.2) = some (obSt D f) := by kernel_rfl
theorem obSt_ok {D : SlD sAct} {w : World} (hD : D.Ok w) (f : Fra) : ∀ p ∈ obSt D f, p := by
  have h1 : D.len < 2 ^ 63 := Nat.lt_of_le_of_lt hD.le hD.big
  intro p hp
  simp only [obSt, List.mem_cons, List.not_mem_nil, or_false] at hp
  rcases hp with rfl | rfl
  · rw [toZ_nat (by rw [ofNat_toNat (by omega)]; exact h1)]; omega
  · exact goalSt D ⟨f, 0#64⟩ ⟨h1, Nat.zero_le _, Nat.zero_le _⟩
/-- Over no stores. -/
noncomputable def lpSte (ao : Option Addr) (cap : Nat) : Lp FrS where
  keys := [18, 17, 16, 5, 2]
  names := [0, 1]
  scr := wrAt Try.prog 4 pSt
  vals s := [eI s.i, eI 0#64, .vsl ao cap, .ptr 1 [], .ptr 0 []]
  blks s := [⟨29, eFra s.f⟩, ⟨35, eFra s.f⟩]
  dec vs bs := match vs, bs with
    | [i, _, _, _, _], [⟨_, f⟩, _] => match cI.dec i, cFra.dec f with
      | some i, some f => some ⟨f, i⟩
      | _, _ => none
    | _, _ => none
theorem goalSte (ao : Option Addr) (cap : Nat) (s : FrS) (h : s.i = 0#64) : LoopGoal Try.prog (loopAt Try.prog 4 pSt) (lpSte ao cap) stepFe s 2 73 0 := by
  refine lp_rule (cx := ⟨Try.prog, tabOf ma9, inlF Try.prog (tabOf ma9) noHooks 2⟩) rma9 (inlF_ok rma9 2) (Λ := fun _ => none) (p := []) (lpSte ao cap) (fun s => s.i = 0#64) (fun _ => 0) stepFe stepFe 2 73 0 (fun _ => ⟨rfl, rfl⟩) ?_ ?_ s h
  · intro s r h hi
    refine fl_ok (g := true) (L := [ltB .i64 s.i 0#64 = false]) (by kernel_rfl) (fun _ p hp => ?_)
    simp only [List.mem_singleton] at hp
    subst hp
    rw [hi]; decide
  · intro s hi
    exact rfl
noncomputable def hSte (ao : Option Addr) (cap : Nat) : FuncId → Hook := fun f p => if f == 4 && p == pSt then some ((lpSte ao cap).hk stepFe) else none
noncomputable def obSte (ao : Option Addr) (cap : Nat) (f : Fra) : List Prop := [LoopGoal Try.prog (loopAt Try.prog 4 pSt) (lpSte ao cap) stepFe ⟨f, 0#64⟩ 2 73 0]
theorem a4e (ao : Option Addr) (cap : Nat) (f : Fra) : (fl (evalN0 Try.prog (tabOf ma9) (hSte ao cap) 8 4 [eFra f, .vsl ao cap])).map (fun y => y.1) = some (eB (lawSt f)) := by kernel_rfl
theorem b4e (ao : Option Addr) (cap : Nat) (f : Fra) : (fl (evalN0 Try.prog (tabOf ma9) (hSte ao cap) 8 4 [eFra f, .vsl ao cap])).map (fun y => y.2.2) = some (obSte ao cap f) := by kernel_rfl
theorem obSte_ok (ao : Option Addr) (cap : Nat) (f : Fra) : ∀ p ∈ obSte ao cap f, p := by
  intro p hp
  simp only [obSte, List.mem_cons, List.not_mem_nil, or_false] at hp
  subst hp
  exact goalSte ao cap ⟨f, 0#64⟩ rfl
end Go.Rf
