/- Scalars: Each gives 29 sums. -/
import Derived.Test.YtigiedlngfkfbaaSb1
set_option linter.unusedVariables false
set_option linter.unusedSimpArgs false
set_option maxRecDepth 100000
namespace Go.Rf
open Go.Proofs

def newF (s : SmV) (k : Nat) : Nat → sSm'.T := fun j => shSm ⟨BitVec.ofNat 64 k, j == 0, s.a, s.b⟩
def eachF (s : SmV) : Nat → Nat → sSm'.T
  | 0 => fun _ => shSm s
  | k + 1 => catE (1 + 2 * k) (eachF s k) (newF s k)
theorem flatSm : Flat sSm' := ⟨by kernel_rfl, fun y => Sh.enc_len sSm' (by kernel_rfl) y, by decide, fun _ => by show sSm'.good = true; kernel_rfl⟩

noncomputable def Rg0 : List Oper := opsOf 10 [0]
noncomputable def Rg1 : List Oper := opsOf 10 [1, 0]
noncomputable def Rg2 : List Oper := opsOf 10 [1, 1, 0, 0]
noncomputable def Rg3 : List Oper := opsOf 10 [1, 1, 0, 1, 4, 5, 0, 0]
noncomputable def Rg5 : List Oper := opsOf 10 [1, 1, 0, 1, 4, 5, 1, 0, 4]
noncomputable def Rg4 : List Oper := opsOf 10 [1, 1, 0, 1, 4, 5, 1, 1]
noncomputable def Rg6 : List Oper := opsOf 10 [1, 1, 1, 0]
noncomputable def rnd : Code := .seq (.seq (.region 3 Rg3.toArray false) (.cond (.tmp 8) .skip (.exit 0))) (.seq (.block 1 (.region 5 Rg5.toArray false)) (.region 4 Rg4.toArray false))
theorem body10 : Try.f10.body = some (.seq (.region 0 Rg0.toArray false) (.seq (.region 1 Rg1.toArray false) (.seq (.seq (.region 2 Rg2.toArray false) (.block 0 (.loop rnd))) (.seq (.region 6 Rg6.toArray false) .ret)))) := by kernel_rfl
noncomputable def Rg5a : List Oper := Rg5.take 14
noncomputable def op14 : Oper := (Rg5.drop 14).headD default
noncomputable def op15 : Oper := (Rg5.drop 15).headD default
theorem Rg5_eq : Rg5 = Rg5a ++ (op14 :: [op15]) := by kernel_rfl

def ents0 (k : Nat) : List (Nat × AV) := [(4, eI (BitVec.ofNat 64 k)), (1, .ptr 0 [])]
def hbs0 (s : SmV) : List (Nat × Option Blk) := [(0, some ⟨30, eSm s⟩)]
def stL (s : SmV) (k : Nat) (D : SlD sSm') : St := slSt D 1 3 (ents0 k) (hbs0 s) 27 0

noncomputable def stEv (x : Option (St × Ob)) : St := match x with
  | some y => y.1
  | none => ⟨[], fun _ => .un, [], fun _ => none, 0, 0, 0⟩
noncomputable def s1 (s : SmV) : St := stEv (evalList cx0 Rg0 (St.enter [eSm s] (fun _ => none) 0 27))
noncomputable def s2 (s : SmV) : St := stEv (evalList cx0 Rg1 (s1 s))
noncomputable def s3 (s : SmV) : St := stEv (evalList cx0 Rg2 (s2 s))
noncomputable def s4 (s : SmV) (k : Nat) (D : SlD sSm') : St := stEv (evalList cx0 Rg3 (stL s k D))
noncomputable def s5 (s : SmV) (k : Nat) (D : SlD sSm') : St := stEv (evalList cx0 Rg5a (s4 s k D))
noncomputable def s6 (s : SmV) (k : Nat) (D : SlD sSm') : St := stEv (evalList cx0 [op15] (slSt D 1 25 (ents0 k) (hbs0 s) 27 0))
noncomputable def s7 (s : SmV) (k : Nat) (D : SlD sSm') : St := stEv (evalList cx0 Rg4 (s6 s k D))
theorem e1 (s : SmV) : ∃ ob, evalList cx0 Rg0 (St.enter [eSm s] (fun _ => none) 0 27) = some (s1 s, ob) ∧ ob.holds := fl_two (L := []) (by kernel_rfl) (by kernel_rfl) (by simp)
theorem e2 (s : SmV) : ∃ ob, evalList cx0 Rg1 (s1 s) = some (s2 s, ob) ∧ ob.holds := fl_two (L := []) (by kernel_rfl) (by kernel_rfl) (by simp)
theorem e3 (s : SmV) : ∃ ob, evalList cx0 Rg2 (s2 s) = some (s3 s, ob) ∧ ob.holds := fl_two (L := []) (by kernel_rfl) (by kernel_rfl) (by simp)
theorem e4 (s : SmV) (k : Nat) (D : SlD sSm') : ∃ ob, evalList cx0 Rg3 (stL s k D) = some (s4 s k D, ob) ∧ ob.holds := fl_two (L := []) (by kernel_rfl) (by kernel_rfl) (by simp)
theorem e5 (s : SmV) (k : Nat) (D : SlD sSm') : ∃ ob, evalList cx0 Rg5a (s4 s k D) = some (s5 s k D, ob) ∧ ob.holds := fl_two (L := []) (by kernel_rfl) (by kernel_rfl) (by simp)
theorem e6 (s : SmV) (k : Nat) (D : SlD sSm') : ∃ ob, evalList cx0 [op15] (slSt D 1 25 (ents0 k) (hbs0 s) 27 0) = some (s6 s k D, ob) ∧ ob.holds := fl_two (L := []) (by kernel_rfl) (by kernel_rfl) (by simp)
theorem e7 (s : SmV) (k : Nat) (D : SlD sSm') : ∃ ob, evalList cx0 Rg4 (s6 s k D) = some (s7 s k D, ob) ∧ ob.holds := fl_two (L := []) (by kernel_rfl) (by kernel_rfl) (by simp)
theorem g0 : noGd Rg0 = true := by kernel_rfl
theorem g1 : noGd Rg1 = true := by kernel_rfl
theorem g2 : noGd Rg2 = true := by kernel_rfl
theorem g3 : noGd Rg3 = true := by kernel_rfl
theorem g4 : noGd Rg4 = true := by kernel_rfl
theorem g5 : noGd Rg5 = true := by kernel_rfl
theorem g5a : noGd Rg5a = true := by kernel_rfl
theorem g15 : noGd [op15] = true := by kernel_rfl
theorem g6 : noGd Rg6 = true := by kernel_rfl
end Go.Rf
