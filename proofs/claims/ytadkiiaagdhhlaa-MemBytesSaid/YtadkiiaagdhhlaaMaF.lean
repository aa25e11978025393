/- Memory: laws over stores that come in, evaluated. -/
import Derived.Test.YtadkiiaagdhhlaaMaE
set_option linter.unusedVariables false
set_option linter.unusedSimpArgs false
set_option maxRecDepth 100000
namespace Go.Rf
open Go.Proofs
theorem goalFr (D : SlD sAct) (s : FrS) (h : s.inv D.len) : LoopGoal Try.prog (loopAt Try.prog 22 pFr) (lpFr 3 D) (FrS.T D.len (acts D)) s 4 33 2 := by
  refine lp_rule (cx := ⟨Try.prog, tabOf ma9, inlF Try.prog (tabOf ma9) noHooks 2⟩) rma9 (inlF_ok rma9 2) (Λ := fun _ => none) (p := []) (lpFr 3 D) (FrS.inv D.len) FrS.mu (FrS.step D.len (acts D)) (FrS.T D.len (acts D)) 4 33 2 (fun _ => ⟨rfl, rfl⟩) ?_ ?_ s h
  · intro s r h hi
    refine fl_ok (g := s.lt D.len) (L := [0 ≤ toZ .i64 s.i ∧ toZ .i64 s.i < toZ .i64 (BitVec.ofNat 64 D.len), D.pre.length = D.pre.length, (toZ .i64 s.i).toNat < D.len]) (by kernel_rfl) (fun hg p hp => ?_)
    rw [FrS.lt_iff D.len hi] at hg
    have h1 := hi.big
    simp only [List.mem_cons, List.not_mem_nil, or_false] at hp
    rcases hp with rfl | rfl | rfl
    · rw [toZ_nat (by omega), toZ_nat (by rw [ofNat_toNat (by omega)]; exact h1), ofNat_toNat (by omega)]
      omega
    · trivial
    · rw [toZ_nat (by omega)]; omega
  · exact FrS.good D.len (acts D)
noncomputable def hFr (D : SlD sAct) : FuncId → Hook := fun f p => if f == 22 && p == pFr then some ((lpFr 3 D).hk (FrS.T D.len (acts D))) else none
def frF (n : Nat) (ac : Nat → Act) : Fra := (⟨zF, 0#64⟩ : FrS).rf n ac
def lawBack (F : Fra) (x : Act) : Bool :=
  bif !true then false else bif actE F x != 0#64 then eqFra (actS F x) zF else
  bif x.v.k == 1#8 then loadE (actS F x) x.o x.s == 0#64 && eqVal (loadV (actS F x) x.o x.s) ⟨x.v.k, x.v.m, cutW x.v.n x.s, x.v.o⟩ else loadE (actS F x) x.o x.s == 0#64 && eqVal (loadV (actS F x) x.o x.s) x.v
theorem a5 (D : SlD sAct) (x : Act) : (fl (evalNM Try.prog (tabOf ma9) (hFr D) 8 5 [D.slc, eAct x] D.blk)).map (fun y => y.1) = some (eB (lawBack (frF D.len (acts D)) x)) := by kernel_rfl
theorem b5 (D : SlD sAct) (x : Act) : (fl (evalNM Try.prog (tabOf ma9) (hFr D) 8 5 [D.slc, eAct x] D.blk)).map (fun y => y.2.2) = some [0 ≤ toZ .i64 (BitVec.ofNat 64 D.len), LoopGoal Try.prog (loopAt Try.prog 22 pFr) (lpFr 3 D) (FrS.T D.len (acts D)) ⟨zF, 0#64⟩ 4 33 2] := by kernel_rfl
noncomputable def obFr (D : SlD sAct) : List Prop := [0 ≤ toZ .i64 (BitVec.ofNat 64 D.len), LoopGoal Try.prog (loopAt Try.prog 22 pFr) (lpFr 3 D) (FrS.T D.len (acts D)) ⟨zF, 0#64⟩ 4 33 2]
def inB (o : W) : Bool := ltB .i64 o 0#64 || leB .i64 512#64 o
def farB (o : W) (x : Act) : Bool := qI o != qI x.o
def laidB (o : W) (x : Act) : Bool := leB .i64 x.o o && ltB .i64 o (x.o + x.s)
def base8 (o : W) : W := o - remI o 8#64
def lawApart (F : Fra) (x : Act) (o : W) : Bool :=
  bif !true then false else bif !rightF F then false else bif (actE F x != 0#64 || ltB .i64 o 0#64) || leB .i64 512#64 o then true else bif !rightF (actS F x) then false else
  bif farB o x then ((eqVal (loadV F o 1#64) (loadV (actS F x) o 1#64) && loadE F o 1#64 == loadE (actS F x) o 1#64) && eqVal (loadV F (base8 o) 8#64) (loadV (actS F x) (base8 o) 8#64)) && loadE F (base8 o) 8#64 == loadE (actS F x) (base8 o) 8#64 else
  bif laidB o x then true else bif loadE F o 1#64 == 41#64 then loadE (actS F x) o 1#64 == 40#64 else eqVal (loadV F o 1#64) (loadV (actS F x) o 1#64) && loadE F o 1#64 == loadE (actS F x) o 1#64
theorem a6 (D : SlD sAct) (x : Act) (o : W) : (fl (evalNM Try.prog (tabOf ma9) (hFr D) 8 6 [D.slc, eAct x, eI o] D.blk)).map (fun y => y.1) = some (eB (lawApart (frF D.len (acts D)) x o)) := by kernel_rfl
theorem b6 (D : SlD sAct) (x : Act) (o : W) : (fl (evalNM Try.prog (tabOf ma9) (hFr D) 8 6 [D.slc, eAct x, eI o] D.blk)).map (fun y => y.2.2) = some (obFr D) := by kernel_rfl
def kinds1 (F : Fra) (x : Act) (want : W) : Bool := actE F x == want && (actE F x == 0#64 || eqFra (actS F x) zF)
def lawKinds (F : Fra) (x : Act) : Bool :=
  bif !true then false else bif !mayV x.v || !sizeB x.s then kinds1 F x 1#64 else bif x.v.k == 0#8 then kinds1 F x 40#64 else bif offB x.o x.s then kinds1 F x 42#64 else bif remI x.o x.s != 0#64 then kinds1 F x 43#64 else
  bif (x.v.k != 0#8 && x.v.k != 1#8) && x.s != 8#64 then kinds1 F x 41#64 else kinds1 F x 0#64
theorem a7 (D : SlD sAct) (x : Act) : (fl (evalNM Try.prog (tabOf ma9) (hFr D) 8 7 [D.slc, eAct x] D.blk)).map (fun y => y.1) = some (eB (lawKinds (frF D.len (acts D)) x)) := by kernel_rfl
end Go.Rf
