/- Several texts as one: Me1 Me2 Me3 Me4 Me5 Me6. -/
import Derived.Test.YtadkiiaagdhhlaaMaD
import Derived.Test.YtadkiiaagdhhlaaRfI
import Derived.LoopN
set_option linter.unusedVariables false
set_option linter.unusedSimpArgs false
set_option maxRecDepth 100000

/- Memory: Put makes bytes: its code and first states. -/
namespace Go.Rf
open Go.Proofs

noncomputable def codM (f : Nat) (p : List Nat) : Code := match Try.prog.funcs[f]? with
  | some fn => match fn.body with
    | some c => match codeAt c p with
      | some d => d
      | none => .skip
    | none => .skip
  | none => .skip
noncomputable def opsM (f : Nat) (p : List Nat) : List Oper := match codM f p with
  | .region _ ops _ => ops.toList
  | _ => []
noncomputable def opM (l : List Oper) (k : Nat) : Oper := (l.drop k).headD default
noncomputable def outM (x : Option (St × Ob)) : St := match x with
  | some y => y.1
  | none => ⟨[], fun _ => .un, [], fun _ => none, 0, 0, 0⟩
noncomputable def outK (x : Option (Outc × Ob)) : St := match x with
  | some (.norm st, _) => st
  | _ => ⟨[], fun _ => .un, [], fun _ => none, 0, 0, 0⟩
noncomputable def cxM : Cx := ⟨Try.prog, tabOf ma9, inlF Try.prog (tabOf ma9) noHooks 4⟩
theorem hIM : InlOk cxM.P cxM.inl := inlF_ok rma9 4
theorem regM {l : List Oper} {st st' : St} (he : ∃ ob, evalList cxM l st = some (st', ob) ∧ ob.holds) {id : Nat} {Es : Env} {ws : World} {a : Act} {w : World} (hs : SRel Es ws st a w) {Q : Exit → Act → World → Prop} (hQ : ∀ a' w', SRel Es ws st' a' w' → Q .normal a' w') :
    (Code.region id l.toArray false).wp Try.prog Q a w := by
  obtain ⟨ob, h1, h2⟩ := he
  exact region_wp (cx := cxM) rma9 hIM h1 h2 hs hQ
theorem lstM {l : List Oper} {st st' : St} (hg : noGd l = true) (he : ∃ ob, evalList cxM l st = some (st', ob) ∧ ob.holds) {Es : Env} {ws : World} {a : Act} {w : World} (hs : SRel Es ws st a w) {Q : Exit → Act → World → Prop} (hQ : ∀ a' w', SRel Es ws st' a' w' → Q .normal a' w') :
    wpList Try.prog #[] Q l a w := by
  obtain ⟨ob, h1, h2⟩ := he
  exact evalList_wp (cx := cxM) rma9 hIM hg h1 h2 hs hQ
theorem codeM {c : Code} {Λ : Hook} {p : List Nat} {st st' : St} (he : ∃ ob, evalCode cxM Λ c p st = some (.norm st', ob) ∧ ob.holds) {Es : Env} {ws : World} {a : Act} {w : World} (hs : SRel Es ws st a w) {Q : Exit → Act → World → Prop} (hQ : ∀ a' w', SRel Es ws st' a' w' → Q .normal a' w') :
    c.wp Try.prog Q a w := by
  obtain ⟨ob, h1, h2⟩ := he
  refine wp_mono (evalCode_wp (cx := cxM) rma9 hIM c p st _ ob h1 h2 a w hs) fun e a' w' hm => ?_
  cases e <;> simp only [MatchO] at hm
  exact hQ a' w' hm
theorem boolM {st : St} {t : Nat} {b : Bool} (h : st.look t = .bool fun _ => b) {Es : Env} {ws : World} {a : Act} {w : World} (hs : SRel Es ws st a w) : a.eval (.tmp t) = .bool b := by
  obtain ⟨E, h1, _⟩ := hs
  have q := h1 t
  rw [h] at q
  exact q.2.symm
def sB : Sh := .int .u8
theorem flatB : Flat sB := ⟨by kernel_rfl, fun y => Sh.enc_len sB (by kernel_rfl) y, by decide, fun _ => by show sB.good = true; kernel_rfl⟩

noncomputable def P0 : List Oper := opsM 26 [0]
noncomputable def P1 : List Oper := opsM 26 [1, 0, 0]
noncomputable def P2 : List Oper := opsM 26 [1, 0, 1, 0]
noncomputable def P3 : List Oper := opsM 26 [1, 0, 1, 1, 2, 0]
noncomputable def P4 : List Oper := opsM 26 [1, 1, 0]
noncomputable def P5 : List Oper := opsM 26 [1, 1, 1, 0]
noncomputable def P6 : List Oper := opsM 26 [1, 1, 1, 1, 0]
noncomputable def P7 : List Oper := opsM 26 [1, 1, 1, 1, 1, 0, 0]
noncomputable def P8 : List Oper := opsM 26 [1, 1, 1, 1, 1, 0, 1, 4, 5, 0]
noncomputable def P9 : List Oper := opsM 26 [1, 1, 1, 1, 1, 0, 1, 4, 5, 1, 1, 0, 4, 0]
noncomputable def P10 : List Oper := opsM 26 [1, 1, 1, 1, 1, 0, 1, 4, 5, 1, 1, 0, 4, 1]
noncomputable def P11 : List Oper := opsM 26 [1, 1, 1, 1, 1, 0, 1, 4, 5, 1, 1, 1]
noncomputable def P12 : List Oper := opsM 26 [1, 1, 1, 1, 1, 1, 0]
noncomputable def rndP : Code := .seq (.region 8 P8.toArray false) (.seq (.cond (.tmp 39) .skip (.exit 0)) (.seq (.block 1 (.seq (.region 9 P9.toArray false) (.region 10 P10.toArray false))) (.region 11 P11.toArray false)))
theorem body26 : Try.f26.body = some (.seq (.region 0 P0.toArray false) (.seq (.seq (.region 1 P1.toArray false) (.seq (.region 2 P2.toArray false) (.cond (.tmp 19) (.seq (.region 3 P3.toArray false) .ret) .skip)))
  (.seq (.region 4 P4.toArray false) (.seq (.region 5 P5.toArray false) (.seq (.region 6 P6.toArray false) (.seq (.seq (.region 7 P7.toArray false) (.block 0 (.loop rndP))) (.seq (.region 12 P12.toArray false) .ret))))))) := by kernel_rfl
noncomputable def P4a : List Oper := P4.take 2
noncomputable def oMk : Oper := opM P4 2
noncomputable def P4b : List Oper := P4.drop 3
theorem P4_eq : P4 = P4a ++ (oMk :: P4b) := by kernel_rfl
noncomputable def P5a : List Oper := P5.take 2
noncomputable def oCp : Oper := opM P5 2
theorem P5_eq : P5 = P5a ++ (oCp :: []) := by kernel_rfl
noncomputable def P6a : List Oper := P6.take 8
noncomputable def oSl : Oper := opM P6 8
noncomputable def P6b : List Oper := P6.drop 9
theorem P6_eq : P6 = P6a ++ (oSl :: P6b) := by kernel_rfl
noncomputable def P10a : List Oper := P10.take 9
noncomputable def oSt : Oper := opM P10 9
theorem P10_eq : P10 = P10a ++ (oSt :: []) := by kernel_rfl
structure PI where
  D : SlD sB
  off : W
  size : W
  n : W
def argP (x : PI) : List AV := [x.D.at 0, eI x.off, eI x.size, eW x.n]
noncomputable def pq0 (x : PI) : St := St.enter (argP x) (hpB x.D.blk) 1 52
noncomputable def pq1 (x : PI) : St := outM (evalList cxM P0 (pq0 x))
noncomputable def pq2 (x : PI) : St := outM (evalList cxM P1 (pq1 x))
noncomputable def pq3 (x : PI) : St := outM (evalList cxM P2 (pq2 x))
end Go.Rf

/- Memory: Put makes bytes: its states. -/
namespace Go.Rf
open Go.Proofs

def inE (x : PI) : W := bif !(sizeB x.size) then 1#64 else bif ltB .i64 x.off 0#64 || ltB .i64 (BitVec.ofNat 64 x.D.len - x.size) x.off then 42#64 else 0#64
theorem len_ob {n : Nat} (h : n < 2 ^ 63) : ∀ p ∈ [0 ≤ toZ .i64 (BitVec.ofNat 64 n)], p := fun p hp => by
  simp only [List.mem_singleton] at hp
  subst hp
  rw [toZ_nat (by rw [ofNat_toNat (by omega)]; exact h)]; omega
/-- The same with other elements. -/
def wE (D : SlD sB) (els : Nat → B8) : SlD sB := { D with els := els }
section
variable (x : PI)
theorem ep1 : ∃ ob, evalList cxM P0 (pq0 x) = some (pq1 x, ob) ∧ ob.holds := fl_two (L := []) (by kernel_rfl) (by kernel_rfl) (by simp)
theorem ep2 (h : x.D.len < 2 ^ 63) : ∃ ob, evalList cxM P1 (pq1 x) = some (pq2 x, ob) ∧ ob.holds := fl_two (L := [0 ≤ toZ .i64 (BitVec.ofNat 64 x.D.len)]) (by kernel_rfl) (by kernel_rfl) (len_ob h)
theorem ep3 : ∃ ob, evalList cxM P2 (pq2 x) = some (pq3 x, ob) ∧ ob.holds := fl_two (L := []) (by kernel_rfl) (by kernel_rfl) (by simp)
theorem pq3g : (pq3 x).look 19 = .bool fun _ => inE x != 0#64 := by kernel_rfl
noncomputable def pqR : St := outM (evalList cxM (P3.take 1) (pq3 x))
theorem epR : ∃ ob, evalList cxM (P3.take 1) (pq3 x) = some (pqR x, ob) ∧ ob.holds := fl_two (L := []) (by kernel_rfl) (by kernel_rfl) (by simp)
noncomputable def pqS : St := outM (evalList cxM (P3.drop 2) ((pqR x).setT 8 (.vsl none 0)))
theorem epS : ∃ ob, evalList cxM (P3.drop 2) ((pqR x).setT 8 (.vsl none 0)) = some (pqS x, ob) ∧ ob.holds := fl_two (L := []) (by kernel_rfl) (by kernel_rfl) (by simp)
theorem pqSa : (pqS x).look 8 = .vsl none 0 := by kernel_rfl
theorem pqSb : (pqS x).look 9 = eI (inE x) := by kernel_rfl
theorem pqRn : (pqR x).nt = 52 := by kernel_rfl
theorem P3_eq : P3 = P3.take 1 ++ (opM P3 1 :: P3.drop 2) := by kernel_rfl
theorem oNa : (opM P3 1).op = .assign (.const (.slice none 0 0)) := by kernel_rfl
theorem oNb : (opM P3 1).dst = some 8 := by kernel_rfl
theorem oNc : (opM P3 1).guard = none := by kernel_rfl
theorem gP3 : noGd P3 = true := by kernel_rfl
theorem gP3a : noGd (P3.take 1) = true := by kernel_rfl
theorem gP3b : noGd (P3.drop 2) = true := by kernel_rfl
noncomputable def pq4 : St := outM (evalList cxM P4a (pq3 x))
theorem ep4 (h : x.D.len < 2 ^ 63) : ∃ ob, evalList cxM P4a (pq3 x) = some (pq4 x, ob) ∧ ob.holds := fl_two (L := [0 ≤ toZ .i64 (BitVec.ofNat 64 x.D.len)]) (by kernel_rfl) (by kernel_rfl) (len_ob h)
def enM0 : List (Nat × AV) := [(0, x.D.at 0), (1, eI x.off), (2, eI x.size), (3, eW x.n)]
def hbM0 : List (Nat × Option Blk) := [(0, some x.D.blk)]
theorem pq4a : (pq4 x).nt = 52 := by kernel_rfl
theorem pq4b : (pq4 x).lo = 1 := by kernel_rfl
theorem pq4c : (pq4 x).next = 1 := by kernel_rfl
theorem pq4d : (pq4 x).look 22 = .int .i64 fun _ => BitVec.ofNat 64 x.D.len := by kernel_rfl
theorem pq4e : ((enM0 x).map fun z => unlitM ((pq4 x).look z.1)) = (enM0 x).map (·.2) := by kernel_rfl
theorem pq4f : ((hbM0 x).map fun z => (pq4 x).hp z.1) = (hbM0 x).map (·.2) := by kernel_rfl
theorem enM0_n : ((enM0 x).all fun z => nltB 1 z.2) = true := by kernel_rfl
theorem hbM0_n : ((hbM0 x).all fun z => Nat.blt z.1 1 && match z.2 with | some B => nltB 1 B.v | none => true) = true := by kernel_rfl
theorem oMka : oMk.op = .makeSlice 57 (.tmp 22) (.tmp 22) := by kernel_rfl
theorem oMkb : oMk.dst = some 23 := by kernel_rfl
theorem oMkc : oMk.guard = none := by kernel_rfl
theorem gP4 : noGd P4 = true := by kernel_rfl
theorem gP4a : noGd P4a = true := by kernel_rfl
theorem gP4b : noGd P4b = true := by kernel_rfl
theorem gP5 : noGd P5 = true := by kernel_rfl
theorem gP5a : noGd P5a = true := by kernel_rfl
theorem gP6 : noGd P6 = true := by kernel_rfl
theorem gP6a : noGd P6a = true := by kernel_rfl
theorem gP6b : noGd P6b = true := by kernel_rfl
theorem gP10 : noGd P10 = true := by kernel_rfl
theorem gP10a : noGd P10a = true := by kernel_rfl
variable (D1 : SlD sB)
noncomputable def pq5 : St := outM (evalList cxM P4b (slSt D1 1 23 (enM0 x) (hbM0 x) 52 1))
theorem ep5 : ∃ ob, evalList cxM P4b (slSt D1 1 23 (enM0 x) (hbM0 x) 52 1) = some (pq5 x D1, ob) ∧ ob.holds := fl_two (L := []) (by kernel_rfl) (by kernel_rfl) (by simp)
noncomputable def pq6 : St := outM (evalList cxM P5a (pq5 x D1))
theorem ep6 : ∃ ob, evalList cxM P5a (pq5 x D1) = some (pq6 x D1, ob) ∧ ob.holds := fl_two (L := []) (by kernel_rfl) (by kernel_rfl) (by simp)
theorem oCpa : oCp.op = .call { callee := .builtin .copy, args := #[.tmp 24, .tmp 25], argTypes := #[57, 57] } := by kernel_rfl
theorem oCpb : oCp.dst = some 26 := by kernel_rfl
theorem oCpc : oCp.guard = none := by kernel_rfl
theorem pq6a : (pq6 x D1).nt = 52 := by kernel_rfl
theorem pq6b : (pq6 x D1).lo = 1 := by kernel_rfl
theorem pq6c : (pq6 x D1).look 24 = D1.at 1 := by kernel_rfl
theorem pq6d : (pq6 x D1).look 25 = x.D.at 0 := by kernel_rfl
theorem pq6e : (pq6 x D1).hp 0 = some x.D.blk := by kernel_rfl
theorem pq6f : (pq6 x D1).hp 1 = some D1.blk := by kernel_rfl
def enM1 : List (Nat × AV) := (11, D1.at 1) :: enM0 x
def hbM1 : List (Nat × Option Blk) := (1, some D1.blk) :: hbM0 x
def stM1 : St := ⟨enM1 x D1, fun _ => .un, hbM1 x D1, fun _ => none, 2, 52, 1⟩
theorem enM1_n : ((enM1 x D1).all fun z => nltB 2 z.2) = true := by kernel_rfl
theorem hbM1_n : ((hbM1 x D1).all fun z => Nat.blt z.1 2 && match z.2 with | some B => nltB 2 B.v | none => true) = true := by kernel_rfl
theorem pq6g (els : Nat → B8) : ((enM1 x (wE D1 els)).map fun z => unlitM ((((pq6 x D1).setB 1 (wE D1 els).blk).setT 26 .un).look z.1)) = (enM1 x (wE D1 els)).map (·.2) := by kernel_rfl
theorem pq6h (els : Nat → B8) : ((hbM1 x (wE D1 els)).map fun z => (((pq6 x D1).setB 1 (wE D1 els).blk).setT 26 .un).hp z.1) = (hbM1 x (wE D1 els)).map (·.2) := by kernel_rfl
noncomputable def pq7 : St := outM (evalList cxM P6a (stM1 x D1))
theorem ep7 : ∃ ob, evalList cxM P6a (stM1 x D1) = some (pq7 x D1, ob) ∧ ob.holds := fl_two (L := []) (by kernel_rfl) (by kernel_rfl) (by simp)
theorem oSla : oSl.op = .slice 57 (.tmp 27) (some (.tmp 28)) (some (.tmp 31)) (some (.tmp 34)) := by kernel_rfl
theorem oSlb : oSl.dst = some 35 := by kernel_rfl
theorem oSlc : oSl.guard = none := by kernel_rfl
theorem pq7a : (pq7 x D1).nt = 52 := by kernel_rfl
theorem pq7b : (pq7 x D1).look 27 = D1.at 1 := by kernel_rfl
theorem pq7c : (pq7 x D1).look 28 = .int .i64 fun _ => x.off := by kernel_rfl
theorem pq7d : (pq7 x D1).look 31 = .int .i64 fun _ => x.off + x.size := by kernel_rfl
theorem pq7e : (pq7 x D1).look 34 = .int .i64 fun _ => x.off + x.size := by kernel_rfl
def prt : AV := .slc 1 [.win x.off.toNat] (.int .i64 fun _ => x.size) x.size.toNat
noncomputable def pq8 : St := outM (evalList cxM P6b ((pq7 x D1).setT 35 (prt x)))
theorem ep8 : ∃ ob, evalList cxM P6b ((pq7 x D1).setT 35 (prt x)) = some (pq8 x D1, ob) ∧ ob.holds := fl_two (L := []) (by kernel_rfl) (by kernel_rfl) (by simp)
noncomputable def pq9 : St := outM (evalList cxM P7 (pq8 x D1))
theorem ep9 (h : 0 ≤ toZ .i64 x.size) : ∃ ob, evalList cxM P7 (pq8 x D1) = some (pq9 x D1, ob) ∧ ob.holds := fl_two (L := [0 ≤ toZ .i64 x.size]) (by kernel_rfl) (by kernel_rfl) (fun p hp => by simp only [List.mem_singleton] at hp; subst hp; exact h)
variable (j : W)
def enL : List (Nat × AV) := (38, eI j) :: (37, eI x.size) :: (12, prt x) :: (11, D1.at 1) :: (3, eW x.n) :: []
def stLp : St := ⟨enL x D1 j, fun _ => .un, hbM1 x D1, fun _ => none, 2, 52, 1⟩
theorem pq9a : (pq9 x D1).nt = 52 := by kernel_rfl
theorem pq9b : (pq9 x D1).lo = 1 := by kernel_rfl
theorem enL_n : ((enL x D1 j).all fun z => nltB 2 z.2) = true := by kernel_rfl
noncomputable def l8 : St := outM (evalList cxM P8 (stLp x D1 j))
theorem el8 : ∃ ob, evalList cxM P8 (stLp x D1 j) = some (l8 x D1 j, ob) ∧ ob.holds := fl_two (L := []) (by kernel_rfl) (by kernel_rfl) (by simp)
theorem l8g : (l8 x D1 j).look 39 = .bool fun _ => ltB .i64 j x.size := by kernel_rfl
noncomputable def l9 : St := outM (evalList cxM P9 (l8 x D1 j))
theorem el9 : ∃ ob, evalList cxM P9 (l8 x D1 j) = some (l9 x D1 j, ob) ∧ ob.holds := fl_two (L := []) (by kernel_rfl) (by kernel_rfl) (by simp)
noncomputable def l10 : St := outM (evalList cxM P10a (l9 x D1 j))
theorem el10 (h : 0 ≤ toZ .i64 j ∧ toZ .i64 j < toZ .i64 x.size) : ∃ ob, evalList cxM P10a (l9 x D1 j) = some (l10 x D1 j, ob) ∧ ob.holds := fl_two (L := [0 ≤ toZ .i64 j ∧ toZ .i64 j < toZ .i64 x.size]) (by kernel_rfl) (by kernel_rfl) (fun p hp => by simp only [List.mem_singleton] at hp; subst hp; exact h)
def byteP (n j : W) : B8 := convB .u64 .u8 (shrB .u64 n (amt .u64 (convB .i64 .u64 (8#64 * j))))
theorem oSta : eff Try.prog (opd (l10 x D1 j).look) oSt.op = some (.st 1 [.win x.off.toNat, .idx (toZ .i64 j).toNat 1] 5 (.int .u8 fun _ => byteP x.n j)) := by kernel_rfl
theorem oStb : oSt.dst = none := by kernel_rfl
theorem oStc : oSt.guard = none := by kernel_rfl
theorem l10a : (l10 x D1 j).hp 1 = some D1.blk := by kernel_rfl
variable (D2 : SlD sB)
noncomputable def l11 : St := outM (evalList cxM P11 ((l10 x D1 j).setB 1 D2.blk))
theorem el11 : ∃ ob, evalList cxM P11 ((l10 x D1 j).setB 1 D2.blk) = some (l11 x D1 j D2, ob) ∧ ob.holds := fl_two (L := []) (by kernel_rfl) (by kernel_rfl) (by simp)
theorem l11a : (l11 x D1 j D2).nt = 52 := by kernel_rfl
theorem l11b : (l11 x D1 j D2).lo = 1 := by kernel_rfl
theorem l11c : ((enL x D1 (j + 1#64)).map fun z => unlitM ((l11 x D1 j D2).look z.1)) = (enL x D1 (j + 1#64)).map (·.2) := by kernel_rfl
theorem l11d : ((hbM1 x D2).map fun z => (l11 x D1 j D2).hp z.1) = (hbM1 x D2).map (·.2) := by kernel_rfl
theorem pq9c : ((enL x D1 0#64).map fun z => unlitM ((pq9 x D1).look z.1)) = (enL x D1 0#64).map (·.2) := by kernel_rfl
theorem pq9d : ((hbM1 x D1).map fun z => (pq9 x D1).hp z.1) = (hbM1 x D1).map (·.2) := by kernel_rfl
noncomputable def l12 : St := outM (evalList cxM P12 (l8 x D1 j))
theorem el12 : ∃ ob, evalList cxM P12 (l8 x D1 j) = some (l12 x D1 j, ob) ∧ ob.holds := fl_two (L := []) (by kernel_rfl) (by kernel_rfl) (by simp)
theorem l12a : (l12 x D1 j).look 8 = D1.at 1 := by kernel_rfl
theorem l12b : (l12 x D1 j).look 9 = .lit .i64 0 := by kernel_rfl
theorem l12c : (l12 x D1 j).hp 1 = some D1.blk := by kernel_rfl
theorem l12d : (l12 x D1 j).hp 0 = some x.D.blk := by kernel_rfl
end
end Go.Rf

/- Memory: Put makes bytes: the walk. -/
namespace Go.Rf
open Go.Proofs

theorem ofNat_selfM (x : W) : BitVec.ofNat 64 x.toNat = x := BitVec.eq_of_toNat_eq (by rw [BitVec.toNat_ofNat]; exact Nat.mod_eq_of_lt x.isLt)
def elB (D : SlD sB) (j : Nat) : B8 := D.els j
/-- What is put so far. -/
def putTo (x : PI) (j : Nat) : Nat → B8 := fun i => if x.off.toNat ≤ i ∧ i < x.off.toNat + j then byteP x.n (BitVec.ofNat 64 (i - x.off.toNat)) else elB x.D i
structure PI.ok (x : PI) : Prop where
  size : x.size.toNat = 1 ∨ x.size.toNat = 2 ∨ x.size.toNat = 4 ∨ x.size.toNat = 8
  fit : x.off.toNat + x.size.toNat ≤ x.D.len
  few : x.D.len ≤ 140737488355328
noncomputable def inf5 : TypeInfo := (Try.prog.info? 5).getD default
theorem t57 : Try.prog.underlying 57 = some (.slice 5) := by kernel_rfl
theorem t57e : Try.prog.underlying 57 = some (.slice (Try.prog.elem 57)) := by kernel_rfl
theorem t57s : szT Try.prog (Try.prog.elem 57) = some 1 := by kernel_rfl
theorem s5s : szT Try.prog 5 = some 1 := by kernel_rfl
theorem i5a : Try.prog.info? 5 = some inf5 := by kernel_rfl
theorem i5b : inf5.zero = some (.int .u8 0) := by kernel_rfl
theorem i5c : inf5.size = sB.sz := by kernel_rfl
theorem i5d : inf5.bytes = 1 := by kernel_rfl
theorem i5e : (Try.prog.info? 5).map (·.size) = some 1 := by kernel_rfl
theorem z5 : (Value.int .u8 0).cells.toList = cells E0 [] (sB.enc 0#8) := by kernel_rfl
theorem oneB : ∀ (n : Nat) (els : Nat → sB.T), ∀ v ∈ flatN sB n els, v.oneCell' = true := by
  intro n els v hv
  unfold flatN at hv
  rw [List.mem_flatMap] at hv
  obtain ⟨i, _, h⟩ := hv
  have : v = .int .u8 (toZ .u8 (els i)) := List.mem_singleton.1 h
  subst this; rfl
def PutPost (x : PI) (w : World) (e : Ending) (w' : World) : Prop :=
  ∃ D2 : SlD sB, e = .returned (.tuple #[D2.value, .int .i64 0]) ∧ D2.Own 5 w' ∧ D2.len = x.D.len ∧ D2.cap = x.D.len ∧ D2.els = putTo x x.size.toNat ∧ w.heap.size ≤ D2.b ∧ RowKit.Below w.heap.size w w'
section
variable (x : PI) (hx : x.ok) {Es : Env} {ws : World}
include hx
theorem offI : toZ .i64 x.off = x.off.toNat := toZ_nat (by have := hx.fit; have := hx.few; omega)
theorem sizeI : toZ .i64 x.size = x.size.toNat := toZ_nat (by have := hx.fit; have := hx.few; omega)
theorem sumI : (x.off + x.size).toNat = x.off.toNat + x.size.toNat ∧ toZ .i64 (x.off + x.size) = x.off.toNat + x.size.toNat := by
  have h1 := hx.fit
  have h2 := hx.few
  have e : (x.off + x.size).toNat = x.off.toNat + x.size.toNat := by rw [BitVec.toNat_add]; omega
  exact ⟨e, by rw [toZ_nat (by omega), e]; omega⟩
/-- The bytes are written. -/
theorem loopP {D0 : SlD sB} (d1 : D0.Fix 5) (d2 : D0.len = x.D.len) (d3 : D0.els = putTo x 0) {Q : Exit → Act → World → Prop}
    (hQ : ∀ a w, SRel Es ws (l8 x (wE D0 (putTo x x.size.toNat)) x.size) a w → Q (.exit 0) a w) {a0 : Act} {w0 : World} (hs : SRel Es ws (stLp x D0 0#64) a0 w0) : (Code.loop rndP).wp Try.prog Q a0 w0 := by
  have h1 := hx.fit
  have h2 := hx.few
  have hsz : x.size.toNat ≤ 8 := by have := hx.size; omega
  have e0 : D0 = wE D0 (putTo x 0) := by
    unfold wE; rw [← d3]
  refine wp_loop_ix (fun j a' w' => j ≤ x.size.toNat ∧ SRel Es ws (stLp x (wE D0 (putTo x j)) (BitVec.ofNat 64 j)) a' w') (fun j => x.size.toNat - j) ?_ 0 a0 w0 ⟨Nat.zero_le _, by rw [← e0]; exact hs⟩
  rintro j a1 w1 ⟨hj, hs1⟩
  refine wp_seq (regM (el8 x _ _) hs1 fun a2 w2 hs2 => ?_)
  have hc := boolM (l8g x (wE D0 (putTo x j)) (BitVec.ofNat 64 j)) hs2
  rw [show x.size = BitVec.ofNat 64 x.size.toNat from (ofNat_selfM x.size).symm, ltB_ofNat (by omega) (by omega)] at hc
  show (Code.seq (.cond (.tmp 39) .skip (.exit 0)) _).wp Try.prog _ a2 w2
  by_cases hlt : j < x.size.toNat
  · refine wp_seq (wp_cond_true (by rw [hc, decide_eq_true hlt]) (wp_skip ?_))
    show (Code.seq (.block 1 (.seq (.region 9 P9.toArray false) (.region 10 P10.toArray false))) (.region 11 P11.toArray false)).wp Try.prog _ a2 w2
    refine wp_seq (wp_block (wp_seq (regM (el9 x _ _) hs2 fun a3 w3 hs3 => ?_)))
    show (Code.region 10 P10.toArray false).wp Try.prog _ a3 w3
    refine list_region (by simpa using gP10) ?_
    rw [List.toList_toArray, P10_eq]
    refine wpList_app _ (noGd_spec gP10a) _ _ ?_
    have hjn : (BitVec.ofNat 64 j : W).toNat = j := ofNat_toNat (by omega)
    have hjz : toZ .i64 (BitVec.ofNat 64 j) = j := by rw [toZ_nat (by omega), hjn]
    refine lstM gP10a (el10 x _ _ (by rw [hjz, sizeI x hx]; omega)) hs3 fun a4 w4 hs4 => ⟨rfl, ?_⟩
    refine step_store (P := Try.prog) flatB (by kernel_rfl) hs4 oStc (oSta x (wE D0 (putTo x j)) (BitVec.ofNat 64 j)) oStb (D := wE D0 (putTo x j)) (l10a x _ _) d1.fz (j := x.off.toNat + j) (by show x.off.toNat + j < D0.len; omega)
      (by rw [hjz]; show x.off.toNat + ((j : Int).toNat * 1 + 0) = D0.pre.length + (x.off.toNat + j); rw [d1.pre]; simp) (byteP x.n (BitVec.ofNat 64 j)) (fun E => rfl) s5s rfl fun a5 w5 hs5 => ?_
    have en : ({ wE D0 (putTo x j) with els := fun i => if i = x.off.toNat + j then byteP x.n (BitVec.ofNat 64 j) else (wE D0 (putTo x j)).els i } : SlD sB) = wE D0 (putTo x (j + 1)) := by
      have ef : (fun i => if i = x.off.toNat + j then byteP x.n (BitVec.ofNat 64 j) else putTo x j i) = putTo x (j + 1) := by
        funext i
        unfold putTo
        by_cases h : i = x.off.toNat + j
        · subst h
          rw [if_pos rfl, if_pos (by omega), Nat.add_sub_cancel_left]
        · rw [if_neg h]
          by_cases h3 : x.off.toNat ≤ i ∧ i < x.off.toNat + j
          · rw [if_pos h3, if_pos (by omega)]
          · rw [if_neg h3, if_neg (by omega)]
      show wE D0 (fun i => if i = x.off.toNat + j then byteP x.n (BitVec.ofNat 64 j) else putTo x j i) = _
      rw [ef]
    rw [en] at hs5
    show (Code.region 11 P11.toArray false).wp Try.prog _ a5 w5
    refine regM (el11 x _ _ (wE D0 (putTo x (j + 1)))) hs5 fun a6 w6 hs6 => ?_
    have hs7 := norm_relM (kept_ofM (l11c x (wE D0 (putTo x j)) (BitVec.ofNat 64 j) (wE D0 (putTo x (j + 1)))) (l11d x (wE D0 (putTo x j)) (BitVec.ofNat 64 j) (wE D0 (putTo x (j + 1)))) (enL_n x _ _) (hbM1_n x _) (by rw [l11b]; rfl)) (l11a x _ _ _) (l11b x _ _ _) hs6
    rw [ofNat_succ] at hs7
    exact ⟨j + 1, ⟨by omega, hs7⟩, by omega⟩
  · refine wp_seq (wp_cond_false (by rw [hc, decide_eq_false hlt]) ?_)
    obtain rfl : j = x.size.toNat := by omega
    rw [ofNat_selfM] at hs2
    exact wp_exit (hQ a2 w2 hs2)
end
end Go.Rf

/- Memory: Put's contract where it puts, and where it refuses. -/
namespace Go.Rf
open Go.Proofs

theorem entP (x : PI) (hl : x.D.len < 2 ^ 63) {b : Nat} {w : World} (hb : w.heap[b]? = some (.cells (cells E0 [] x.D.blk.v).toArray x.D.T x.D.fz)) : SRel (E1 b) w (pq0 x) (enterActB (E1 b) Try.f26 (argP x)) w := by
  have hnt : Try.f26.ntmps = 52 := by kernel_rfl
  have h := enterB1 (fn := Try.f26) (args := argP x) (B := x.D.blk) (b := b) (w := w) (by rw [hnt]; show 4 ≤ 52; omega) (fun v hv => by
    simp only [argP, List.mem_cons, List.not_mem_nil, or_false] at hv
    rcases hv with rfl | rfl | rfl | rfl
    · exact (at_val (D := { x.D with b := b }) (n := 0) (E := E1 b) rfl hl).2
    · trivial
    · trivial
    · trivial) (blk_cells (flatB.good _) (E1 b)).2 (by rw [(blk_cells (flatB.good _) (E1 b)).1]; exact hb)
  rw [hnt] at h
  exact h
theorem resP : Try.f26.results = #[.tmp 8, .tmp 9] := by kernel_rfl
theorem inE_ok {x : PI} (hx : x.ok) : inE x = 0#64 := by
  have h1 := hx.fit
  have h2 := hx.few
  have hs : sizeB x.size = true := by
    have e := ofNat_selfM x.size
    rcases hx.size with h | h | h | h <;> rw [h] at e <;> rw [← e] <;> rfl
  have e0 : ltB .i64 x.off 0#64 = false := by
    rw [show x.off = BitVec.ofNat 64 x.off.toNat from (ofNat_selfM _).symm, show (0#64 : W) = BitVec.ofNat 64 0 from rfl, ltB_ofNat (by omega) (by omega)]
    exact decide_eq_false (by omega)
  have e1 : BitVec.ofNat 64 x.D.len - x.size = BitVec.ofNat 64 (x.D.len - x.size.toNat) := by
    apply BitVec.eq_of_toNat_eq
    have hsz : x.size.toNat ≤ 8 := by have := hx.size; omega
    rw [BitVec.toNat_sub, ofNat_toNat (by omega), ofNat_toNat (by omega)]
    omega
  have e2 : ltB .i64 (BitVec.ofNat 64 x.D.len - x.size) x.off = false := by
    rw [e1, show x.off = BitVec.ofNat 64 x.off.toNat from (ofNat_selfM _).symm, ltB_ofNat (by omega) (by omega)]
    exact decide_eq_false (by omega)
  unfold inE
  rw [hs, e0, e2]; rfl
theorem putTo0 (x : PI) : putTo x 0 = elB x.D := by
  funext i
  unfold putTo
  rw [if_neg (by omega)]
theorem intM {st : St} {t : Nat} {v : W} (h : st.look t = .int .i64 fun _ => v) {Es : Env} {ws : World} {a : Act} {w : World} (hs : SRel Es ws st a w) : a.eval (.tmp t) = .int .i64 (toZ .i64 v) := by
  obtain ⟨E, h1, _⟩ := hs
  have q := h1 t
  rw [h] at q
  exact q.2.symm
theorem retP (x : PI) {b : Nat} {w : World} (hb : w.heap[b]? = some (.cells (cells E0 [] x.D.blk.v).toArray x.D.T x.D.fz)) (hl : x.D.len < 2 ^ 63) (D : SlD sB) (d1 : D.Fix 5) (d2 : D.len = x.D.len) (d4 : D.cap = x.D.len) (d5 : D.els = putTo x x.size.toNat) (st : St) (f8 : st.look 8 = D.at 1) (f9 : st.look 9 = .lit .i64 0) (g1 : st.hp 1 = some D.blk) (g0 : st.hp 0 = some x.D.blk)
    {ae : Act} {we : World} (hsg : SRel (E1 b) w st ae we) : bodyPost Try.prog Try.f26 (PutPost x w) .ret ae we := by
  obtain ⟨E, q1, q2, q3, q4, q5, q6, q7, q8, q9, q10⟩ := hsg
  obtain ⟨b1, r1, r2, r3⟩ := q4 1 _ g1
  obtain ⟨b0, s1, s2, s3⟩ := q4 0 _ g0
  have hb0 : E 0 = some b := q8.sub 0 b rfl
  obtain rfl : b0 = b := by rw [s1] at hb0; exact Option.some.inj hb0
  have v8 := q1 8
  have v9 := q1 9
  rw [f8] at v8
  rw [f9] at v9
  let D2 : SlD sB := { D with b := b1 }
  have e8 : ae.tmps.getD 8 undef = D2.value := by
    have e := (at_val (D := D2) (n := 1) r1 (by show D.len < 2 ^ 63; omega)).1
    exact v8.2.symm.trans e
  have e9 : ae.tmps.getD 9 undef = .int .i64 0 := v9.2.symm
  refine bodyPost_ret (results_two (t := 8) (u := 9) resP _ _ _) q3 ?_
  refine ⟨D2, by rw [e8, e9], ⟨?_, d1.le, d1.pre, d1.fz, d1.ty, d1.post, d1.max⟩, d2, d4, d5, ?_, ⟨q8.os, q8.tape, q8.output, q8.size, fun k hk => ?_⟩⟩
  · show we.heap[b1]? = _
    rw [r3, (blk_cells (flatB.good _) E).1]
    rfl
  · rcases q8.new 1 b1 r1 with h | h
    · cases h
    · exact h
  · by_cases hkb : k = b0
    · subst hkb
      rw [s3, (blk_cells (flatB.good _) E).1, hb]
      rfl
    · refine q8.keep k hk (fun n hn => hkb ?_)
      unfold E1 at hn
      split at hn
      · simpa using hn.symm
      · cases hn
theorem callsPut (x : PI) (hx : x.ok) {b : Nat} {w : World} (hb : w.heap[b]? = some (.cells (cells E0 [] x.D.blk.v).toArray x.D.T x.D.fz)) : Calls Try.prog 26 ((argP x).map (val (E1 b))).toArray w (PutPost x w) := by
  have h1 := hx.fit
  have h2 := hx.few
  have hsz : x.size.toNat ≤ 8 ∧ 1 ≤ x.size.toNat := by have := hx.size; omega
  have hl : x.D.len < 2 ^ 63 := by omega
  refine calls_of_wp Try.func26 body26 ?_
  have hs0 := entP x hl hb
  refine wp_seq (regM (ep1 x) hs0 fun a1 w1 hs1 => ?_)
  show (Code.seq (.seq (.region 1 P1.toArray false) _) _).wp Try.prog _ a1 w1
  refine wp_seq (wp_seq (regM (ep2 x hl) hs1 fun a2 w2 hs2 => ?_))
  show (Code.seq (.region 2 P2.toArray false) _).wp Try.prog _ a2 w2
  refine wp_seq (regM (ep3 x) hs2 fun a3 w3 hs3 => ?_)
  have hc := boolM (pq3g x) hs3
  rw [inE_ok hx] at hc
  refine wp_cond_false hc (wp_skip ?_)
  show (Code.seq (.region 4 P4.toArray false) _).wp Try.prog _ a3 w3
  refine wp_seq (list_region (by simpa using gP4) ?_)
  rw [List.toList_toArray, P4_eq]
  refine wpList_app _ (noGd_spec gP4a) _ _ ?_
  refine lstM gP4a (ep4 x hl) hs3 fun a4 w4 hs4 => ⟨rfl, ?_⟩
  have vl : a4.eval (.tmp 22) = .int .i64 ((x.D.len : Nat) : Int) := by
    rw [intM (pq4d x) hs4, toZ_nat (by rw [ofNat_toNat (by omega)]; omega), ofNat_toNat (by omega)]
  have hk : Kept (pq4 x) (pq4 x).next (enM0 x) (hbM0 x) := by
    rw [pq4c]
    exact kept_ofM (pq4e x) (pq4f x) (enM0_n x) (hbM0_n x) (by rw [pq4b]; rfl)
  refine step_make (P := Try.prog) flatB hs4 oMkc oMka oMkb (by rw [pq4a]; omega) vl vl hk inf5 (.int .u8 0) 0#8 t57 i5a i5b i5c z5 (by rw [i5d]; omega) (by have : maxLen = 2 ^ 63 - 1 := rfl; omega) ?_
  intro D1 a5 w5 d1 d2 d3 d4 hs5
  rw [pq4a, pq4b, pq4c] at hs5
  refine lstM gP4b (ep5 x D1) hs5 fun a6 w6 hs6 => ?_
  show (Code.seq (.region 5 P5.toArray false) _).wp Try.prog _ a6 w6
  refine wp_seq (list_region (by simpa using gP5) ?_)
  rw [List.toList_toArray, P5_eq]
  refine wpList_app _ (noGd_spec gP5a) _ _ ?_
  refine lstM gP5a (ep6 x D1) hs6 fun a7 w7 hs7 => ⟨rfl, ?_⟩
  have hpost : D1.post = [] := List.eq_nil_of_length_eq_zero (by rw [d1.post, d2, d4]; simp)
  refine step_copy (P := Try.prog) flatB (by kernel_rfl) hs7 oCpc oCpa oCpb (by rw [pq6a]; omega) t57 i5e (D := x.D) (D' := D1) (n := 0) (n' := 1) (pq6d x D1) (pq6c x D1) (pq6e x D1) (pq6f x D1) (by omega) d2 d1.pre hpost d1.fz hl (oneB _ _) fun a8 w8 hs8 => ?_
  have hs9 : SRel (E1 b) w (stM1 x (wE D1 (elB x.D))) a8 w8 := norm_relM (kept_ofM (pq6g x D1 (elB x.D)) (pq6h x D1 (elB x.D)) (enM1_n x _) (hbM1_n x _) (by show Nat.ble (pq6 x D1).lo 2 = true; rw [pq6b]; rfl)) (pq6a x D1) (pq6b x D1) hs8
  show (Code.seq (.region 6 P6.toArray false) _).wp Try.prog _ a8 w8
  refine wp_seq (list_region (by simpa using gP6) ?_)
  rw [List.toList_toArray, P6_eq]
  refine wpList_app _ (noGd_spec gP6a) _ _ ?_
  refine lstM gP6a (ep7 x (wE D1 (elB x.D))) hs9 fun a9 w9 hsa => ⟨rfl, ?_⟩
  have so := offI x hx
  have ss := sizeI x hx
  have su := sumI x hx
  refine step_slice3 (P := Try.prog) hsa oSlc oSla oSlb (by rw [pq7a]; omega) t57e t57s (n := 1) (p := [.win D1.pre.length]) (len := .int .i64 fun _ => BitVec.ofNat 64 D1.len) (cap := D1.cap) (pq7b x (wE D1 (elB x.D))) (k := .i64) (lo := x.off) (hi := x.off + x.size) (pq7c x _) (pq7d x _) (pq7e x _)
    (by rw [so]; omega) (by rw [so, su.2]; omega) (by rw [su.2, d4]; omega) (q := [.win x.off.toNat]) (len' := .int .i64 fun _ => x.size) (cap' := x.size.toNat) (by rw [so]; show x.off.toNat + 0 = D1.pre.length + 0 + _; rw [d1.pre]; simp) (by show (toZ .i64 x.size).toNat = _; rw [ss, so, su.2]; omega) (by rw [so, su.2]; omega) (fun E hE => hE) fun aa wa hsb => ?_
  refine lstM gP6b (ep8 x (wE D1 (elB x.D))) hsb fun ab wb hsc => ?_
  show (Code.seq (.seq (.region 7 P7.toArray false) (.block 0 (.loop rndP))) _).wp Try.prog _ ab wb
  refine wp_seq (wp_seq (regM (ep9 x (wE D1 (elB x.D)) (by rw [ss]; omega)) hsc fun ac wc hsd => ?_))
  have hse := norm_relM (kept_ofM (pq9c x (wE D1 (elB x.D))) (pq9d x (wE D1 (elB x.D))) (enL_n x _ _) (hbM1_n x _) (by rw [pq9b]; rfl)) (pq9a x (wE D1 (elB x.D))) (pq9b x (wE D1 (elB x.D))) hsd
  have d1' : (wE D1 (elB x.D)).Fix 5 := ⟨d1.le, d1.pre, d1.fz, d1.ty, d1.post, d1.max⟩
  refine wp_block (loopP x hx d1' d2 (putTo0 x).symm (fun ad wd hsf => ?_) hse)
  show (Code.seq (.region 12 P12.toArray false) .ret).wp Try.prog _ ad wd
  refine wp_seq (regM (el12 x _ _) hsf fun ae we hsg => ?_)
  refine wp_ret ?_
  exact retP x hb hl (wE (wE D1 (elB x.D)) (putTo x x.size.toNat)) ⟨d1.le, d1.pre, d1.fz, d1.ty, d1.post, d1.max⟩ d2 d4 rfl (l12 x _ _) (l12a x _ _) (l12b x _ _) (l12c x _ _) (l12d x _ _) hsg
theorem step_nilM {Es : Env} {ws : World} {st : St} {a : Act} {w : World} (hs : SRel Es ws st a w) {o : Oper} {rest : List Oper} {Q : Exit → Act → World → Prop} (hgd : o.guard = none) (ho : o.op = .assign (.const (.slice none 0 0))) {dst : Nat} (hd : o.dst = some dst) (hdst : dst < st.nt)
    (hK : ∀ a' w', SRel Es ws (st.setT dst (.vsl none 0)) a' w' → wpList Try.prog #[] Q rest a' w') : wpList Try.prog #[] Q (o :: rest) a w := by
  refine wpList_plain hgd fun K hKK => ?_
  unfold Oper.wp execOp
  simp only [ho]
  refine hKK _ _ (hK _ _ ?_)
  rw [hd]
  exact tmp_set hs hdst _ _ (fun E _ => ⟨trivial, rfl⟩)
theorem retPb (x : PI) {b : Nat} {w : World} (hb : w.heap[b]? = some (.cells (cells E0 [] x.D.blk.v).toArray x.D.T x.D.fz)) (st : St) (f8 : st.look 8 = .vsl none 0) (f9 : st.look 9 = eI (inE x)) (g0 : st.hp 0 = some x.D.blk)
    {ae : Act} {we : World} (hsg : SRel (E1 b) w st ae we) : bodyPost Try.prog Try.f26 (fun e w' => e = .returned (.tuple #[.slice none 0 0, .int .i64 (toZ .i64 (inE x))]) ∧ RowKit.Below w.heap.size w w') .ret ae we := by
  obtain ⟨E, q1, q2, q3, q4, q5, q6, q7, q8, q9, q10⟩ := hsg
  obtain ⟨b0, s1, s2, s3⟩ := q4 0 _ g0
  have hb0 : E 0 = some b := q8.sub 0 b rfl
  obtain rfl : b0 = b := by rw [s1] at hb0; exact Option.some.inj hb0
  have v8 := q1 8
  have v9 := q1 9
  rw [f8] at v8
  rw [f9] at v9
  have e8 : ae.tmps.getD 8 undef = .slice none 0 0 := v8.2.symm
  have e9 : ae.tmps.getD 9 undef = .int .i64 (toZ .i64 (inE x)) := v9.2.symm
  refine bodyPost_ret (results_two (t := 8) (u := 9) resP _ _ _) q3 ⟨by rw [e8, e9], ⟨q8.os, q8.tape, q8.output, q8.size, fun k hk => ?_⟩⟩
  by_cases hkb : k = b0
  · subst hkb
    rw [s3, (blk_cells (flatB.good _) E).1, hb]
    rfl
  · refine q8.keep k hk (fun n hn => hkb ?_)
    unfold E1 at hn
    split at hn
    · simpa using hn.symm
    · cases hn
theorem pqSc (x : PI) : (pqS x).hp 0 = some x.D.blk := by kernel_rfl
theorem callsPutNo (x : PI) (hl : x.D.len < 2 ^ 63) (hx : inE x ≠ 0#64) {b : Nat} {w : World} (hb : w.heap[b]? = some (.cells (cells E0 [] x.D.blk.v).toArray x.D.T x.D.fz)) :
    Calls Try.prog 26 ((argP x).map (val (E1 b))).toArray w (fun e w' => e = .returned (.tuple #[.slice none 0 0, .int .i64 (toZ .i64 (inE x))]) ∧ RowKit.Below w.heap.size w w') := by
  refine calls_of_wp Try.func26 body26 ?_
  have hs0 := entP x hl hb
  refine wp_seq (regM (ep1 x) hs0 fun a1 w1 hs1 => ?_)
  show (Code.seq (.seq (.region 1 P1.toArray false) _) _).wp Try.prog _ a1 w1
  refine wp_seq (wp_seq (regM (ep2 x hl) hs1 fun a2 w2 hs2 => ?_))
  show (Code.seq (.region 2 P2.toArray false) _).wp Try.prog _ a2 w2
  refine wp_seq (regM (ep3 x) hs2 fun a3 w3 hs3 => ?_)
  have hc := boolM (pq3g x) hs3
  have hne : (inE x != 0#64) = true := by simpa using hx
  rw [hne] at hc
  refine wp_cond_true hc ?_
  refine wp_seq (list_region (by simpa using gP3) ?_)
  rw [List.toList_toArray, P3_eq]
  refine wpList_app _ (noGd_spec gP3a) _ _ ?_
  refine lstM gP3a (epR x) hs3 fun a4 w4 hs4 => ⟨rfl, ?_⟩
  refine step_nilM hs4 oNc oNa oNb (by rw [pqRn]; omega) fun a5 w5 hs5 => ?_
  refine lstM gP3b (epS x) hs5 fun a6 w6 hs6 => ?_
  refine wp_ret ?_
  exact retPb x hb (pqS x) (pqSa x) (pqSb x) (pqSc x) hs6
end Go.Rf

/- Memory: Get by its contract over any bytes. -/
namespace Go.Rf
open Go.Proofs

theorem goalGD (D : SlD sB) (s : GtS) (h : s.inv D.len) : LoopGoal Try.prog (loopAt Try.prog 24 pGt) (lpGt (D.at 0) 0 D.blk) (GtS.T (elB D)) s 1 35 1 := by
  refine lp_rule (cx := cxM) rma9 hIM (Λ := fun _ => none) (p := []) (lpGt (D.at 0) 0 D.blk) (GtS.inv D.len) GtS.mu (GtS.step (elB D)) (GtS.T (elB D)) 1 35 1 (fun _ => ⟨rfl, rfl⟩) ?_ ?_ s h
  · intro s r hh hi
    refine fl_ok (g := s.go) (L := [0 ≤ toZ .i64 (s.off + s.j) ∧ toZ .i64 (s.off + s.j) < toZ .i64 (BitVec.ofNat 64 D.len), D.pre.length = D.pre.length, (toZ .i64 (s.off + s.j)).toNat < D.len]) (by kernel_rfl) (fun hg p hp => ?_)
    have h1 := GtS.at_nat D.len hi hg
    have h2 := hi.big
    have e1 : toZ .i64 (s.off + s.j) = (s.off + s.j).toNat := toZ_nat (by omega)
    have e2 : toZ .i64 (BitVec.ofNat 64 D.len) = D.len := by rw [toZ_nat (by rw [ofNat_toNat (by omega)]; omega), ofNat_toNat (by omega)]
    simp only [List.mem_cons, List.not_mem_nil, or_false] at hp
    rcases hp with rfl | rfl | rfl
    · rw [e1, e2]; omega
    · trivial
    · rw [e1]; omega
  · exact GtS.good (elB D) D.len
structure GI where
  D : SlD sB
  off : W
  size : W
def GI.pi (x : GI) : PI := ⟨x.D, x.off, x.size, 0#64⟩
def argG (x : GI) : List AV := [x.D.at 0, eI x.off, eI x.size]
noncomputable def G0 : List Oper := opsM 24 [0]
noncomputable def G1 : List Oper := opsM 24 [1, 0, 0]
noncomputable def G2 : List Oper := opsM 24 [1, 0, 1, 0]
noncomputable def G3 : List Oper := opsM 24 [1, 0, 1, 1, 2, 0]
noncomputable def G4 : List Oper := opsM 24 [1, 1, 0]
noncomputable def G5 : List Oper := opsM 24 [1, 1, 1, 0, 0]
noncomputable def G9 : List Oper := opsM 24 [1, 1, 1, 1, 0]
noncomputable def GL : Code := .block 0 (.loop (loopAt Try.prog 24 pGt))
theorem body24 : Try.f24.body = some (.seq (.region 0 G0.toArray false) (.seq (.seq (.region 1 G1.toArray false) (.seq (.region 2 G2.toArray false) (.cond (.tmp 16) (.seq (.region 3 G3.toArray false) .ret) .skip)))
  (.seq (.region 4 G4.toArray false) (.seq (.seq (.region 5 G5.toArray false) GL) (.seq (.region 9 G9.toArray false) .ret))))) := by kernel_rfl
def getS (x : GI) : GtS := ⟨x.off, 0#64, x.size - 1#64⟩
def getN (x : GI) : W := GtS.rn (elB x.D) (getS x)
section
variable (x : GI)
noncomputable def gq0 : St := St.enter (argG x) (hpB x.D.blk) 1 35
noncomputable def gq1 : St := outM (evalList cxM G0 (gq0 x))
noncomputable def gq2 : St := outM (evalList cxM G1 (gq1 x))
noncomputable def gq3 : St := outM (evalList cxM G2 (gq2 x))
noncomputable def gqR : St := outM (evalList cxM G3 (gq3 x))
noncomputable def gq4 : St := outM (evalList cxM G4 (gq3 x))
noncomputable def gq5 : St := outM (evalList cxM G5 (gq4 x))
noncomputable def hkG : Hook := fun p => if p == [4] then some ((lpGt (x.D.at 0) 0 x.D.blk).hk (GtS.T (elB x.D))) else none
noncomputable def gq6 : St := outK (evalCode cxM (hkG x) GL [] (gq5 x))
noncomputable def gq9 : St := outM (evalList cxM G9 (gq6 x))
theorem eg1 : ∃ ob, evalList cxM G0 (gq0 x) = some (gq1 x, ob) ∧ ob.holds := fl_two (L := []) (by kernel_rfl) (by kernel_rfl) (by simp)
theorem eg2 (h : x.D.len < 2 ^ 63) : ∃ ob, evalList cxM G1 (gq1 x) = some (gq2 x, ob) ∧ ob.holds := fl_two (L := [0 ≤ toZ .i64 (BitVec.ofNat 64 x.D.len)]) (by kernel_rfl) (by kernel_rfl) (len_ob h)
theorem eg3 : ∃ ob, evalList cxM G2 (gq2 x) = some (gq3 x, ob) ∧ ob.holds := fl_two (L := []) (by kernel_rfl) (by kernel_rfl) (by simp)
theorem gq3g : (gq3 x).look 16 = .bool fun _ => inE x.pi != 0#64 := by kernel_rfl
theorem egR : ∃ ob, evalList cxM G3 (gq3 x) = some (gqR x, ob) ∧ ob.holds := fl_two (L := []) (by kernel_rfl) (by kernel_rfl) (by simp)
theorem gqRa : (gqR x).look 6 = .lit .u64 0 := by kernel_rfl
theorem gqRb : (gqR x).look 7 = eI (inE x.pi) := by kernel_rfl
theorem gqRc : (gqR x).hp 0 = some x.D.blk := by kernel_rfl
theorem eg4 : ∃ ob, evalList cxM G4 (gq3 x) = some (gq4 x, ob) ∧ ob.holds := fl_two (L := []) (by kernel_rfl) (by kernel_rfl) (by simp)
theorem eg5 : ∃ ob, evalList cxM G5 (gq4 x) = some (gq5 x, ob) ∧ ob.holds := fl_two (L := []) (by kernel_rfl) (by kernel_rfl) (by simp)
theorem eg6 (h : (getS x).inv x.D.len) : ∃ ob, evalCode cxM (hkG x) GL [] (gq5 x) = some (.norm (gq6 x), ob) ∧ ob.holds :=
  fl_two (L := [LoopGoal Try.prog (loopAt Try.prog 24 pGt) (lpGt (x.D.at 0) 0 x.D.blk) (GtS.T (elB x.D)) (getS x) 1 35 1]) (by kernel_rfl) (by kernel_rfl) (fun p hp => by
    simp only [List.mem_singleton] at hp
    subst hp
    exact goalGD x.D _ h)
theorem eg9 : ∃ ob, evalList cxM G9 (gq6 x) = some (gq9 x, ob) ∧ ob.holds := fl_two (L := []) (by kernel_rfl) (by kernel_rfl) (by simp)
theorem gq9a : (gq9 x).look 6 = eW (getN x) := by kernel_rfl
theorem gq9b : (gq9 x).look 7 = .lit .i64 0 := by kernel_rfl
theorem gq9c : (gq9 x).hp 0 = some x.D.blk := by kernel_rfl
end
theorem resG : Try.f24.results = #[.tmp 6, .tmp 7] := by kernel_rfl
/-- At the return: two numbers, and nothing written. -/
theorem retG (x : GI) {b : Nat} {w : World} (hb : w.heap[b]? = some (.cells (cells E0 [] x.D.blk.v).toArray x.D.T x.D.fz)) (st : St) {u v : AV} (f6 : st.look 6 = u) (f7 : st.look 7 = v) (hu : pf u = true) (hv : pf v = true) (g0 : st.hp 0 = some x.D.blk)
    {ae : Act} {we : World} (hsg : SRel (E1 b) w st ae we) : bodyPost Try.prog Try.f24 (fun e w' => e = .returned (.tuple #[val E0 u, val E0 v]) ∧ RowKit.Below w.heap.size w w') .ret ae we := by
  obtain ⟨E, q1, q2, q3, q4, q5, q6, q7, q8, q9, q10⟩ := hsg
  obtain ⟨b0, s1, s2, s3⟩ := q4 0 _ g0
  have hb0 : E 0 = some b := q8.sub 0 b rfl
  obtain rfl : b0 = b := by rw [s1] at hb0; exact Option.some.inj hb0
  have tr : ∀ {t : Nat} {u : AV}, st.look t = u → pf u = true → ae.tmps.getD t undef = val E0 u := by
    intro t u h hp
    have q := q1 t
    rw [h] at q
    have hs : TRel E u (val E u) := TRel_of (ok_of_pf E u hp)
    have e : val E u = ae.tmps.getD t undef := by
      cases u <;> first
        | exact q.2
        | simp [pf] at hp
    rw [← e]; exact val_pf hp E E0
  refine bodyPost_ret (results_two (t := 6) (u := 7) resG _ _ _) q3 ⟨by rw [tr f6 hu, tr f7 hv], ⟨q8.os, q8.tape, q8.output, q8.size, fun k hk => ?_⟩⟩
  by_cases hkb : k = b0
  · subst hkb
    rw [s3, (blk_cells (flatB.good _) E).1, hb]
    rfl
  · refine q8.keep k hk (fun n hn => hkb ?_)
    unfold E1 at hn
    split at hn
    · simpa using hn.symm
    · cases hn
theorem entG (x : GI) (hl : x.D.len < 2 ^ 63) {b : Nat} {w : World} (hb : w.heap[b]? = some (.cells (cells E0 [] x.D.blk.v).toArray x.D.T x.D.fz)) : SRel (E1 b) w (gq0 x) (enterActB (E1 b) Try.f24 (argG x)) w := by
  have hnt : Try.f24.ntmps = 35 := by kernel_rfl
  have h := enterB1 (fn := Try.f24) (args := argG x) (B := x.D.blk) (b := b) (w := w) (by rw [hnt]; show 3 ≤ 35; omega) (fun v hv => by
    simp only [argG, List.mem_cons, List.not_mem_nil, or_false] at hv
    rcases hv with rfl | rfl | rfl
    · exact (at_val (D := { x.D with b := b }) (n := 0) (E := E1 b) rfl hl).2
    · trivial
    · trivial) (blk_cells (flatB.good _) (E1 b)).2 (by rw [(blk_cells (flatB.good _) (E1 b)).1]; exact hb)
  rw [hnt] at h
  exact h
/-- What Get gives. -/
def getA (x : GI) : Value := .tuple #[.int .u64 (toZ .u64 (bif inE x.pi != 0#64 then 0#64 else getN x)), .int .i64 (toZ .i64 (inE x.pi))]
theorem inE_bad {x : PI} (hl : x.D.len < 2 ^ 62) (h : inE x = 0#64) : (x.size.toNat = 1 ∨ x.size.toNat = 2 ∨ x.size.toNat = 4 ∨ x.size.toNat = 8) ∧ x.off.toNat + x.size.toNat ≤ x.D.len := by
  unfold inE at h
  cases hs : sizeB x.size with
  | false => rw [hs] at h; simp at h
  | true =>
    rw [hs] at h
    simp only [Bool.not_true, cond_false] at h
    have hsz : x.size.toNat = 1 ∨ x.size.toNat = 2 ∨ x.size.toNat = 4 ∨ x.size.toNat = 8 := by
      by_cases h1 : x.size = 1#64
      · exact .inl (by rw [h1]; rfl)
      · by_cases h2 : x.size = 2#64
        · exact .inr (.inl (by rw [h2]; rfl))
        · by_cases h4 : x.size = 4#64
          · exact .inr (.inr (.inl (by rw [h4]; rfl)))
          · by_cases h8 : x.size = 8#64
            · exact .inr (.inr (.inr (by rw [h8]; rfl)))
            · exfalso
              have : sizeB x.size = false := by
                unfold sizeB
                simp [h1, h2, h4, h8]
              rw [this] at hs; cases hs
    refine ⟨hsz, ?_⟩
    cases hb : (ltB .i64 x.off 0#64 || ltB .i64 (BitVec.ofNat 64 x.D.len - x.size) x.off) with
    | true => rw [hb] at h; simp at h
    | false =>
      simp only [Bool.or_eq_false_iff] at hb
      obtain ⟨b1, b2⟩ := hb
      have hd1 : ¬ x.off.toInt < (0#64 : W).toInt := by
        intro hh
        have : ltB .i64 x.off 0#64 = true := by show x.off.slt 0#64 = true; rw [BitVec.slt]; exact decide_eq_true hh
        rw [b1] at this; cases this
      have hd2 : ¬ (BitVec.ofNat 64 x.D.len - x.size).toInt < x.off.toInt := by
        intro hh
        have : ltB .i64 (BitVec.ofNat 64 x.D.len - x.size) x.off = true := by show (BitVec.ofNat 64 x.D.len - x.size : W).slt x.off = true; rw [BitVec.slt]; exact decide_eq_true hh
        rw [b2] at this; cases this
      have z : (0#64 : W).toInt = 0 := rfl
      have e1 : x.off.toInt = x.off.toNat := nat_of_int (by omega)
      have e2 : (BitVec.ofNat 64 x.D.len - x.size).toInt = (x.D.len : Int) - x.size.toNat := by
        rw [BitVec.toInt_sub, BitVec.toInt_eq_toNat_of_lt (x := BitVec.ofNat 64 x.D.len) (by rw [ofNat_toNat (by omega)]; omega), BitVec.toInt_eq_toNat_of_lt (x := x.size) (by omega), ofNat_toNat (by omega)]
        exact Int.bmod_eq_of_le (by omega) (by omega)
      omega
theorem callsGet (x : GI) (hl : x.D.len < 2 ^ 62) {b : Nat} {w : World} (hb : w.heap[b]? = some (.cells (cells E0 [] x.D.blk.v).toArray x.D.T x.D.fz)) :
    Calls Try.prog 24 ((argG x).map (val (E1 b))).toArray w (fun e w' => e = .returned (getA x) ∧ RowKit.Below w.heap.size w w') := by
  have hl' : x.D.len < 2 ^ 63 := by omega
  refine calls_of_wp Try.func24 body24 ?_
  have hs0 := entG x hl' hb
  refine wp_seq (regM (eg1 x) hs0 fun a1 w1 hs1 => ?_)
  show (Code.seq (.seq (.region 1 G1.toArray false) _) _).wp Try.prog _ a1 w1
  refine wp_seq (wp_seq (regM (eg2 x hl') hs1 fun a2 w2 hs2 => ?_))
  show (Code.seq (.region 2 G2.toArray false) _).wp Try.prog _ a2 w2
  refine wp_seq (regM (eg3 x) hs2 fun a3 w3 hs3 => ?_)
  have hc := boolM (gq3g x) hs3
  by_cases hx : inE x.pi = 0#64
  · have hne : (inE x.pi != 0#64) = false := by rw [hx]; rfl
    rw [hne] at hc
    refine wp_cond_false hc (wp_skip ?_)
    show (Code.seq (.region 4 G4.toArray false) _).wp Try.prog _ a3 w3
    refine wp_seq (regM (eg4 x) hs3 fun a4 w4 hs4 => ?_)
    show (Code.seq (.seq (.region 5 G5.toArray false) GL) _).wp Try.prog _ a4 w4
    refine wp_seq (wp_seq (regM (eg5 x) hs4 fun a5 w5 hs5 => ?_))
    show GL.wp Try.prog _ a5 w5
    obtain ⟨k1, k2⟩ := inE_bad (x := x.pi) hl hx
    have k1' : x.size.toNat = 1 ∨ x.size.toNat = 2 ∨ x.size.toNat = 4 ∨ x.size.toNat = 8 := k1
    have k2' : x.off.toNat + x.size.toNat ≤ x.D.len := k2
    have hj : (x.size - 1#64).toNat = x.size.toNat - 1 := by
      rw [BitVec.toNat_sub]
      have : (1#64 : W).toNat = 1 := rfl
      rw [this]; omega
    have hinv : (getS x).inv x.D.len := by
      have e1 : x.off.toInt = x.off.toNat := BitVec.toInt_eq_toNat_of_lt (by omega)
      have e2 : (x.size - 1#64).toInt = x.size.toNat - 1 := by rw [BitVec.toInt_eq_toNat_of_lt (by rw [hj]; omega), hj]; omega
      exact ⟨by show 0 ≤ x.off.toInt; omega, by show -1 ≤ (x.size - 1#64).toInt; omega, by show (x.size - 1#64).toInt ≤ 7; omega, by show x.off.toInt + (x.size - 1#64).toInt < x.D.len; omega, hl⟩
    refine codeM (eg6 x hinv) hs5 fun a6 w6 hs6 => ?_
    show (Code.seq (.region 9 G9.toArray false) .ret).wp Try.prog _ a6 w6
    refine wp_seq (regM (eg9 x) hs6 fun a7 w7 hs7 => ?_)
    refine wp_ret ?_
    have := retG x hb (gq9 x) (gq9a x) (gq9b x) rfl rfl (gq9c x) hs7
    have ea : getA x = .tuple #[val E0 (eW (getN x)), val E0 (.lit .i64 0)] := by
      unfold getA
      rw [hne, hx]; rfl
    rw [ea]; exact this
  · have hne : (inE x.pi != 0#64) = true := by simpa using hx
    rw [hne] at hc
    refine wp_cond_true hc ?_
    refine wp_seq (regM (egR x) hs3 fun a4 w4 hs4 => ?_)
    refine wp_ret ?_
    have := retG x hb (gqR x) (gqRa x) (gqRb x) rfl rfl (gqRc x) hs4
    have ea : getA x = .tuple #[val E0 (.lit .u64 0), val E0 (eI (inE x.pi))] := by
      unfold getA
      rw [hne]; rfl
    rw [ea]; exact this
end Go.Rf

/- Memory: calls of Get and Put as steps. -/
namespace Go.Rf
open Go.Proofs

theorem below_rel {Es : Env} {ws : World} {st : St} {a : Act} {w w' : World} (hs : SRel Es ws st a w) (hb : RowKit.Below w.heap.size w w') : SRel Es ws st a w' := by
  obtain ⟨E, h1, h2, h3, h4, h5, h6, h7, h8, h9, h10⟩ := hs
  exact ⟨E, h1, h2, h3, HRel.of_keep h4 h6 (Sub.refl E) (fun n b hn => hb.block b (h6 n b hn)), h5, fun n b hn => Nat.lt_of_lt_of_le (h6 n b hn) hb.size, h7, h8.trans (Tr.of_below hb), h9, h10⟩
def getV (x : GI) : W := bif inE x.pi != 0#64 then 0#64 else getN x
def getT (x : GI) : AV := .tup (.cons (eW (getV x)) (.cons (eI (inE x.pi)) .nil))
theorem getT_rel (x : GI) (E : Env) : TRel E (getT x) (getA x) := ⟨⟨trivial, trivial, trivial⟩, rfl⟩
theorem at_two {D : SlD sB} {n : Nat} {E : Env} {b : Nat} (hE : E n = some b) (hl : D.len < 2 ^ 63) : val E (D.at n) = val (E1 b) (D.at 0) := by
  have e1 := (at_val (D := { D with b := b }) (n := n) (E := E) hE hl).1
  have e2 := (at_val (D := { D with b := b }) (n := 0) (E := E1 b) rfl hl).1
  exact e1.trans e2.symm
theorem step_get {Es : Env} {ws : World} {st : St} {a : Act} {w : World} (hs : SRel Es ws st a w) {D : SlD sB} {n : Nat} (hB : st.hp n = some D.blk) (hl : D.len < 2 ^ 62) {off size : W} {o : Oper} {rest : List Oper} {Q : Exit → Act → World → Prop}
    (hgd : o.guard = none) (hev : eff Try.prog (opd st.look) o.op = some (.call 24 [D.at n, .int .i64 fun _ => off, .int .i64 fun _ => size])) {dst : Nat} (hd : o.dst = some dst) (hdst : dst < st.nt)
    (hK : ∀ a' w', SRel Es ws (st.setT dst (getT ⟨D, off, size⟩)) a' w' → wpList Try.prog #[] Q rest a' w') : wpList Try.prog #[] Q (o :: rest) a w := by
  refine wpList_plain hgd fun K hKK => ?_
  obtain ⟨E, h1, h2, h3, h4, h5, h6, h7, h8, h9, h10⟩ := id hs
  obtain ⟨b, b1, b2, b3⟩ := h4 n D.blk hB
  have hrow : w.heap[b]? = some (.cells (cells E0 [] D.blk.v).toArray D.T D.fz) := by
    rw [b3, (blk_cells (flatB.good _) E).1]; rfl
  obtain ⟨_, hr⟩ := eff_run hev E a (fun x _ => opd_st h1 x)
  unfold Oper.wp
  rw [hr w, Oper.upon_enter]
  have hc := callsGet ⟨D, off, size⟩ hl hrow
  have ea : ([D.at n, .int .i64 fun _ => off, .int .i64 fun _ => size].map (val E)) = (argG ⟨D, off, size⟩).map (val (E1 b)) := by
    simp only [argG, List.map_cons, List.map_nil, at_two b1 (show D.len < 2 ^ 63 by omega)]
    rfl
  rw [ea]
  refine hc.mono ?_
  rintro e w' ⟨rfl, hbel⟩
  refine hKK _ _ (hK _ w' ?_)
  rw [hd]
  exact tmp_set (below_rel hs hbel) hdst _ _ (fun E' _ => getT_rel _ E')
/-- What Put gives. -/
structure PutD (x : PI) (D2 : SlD sB) : Prop where
  fix : D2.Fix 5
  len : D2.len = x.D.len
  cap : D2.cap = x.D.len
  els : D2.els = putTo x x.size.toNat
def putT (n : Nat) (D2 : SlD sB) : AV := .tup (.cons (D2.at n) (.cons (.lit .i64 0) .nil))
theorem step_put {Es : Env} {ws : World} {st : St} {a : Act} {w : World} (hs : SRel Es ws st a w) {D : SlD sB} {n : Nat} (hB : st.hp n = some D.blk) {off size v : W} (hx : PI.ok ⟨D, off, size, v⟩) {o : Oper} {rest : List Oper} {Q : Exit → Act → World → Prop}
    (hgd : o.guard = none) (hev : eff Try.prog (opd st.look) o.op = some (.call 26 [D.at n, .int .i64 fun _ => off, .int .i64 fun _ => size, .int .u64 fun _ => v])) {dst : Nat} (hd : o.dst = some dst) (hdst : dst < st.nt)
    {ents : List (Nat × AV)} {hbs : List (Nat × Option Blk)} (hk : KeptR st st.next ents hbs)
    (hK : ∀ (D2 : SlD sB) a' w', PutD ⟨D, off, size, v⟩ D2 → SRel Es ws (bkSt (putT st.next D2) D2.blk st.next dst ents hbs st.nt st.lo) a' w' → wpList Try.prog #[] Q rest a' w') : wpList Try.prog #[] Q (o :: rest) a w := by
  have hl : D.len < 2 ^ 62 := by have := hx.few; show D.len < 2 ^ 62; have h : D.len ≤ 140737488355328 := this; omega
  refine step_callB (P := Try.prog) (Δ := SlD sB) hs hgd hev (putT st.next) (fun D2 => D2.blk) (PutD ⟨D, off, size, v⟩) ?_ hd hdst hk hK
  intro E h4 _
  obtain ⟨b, b1, b2, b3⟩ := h4 n D.blk hB
  have hrow : w.heap[b]? = some (.cells (cells E0 [] D.blk.v).toArray D.T D.fz) := by
    rw [b3, (blk_cells (flatB.good _) E).1]; rfl
  have ea : ([D.at n, .int .i64 fun _ => off, .int .i64 fun _ => size, .int .u64 fun _ => v].map (val E)) = (argP ⟨D, off, size, v⟩).map (val (E1 b)) := by
    simp only [argP, List.map_cons, List.map_nil, at_two b1 (show D.len < 2 ^ 63 by omega)]
    rfl
  rw [ea]
  refine (callsPut ⟨D, off, size, v⟩ hx hrow).mono ?_
  rintro e w' ⟨D2, rfl, k1, k2, k3, k4, k5, k6⟩
  have k2' : D2.len = D.len := k2
  refine ⟨D2, _, D2.b, rfl, ⟨k1.fix, k2, k3, k4⟩, fun E' hE' => ?_, fun E' => ?_, k5, k6⟩
  · have e := at_val (D := D2) (n := st.next) (E := E') hE' (by omega)
    refine ⟨⟨e.2, trivial, trivial⟩, ?_⟩
    show Value.tuple #[val E' (D2.at st.next), .int .i64 0] = _
    rw [e.1]
  · refine ⟨(blk_cells (flatB.good _) E').2, ?_⟩
    rw [(blk_cells (flatB.good _) E').1, k1.row]
    rfl
end Go.Rf
