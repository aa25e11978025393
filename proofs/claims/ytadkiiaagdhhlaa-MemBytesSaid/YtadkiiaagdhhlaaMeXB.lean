/- Several texts as one: Me7 Me8 Me9 MeA MeB. -/
import Derived.Test.YtadkiiaagdhhlaaMeXA
import Derived.Test.YtadkiiaagdhhlaaMaE
import Derived.Test.YtadkiiaagdhhlaaMaG
set_option linter.unusedVariables false
set_option linter.unusedSimpArgs false
set_option maxRecDepth 100000

/- Memory: the law MemParts: its code and states. -/
namespace Go.Rf
open Go.Proofs

noncomputable def N0 : List Oper := opsM 9 [0]
noncomputable def N1 : List Oper := opsM 9 [1, 0, 0]
noncomputable def N2 : List Oper := opsM 9 [1, 0, 1, 2, 0]
noncomputable def N3 : List Oper := opsM 9 [1, 1, 0]
noncomputable def N4 : List Oper := opsM 9 [1, 1, 1, 0, 0]
noncomputable def N5 : List Oper := opsM 9 [1, 1, 1, 0, 1, 2, 0]
noncomputable def N6 : List Oper := opsM 9 [1, 1, 1, 1, 0, 0]
noncomputable def N7 : List Oper := opsM 9 [1, 1, 1, 1, 0, 1, 2, 0]
noncomputable def N8 : List Oper := opsM 9 [1, 1, 1, 1, 0, 1, 2, 1, 0]
noncomputable def N9 : List Oper := opsM 9 [1, 1, 1, 1, 0, 1, 2, 1, 1, 0]
noncomputable def N10 : List Oper := opsM 9 [1, 1, 1, 1, 0, 1, 2, 1, 1, 1, 0]
noncomputable def N11 : List Oper := opsM 9 [1, 1, 1, 1, 0, 1, 2, 1, 1, 1, 1, 2, 0]
noncomputable def N12 : List Oper := opsM 9 [1, 1, 1, 1, 1, 0]
noncomputable def N13 : List Oper := opsM 9 [1, 1, 1, 1, 1, 1, 0]
noncomputable def N14 : List Oper := opsM 9 [1, 1, 1, 1, 1, 1, 1, 0, 0]
noncomputable def N15 : List Oper := opsM 9 [1, 1, 1, 1, 1, 1, 1, 0, 1, 2, 0]
noncomputable def N16 : List Oper := opsM 9 [1, 1, 1, 1, 1, 1, 1, 1, 0, 0]
noncomputable def N17 : List Oper := opsM 9 [1, 1, 1, 1, 1, 1, 1, 1, 0, 1, 2, 0]
noncomputable def N18 : Code := codM 9 [1, 1, 1, 1, 1, 1, 1, 1, 1, 0]
noncomputable def retIf (t id : Nat) (l : List Oper) : Code := .cond (.tmp t) (.seq (.region id l.toArray false) .ret) .skip
theorem body9 : Try.f9.body = some (.seq (.region 0 N0.toArray false) (.seq (.seq (.region 1 N1.toArray false) (retIf 19 2 N2)) (.seq (.region 3 N3.toArray false) (.seq (.seq (.region 4 N4.toArray false) (retIf 30 5 N5))
  (.seq (.seq (.region 6 N6.toArray false) (.cond (.tmp 43) (.seq (.region 7 N7.toArray false) (.seq (.region 8 N8.toArray false) (.seq (.region 9 N9.toArray false) (.seq (.region 10 N10.toArray false) (retIf 81 11 N11))))) .skip))
  (.seq (.region 12 N12.toArray false) (.seq (.region 13 N13.toArray false) (.seq (.seq (.region 14 N14.toArray false) (retIf 125 15 N15)) (.seq (.seq (.region 16 N16.toArray false) (retIf 148 17 N17)) (.seq N18 .ret)))))))))) := by kernel_rfl
theorem N3_eq : N3 = N3.take 5 ++ (opM N3 5 :: N3.drop 6) := by kernel_rfl
theorem N8_eq : N8 = N8.take 4 ++ (opM N8 4 :: N8.drop 5) := by kernel_rfl
theorem N9_eq : N9 = N9.take 6 ++ (opM N9 6 :: N9.drop 7) := by kernel_rfl
theorem N12_eq : N12 = N12.take 8 ++ (opM N12 8 :: N12.drop 9) := by kernel_rfl
theorem N13_eq : N13 = N13.take 5 ++ (opM N13 5 :: N13.drop 6) := by kernel_rfl
theorem gN3 : noGd N3 = true ∧ noGd (N3.take 5) = true ∧ noGd (N3.drop 6) = true := ⟨by kernel_rfl, by kernel_rfl, by kernel_rfl⟩
theorem gN8 : noGd N8 = true ∧ noGd (N8.take 4) = true ∧ noGd (N8.drop 5) = true := ⟨by kernel_rfl, by kernel_rfl, by kernel_rfl⟩
theorem gN9 : noGd N9 = true ∧ noGd (N9.take 6) = true ∧ noGd (N9.drop 7) = true := ⟨by kernel_rfl, by kernel_rfl, by kernel_rfl⟩
theorem gN12 : noGd N12 = true ∧ noGd (N12.take 8) = true ∧ noGd (N12.drop 9) = true := ⟨by kernel_rfl, by kernel_rfl, by kernel_rfl⟩
theorem gN13 : noGd N13 = true ∧ noGd (N13.take 5) = true ∧ noGd (N13.drop 6) = true := ⟨by kernel_rfl, by kernel_rfl, by kernel_rfl⟩
end Go.Rf

/- Memory: the law MemParts: its states evaluated. -/
namespace Go.Rf
open Go.Proofs

structure MI where
  D : SlD sB
  x : Act
  o : W
def argM (i : MI) : List AV := [i.D.at 0, eAct i.x, eI i.o]
section
variable (i : MI)
def MI.g0 : GI := ⟨i.D, i.x.o, i.x.s⟩
noncomputable def n0 : St := St.enter (argM i) (hpB i.D.blk) 1 158
noncomputable def n1 : St := outM (evalList cxM N0 (n0 i))
noncomputable def n2 : St := outM (evalList cxM N1 (n1 i))
noncomputable def n3a : St := outM (evalList cxM (N3.take 5) (n2 i))
noncomputable def n3 : St := outM (evalList cxM (N3.drop 6) ((n3a i).setT 26 (getT i.g0)))
noncomputable def n4 : St := outM (evalList cxM N4 (n3 i))
noncomputable def n5 : St := outM (evalList cxM N5 (n4 i))
noncomputable def n6 : St := outM (evalList cxM N6 (n4 i))
noncomputable def n7 : St := outM (evalList cxM N7 (n6 i))
noncomputable def n8a : St := outM (evalList cxM (N8.take 4) (n7 i))
theorem en1 : ∃ ob, evalList cxM N0 (n0 i) = some (n1 i, ob) ∧ ob.holds := fl_two (L := []) (by kernel_rfl) (by kernel_rfl) (by simp)
theorem en2 : ∃ ob, evalList cxM N1 (n1 i) = some (n2 i, ob) ∧ ob.holds := fl_two (L := []) (by kernel_rfl) (by kernel_rfl) (by simp)
theorem n2g : (n2 i).look 19 = .bool fun _ => !true := by kernel_rfl
theorem en3a : ∃ ob, evalList cxM (N3.take 5) (n2 i) = some (n3a i, ob) ∧ ob.holds := fl_two (L := []) (by kernel_rfl) (by kernel_rfl) (by simp)
theorem n3e : eff Try.prog (opd (n3a i).look) (opM N3 5).op = some (.call 24 [i.D.at 0, .int .i64 fun _ => i.x.o, .int .i64 fun _ => i.x.s]) := by kernel_rfl
theorem n3b : (n3a i).hp 0 = some i.D.blk := by kernel_rfl
theorem n3n : (n3a i).nt = 158 := by kernel_rfl
theorem n3d : (opM N3 5).dst = some 26 ∧ (opM N3 5).guard = none := ⟨by kernel_rfl, by kernel_rfl⟩
theorem en3 : ∃ ob, evalList cxM (N3.drop 6) ((n3a i).setT 26 (getT i.g0)) = some (n3 i, ob) ∧ ob.holds := fl_two (L := []) (by kernel_rfl) (by kernel_rfl) (by simp)
theorem en4 : ∃ ob, evalList cxM N4 (n3 i) = some (n4 i, ob) ∧ ob.holds := fl_two (L := []) (by kernel_rfl) (by kernel_rfl) (by simp)
theorem n4g : (n4 i).look 30 = .bool fun _ => inE i.g0.pi != 0#64 := by kernel_rfl
theorem en5 : ∃ ob, evalList cxM N5 (n4 i) = some (n5 i, ob) ∧ ob.holds := fl_two (L := []) (by kernel_rfl) (by kernel_rfl) (by simp)
theorem n5l : (n5 i).look 6 = .bool fun _ => (getV i.g0 == 0#64) && ((inE i.g0.pi == 1#64) || (inE i.g0.pi == 42#64)) := by kernel_rfl
theorem n5h : (n5 i).hp 0 = some i.D.blk := by kernel_rfl
theorem en6 : ∃ ob, evalList cxM N6 (n4 i) = some (n6 i, ob) ∧ ob.holds := fl_two (L := []) (by kernel_rfl) (by kernel_rfl) (by simp)
theorem n6g : (n6 i).look 43 = .bool fun _ => ltB .i64 1#64 i.x.s := by kernel_rfl
theorem en7 : ∃ ob, evalList cxM N7 (n6 i) = some (n7 i, ob) ∧ ob.holds := fl_two (L := []) (by kernel_rfl) (by kernel_rfl) (by simp)
theorem en8a : ∃ ob, evalList cxM (N8.take 4) (n7 i) = some (n8a i, ob) ∧ ob.holds := fl_two (L := []) (by kernel_rfl) (by kernel_rfl) (by simp)
def MI.half : W := quoB .i64 i.x.s 2#64
def MI.g1 : GI := ⟨i.D, i.x.o, i.half⟩
def MI.g2 : GI := ⟨i.D, i.x.o + i.half, i.half⟩
theorem n8e : eff Try.prog (opd (n8a i).look) (opM N8 4).op = some (.call 24 [i.D.at 0, .int .i64 fun _ => i.x.o, .int .i64 fun _ => i.half]) := by kernel_rfl
theorem n8b : (n8a i).hp 0 = some i.D.blk := by kernel_rfl
theorem n8n : (n8a i).nt = 158 := by kernel_rfl
theorem n8d : (opM N8 4).dst = some 52 ∧ (opM N8 4).guard = none := ⟨by kernel_rfl, by kernel_rfl⟩
noncomputable def n8 : St := outM (evalList cxM (N8.drop 5) ((n8a i).setT 52 (getT i.g1)))
theorem en8 : ∃ ob, evalList cxM (N8.drop 5) ((n8a i).setT 52 (getT i.g1)) = some (n8 i, ob) ∧ ob.holds := fl_two (L := []) (by kernel_rfl) (by kernel_rfl) (by simp)
noncomputable def n9a : St := outM (evalList cxM (N9.take 6) (n8 i))
theorem en9a : ∃ ob, evalList cxM (N9.take 6) (n8 i) = some (n9a i, ob) ∧ ob.holds := fl_two (L := []) (by kernel_rfl) (by kernel_rfl) (by simp)
theorem n9e : eff Try.prog (opd (n9a i).look) (opM N9 6).op = some (.call 24 [i.D.at 0, .int .i64 fun _ => i.x.o + i.half, .int .i64 fun _ => i.half]) := by kernel_rfl
theorem n9b : (n9a i).hp 0 = some i.D.blk := by kernel_rfl
theorem n9n : (n9a i).nt = 158 := by kernel_rfl
theorem n9d : (opM N9 6).dst = some 62 ∧ (opM N9 6).guard = none := ⟨by kernel_rfl, by kernel_rfl⟩
noncomputable def n9 : St := outM (evalList cxM (N9.drop 7) ((n9a i).setT 62 (getT i.g2)))
theorem en9 : ∃ ob, evalList cxM (N9.drop 7) ((n9a i).setT 62 (getT i.g2)) = some (n9 i, ob) ∧ ob.holds := fl_two (L := []) (by kernel_rfl) (by kernel_rfl) (by simp)
noncomputable def n10 : St := outM (evalList cxM N10 (n9 i))
theorem en10 : ∃ ob, evalList cxM N10 (n9 i) = some (n10 i, ob) ∧ ob.holds := fl_two (L := []) (by kernel_rfl) (by kernel_rfl) (by simp)
def bad10 : Bool := ((inE i.g1.pi != 0#64) || (inE i.g2.pi != 0#64)) || (getV i.g0 != (getV i.g1 ||| (getV i.g2 <<< amt .u64 (convB .i64 .u64 (8#64 * i.half)))))
theorem n10g : (n10 i).look 81 = .bool fun _ => bad10 i := by kernel_rfl
/-! Both ways come to one. -/
def enQ : List (Nat × AV) := [(0, i.D.at 0), (2, eI i.o), (4, .ptr 1 [])]
def hbQ : List (Nat × Option Blk) := [(0, some i.D.blk), (1, some ⟨45, eAct i.x⟩)]
def stQ : St := ⟨enQ i, fun _ => .un, hbQ i, fun _ => none, 2, 158, 1⟩
theorem enQ_n : ((enQ i).all fun z => nltB 2 z.2) = true := by kernel_rfl
theorem hbQ_n : ((hbQ i).all fun z => Nat.blt z.1 2 && match z.2 with | some B => nltB 2 B.v | none => true) = true := by kernel_rfl
theorem n6a : (n6 i).nt = 158 ∧ (n6 i).lo = 1 := ⟨by kernel_rfl, by kernel_rfl⟩
theorem n6c : ((enQ i).map fun z => unlitM ((n6 i).look z.1)) = (enQ i).map (·.2) := by kernel_rfl
theorem n6d : ((hbQ i).map fun z => (n6 i).hp z.1) = (hbQ i).map (·.2) := by kernel_rfl
theorem n10a : (n10 i).nt = 158 ∧ (n10 i).lo = 1 := ⟨by kernel_rfl, by kernel_rfl⟩
theorem n10c : ((enQ i).map fun z => unlitM ((n10 i).look z.1)) = (enQ i).map (·.2) := by kernel_rfl
theorem n10d : ((hbQ i).map fun z => (n10 i).hp z.1) = (hbQ i).map (·.2) := by kernel_rfl
noncomputable def n12a : St := outM (evalList cxM (N12.take 8) (stQ i))
theorem en12a : ∃ ob, evalList cxM (N12.take 8) (stQ i) = some (n12a i, ob) ∧ ob.holds := fl_two (L := []) (by kernel_rfl) (by kernel_rfl) (by simp)
theorem n12e : eff Try.prog (opd (n12a i).look) (opM N12 8).op = some (.call 26 [i.D.at 0, .int .i64 fun _ => i.x.o, .int .i64 fun _ => i.x.s, .int .u64 fun _ => i.x.v.n]) := by kernel_rfl
theorem n12b : (n12a i).hp 0 = some i.D.blk := by kernel_rfl
theorem n12n : (n12a i).nt = 158 ∧ (n12a i).lo = 1 ∧ (n12a i).next = 2 := ⟨by kernel_rfl, by kernel_rfl, by kernel_rfl⟩
theorem n12c : ((enQ i).map fun z => unlitM ((n12a i).look z.1)) = (enQ i).map (·.2) := by kernel_rfl
theorem n12f : ((hbQ i).map fun z => (n12a i).hp z.1) = (hbQ i).map (·.2) := by kernel_rfl
theorem n12d : (opM N12 8).dst = some 91 ∧ (opM N12 8).guard = none := ⟨by kernel_rfl, by kernel_rfl⟩
variable (D2 : SlD sB)
noncomputable def n12 : St := outM (evalList cxM (N12.drop 9) (bkSt (putT 2 D2) D2.blk 2 91 (enQ i) (hbQ i) 158 1))
theorem en12 : ∃ ob, evalList cxM (N12.drop 9) (bkSt (putT 2 D2) D2.blk 2 91 (enQ i) (hbQ i) 158 1) = some (n12 i D2, ob) ∧ ob.holds := fl_two (L := []) (by kernel_rfl) (by kernel_rfl) (by simp)
noncomputable def n13a : St := outM (evalList cxM (N13.take 5) (n12 i D2))
theorem en13a : ∃ ob, evalList cxM (N13.take 5) (n12 i D2) = some (n13a i D2, ob) ∧ ob.holds := fl_two (L := []) (by kernel_rfl) (by kernel_rfl) (by simp)
theorem n13e : eff Try.prog (opd (n13a i D2).look) (opM N13 5).op = some (.call 24 [D2.at 2, .int .i64 fun _ => i.x.o, .int .i64 fun _ => i.x.s]) := by kernel_rfl
theorem n13b : (n13a i D2).hp 2 = some D2.blk := by kernel_rfl
theorem n13n : (n13a i D2).nt = 158 := by kernel_rfl
theorem n13d : (opM N13 5).dst = some 100 ∧ (opM N13 5).guard = none := ⟨by kernel_rfl, by kernel_rfl⟩
def MI.g3 : GI := ⟨D2, i.x.o, i.x.s⟩
noncomputable def n13 : St := outM (evalList cxM (N13.drop 6) ((n13a i D2).setT 100 (getT (i.g3 D2))))
theorem en13 : ∃ ob, evalList cxM (N13.drop 6) ((n13a i D2).setT 100 (getT (i.g3 D2))) = some (n13 i D2, ob) ∧ ob.holds := fl_two (L := []) (by kernel_rfl) (by kernel_rfl) (by simp)
noncomputable def n14 : St := outM (evalList cxM N14 (n13 i D2))
noncomputable def n16 : St := outM (evalList cxM N16 (n14 i D2))
noncomputable def n17 : St := outM (evalList cxM N17 (n16 i D2))
noncomputable def n18 : St := outK (evalCode cxM (fun _ => none) N18 [] (n16 i D2))
theorem two_ob {n m : Nat} (hn : n < 2 ^ 63) (hm : m < 2 ^ 63) : ∀ p ∈ [0 ≤ toZ .i64 (BitVec.ofNat 64 n), 0 ≤ toZ .i64 (BitVec.ofNat 64 m)], p := fun p hp => by
  simp only [List.mem_cons, List.not_mem_nil, or_false] at hp
  rcases hp with rfl | rfl
  · exact len_ob hn _ (List.mem_singleton.2 rfl)
  · exact len_ob hm _ (List.mem_singleton.2 rfl)
theorem en14 (h : i.D.len < 2 ^ 63) (h2 : D2.len < 2 ^ 63) : ∃ ob, evalList cxM N14 (n13 i D2) = some (n14 i D2, ob) ∧ ob.holds := fl_two (L := [0 ≤ toZ .i64 (BitVec.ofNat 64 D2.len), 0 ≤ toZ .i64 (BitVec.ofNat 64 i.D.len)]) (by kernel_rfl) (by kernel_rfl) (two_ob h2 h)
def bad14 : Bool := ((inE (i.g3 D2).pi != 0#64) || (BitVec.ofNat 64 D2.len != (BitVec.ofNat 64 i.D.len : W))) || (getV (i.g3 D2) != cutW i.x.v.n i.x.s)
theorem n14g : (n14 i D2).look 125 = .bool fun _ => bad14 i D2 := by kernel_rfl
theorem en16 (h : i.D.len < 2 ^ 63) : ∃ ob, evalList cxM N16 (n14 i D2) = some (n16 i D2, ob) ∧ ob.holds := fl_two (L := [0 ≤ toZ .i64 (BitVec.ofNat 64 i.D.len)]) (by kernel_rfl) (by kernel_rfl) (len_ob h)
def out16 : Bool := (ltB .i64 i.o 0#64 || leB .i64 (BitVec.ofNat 64 i.D.len) i.o) || (leB .i64 i.x.o i.o && ltB .i64 i.o (i.x.o + i.x.s))
theorem n16g : (n16 i D2).look 148 = .bool fun _ => out16 i := by kernel_rfl
theorem en17 : ∃ ob, evalList cxM N17 (n16 i D2) = some (n17 i D2, ob) ∧ ob.holds := fl_two (L := []) (by kernel_rfl) (by kernel_rfl) (by simp)
theorem n17l : (n17 i D2).look 6 = .blit true := by kernel_rfl
theorem n17h : (n17 i D2).hp 0 = some i.D.blk := by kernel_rfl
def same18 : Bool := elB D2 (toZ .i64 i.o).toNat == elB i.D (toZ .i64 i.o).toNat
theorem en18 (h : ∀ p ∈ [0 ≤ toZ .i64 i.o ∧ toZ .i64 i.o < toZ .i64 (BitVec.ofNat 64 D2.len), D2.pre.length = D2.pre.length, (toZ .i64 i.o).toNat < D2.len, 0 ≤ toZ .i64 i.o ∧ toZ .i64 i.o < toZ .i64 (BitVec.ofNat 64 i.D.len), i.D.pre.length = i.D.pre.length, (toZ .i64 i.o).toNat < i.D.len], p) :
    ∃ ob, evalCode cxM (fun _ => none) N18 [] (n16 i D2) = some (.norm (n18 i D2), ob) ∧ ob.holds := fl_two (L := [0 ≤ toZ .i64 i.o ∧ toZ .i64 i.o < toZ .i64 (BitVec.ofNat 64 D2.len), D2.pre.length = D2.pre.length, (toZ .i64 i.o).toNat < D2.len, 0 ≤ toZ .i64 i.o ∧ toZ .i64 i.o < toZ .i64 (BitVec.ofNat 64 i.D.len), i.D.pre.length = i.D.pre.length, (toZ .i64 i.o).toNat < i.D.len]) (by kernel_rfl) (by kernel_rfl) h
theorem n18l : (n18 i D2).look 6 = .bool fun _ => same18 i D2 := by kernel_rfl
theorem n18h : (n18 i D2).hp 0 = some i.D.blk := by kernel_rfl
end
end Go.Rf

/- Memory: the law MemParts: what its states tell is true: plain. -/
namespace Go.Rf

def numG (b : Nat → B8) : Nat → Nat → Nat
  | _, 0 => 0
  | F, k + 1 => (b F).toNat + 256 * numG b (F + 1) k
theorem numG_lt (b : Nat → B8) : ∀ k F, numG b F k < 256 ^ k
  | 0, F => by simp [numG]
  | k + 1, F => by
    have := numG_lt b k (F + 1)
    have h := (b F).isLt
    unfold numG
    rw [Nat.pow_succ]
    omega
theorem valN_G (b : Nat → B8) : ∀ k F, k ≤ 8 → (valN b F k).toNat = numG b F k
  | 0, F, _ => rfl
  | k + 1, F, hk => by
    have ih := valN_G b k (F + 1) (by omega)
    have hl := numG_lt b (k + 1) F
    have hle : 256 ^ (k + 1) ≤ 2 ^ 64 := by
      have : (256 : Nat) ^ (k + 1) ≤ 256 ^ 8 := Nat.pow_le_pow_right (by decide) (by omega)
      have e : (256 : Nat) ^ 8 = 2 ^ 64 := by decide
      omega
    have e256 : (256#64 : W).toNat = 256 := rfl
    unfold numG at hl
    unfold valN numG
    rw [BitVec.toNat_add, BitVec.toNat_mul, zx_nat, ih, e256, Nat.add_mod_mod, Nat.mod_eq_of_lt (by omega)]
theorem numG_add (b : Nat → B8) : ∀ h F k, numG b F (h + k) = numG b F h + 256 ^ h * numG b (F + h) k
  | 0, F, k => by simp [numG]
  | h + 1, F, k => by
    have ih := numG_add b h (F + 1) k
    have e1 : numG b F (h + k + 1) = (b F).toNat + 256 * numG b (F + 1) (h + k) := rfl
    have e2 : numG b F (h + 1) = (b F).toNat + 256 * numG b (F + 1) h := rfl
    rw [show h + 1 + k = (h + k) + 1 by omega, e1, e2, ih, Nat.pow_succ, show F + 1 + h = F + (h + 1) by omega, Nat.mul_add, ← Nat.mul_assoc, Nat.mul_comm (256 ^ h) 256]
    omega
theorem sub_twoM (x y z : W) : x - (y + z) = x - y - z := by
  apply BitVec.eq_of_toNat_eq
  rw [BitVec.toNat_sub, BitVec.toNat_sub, BitVec.toNat_sub, BitVec.toNat_add]
  have := x.isLt
  have := y.isLt
  have := z.isLt
  omega
theorem or_addM {l h n : Nat} (hl : l < 2 ^ n) : l ||| h * 2 ^ n = l + 2 ^ n * h := by
  rw [Nat.or_comm, Nat.mul_comm h, ← Nat.two_pow_add_eq_or_of_lt hl, Nat.add_comm]
theorem j_go : ∀ (k : Fin 9) (t : Fin 10), t.val ≤ k.val → leB .i64 0#64 (BitVec.ofNat 64 k - 1#64 - BitVec.ofNat 64 t : W) = decide (t.val < k.val) := by decide
theorem j_nat : ∀ (k : Fin 9) (t : Fin 10), t.val < k.val → (BitVec.ofNat 64 k - 1#64 - BitVec.ofNat 64 t : W).toNat = k.val - 1 - t.val := by decide
theorem getN_val (x : GI) (hl : x.D.len < 2 ^ 62) (h : inE x.pi = 0#64) : getN x = valN (elB x.D) x.off.toNat x.size.toNat := by
  obtain ⟨k1, k2⟩ := inE_bad (x := x.pi) hl h
  have k1' : x.size.toNat = 1 ∨ x.size.toNat = 2 ∨ x.size.toNat = 4 ∨ x.size.toNat = 8 := k1
  have k2' : x.off.toNat + x.size.toNat ≤ x.D.len := k2
  have hk8 : x.size.toNat ≤ 8 ∧ 1 ≤ x.size.toNat := by omega
  have es : x.size - 1#64 = BitVec.ofNat 64 x.size.toNat - 1#64 - BitVec.ofNat 64 0 := by rw [ofNat_selfM]; show _ = x.size - 1#64 - 0#64; rw [BitVec.sub_zero]
  have hseq := runN_count (go := GtS.go) (next := GtS.nxt (elB x.D)) (fun t => (⟨x.off, valN (elB x.D) (x.off.toNat + (x.size.toNat - t)) t, BitVec.ofNat 64 x.size.toNat - 1#64 - BitVec.ofNat 64 t⟩ : GtS)) x.size.toNat
    (fun t ht => j_go ⟨x.size.toNat, by omega⟩ ⟨t, by omega⟩ ht) (fun t ht => by
      have hj := j_nat ⟨x.size.toNat, by omega⟩ ⟨t, by omega⟩ ht
      simp only at hj
      have hix : ixN (x.off + (BitVec.ofNat 64 x.size.toNat - 1#64 - BitVec.ofNat 64 t)) = x.off.toNat + (x.size.toNat - 1 - t) := by
        have e : (x.off + (BitVec.ofNat 64 x.size.toNat - 1#64 - BitVec.ofNat 64 t)).toNat = x.off.toNat + (x.size.toNat - 1 - t) := by rw [BitVec.toNat_add, hj]; omega
        rw [ixN_nat (by omega), e]
      unfold GtS.nxt
      simp only [hix]
      have e1 : f1 (valN (elB x.D) (x.off.toNat + (x.size.toNat - t)) t) (elB x.D (x.off.toNat + (x.size.toNat - 1 - t))) = valN (elB x.D) (x.off.toNat + (x.size.toNat - (t + 1))) (t + 1) := by
        rw [f1_eq]
        show _ = zx (elB x.D (x.off.toNat + (x.size.toNat - (t + 1)))) + 256#64 * valN (elB x.D) (x.off.toNat + (x.size.toNat - (t + 1)) + 1) t
        rw [show x.size.toNat - (t + 1) = x.size.toNat - 1 - t by omega, show x.off.toNat + (x.size.toNat - 1 - t) + 1 = x.off.toNat + (x.size.toNat - t) by omega, BitVec.add_comm]
      have e2 : BitVec.ofNat 64 x.size.toNat - 1#64 - BitVec.ofNat 64 t - 1#64 = (BitVec.ofNat 64 x.size.toNat - 1#64 - BitVec.ofNat 64 (t + 1) : W) := by
        rw [← ofNat_succ t, sub_twoM]
      rw [e1, e2])
  have hinv : (getS x).inv x.D.len := by
    have hj : (x.size - 1#64).toNat = x.size.toNat - 1 := by
      rw [BitVec.toNat_sub]
      have : (1#64 : W).toNat = 1 := rfl
      rw [this]; omega
    have e1 : x.off.toInt = x.off.toNat := BitVec.toInt_eq_toNat_of_lt (by omega)
    have e2 : (x.size - 1#64).toInt = x.size.toNat - 1 := by rw [BitVec.toInt_eq_toNat_of_lt (by rw [hj]; omega), hj]; omega
    exact ⟨by show 0 ≤ x.off.toInt; omega, by show -1 ≤ (x.size - 1#64).toInt; omega, by show (x.size - 1#64).toInt ≤ 7; omega, by show x.off.toInt + (x.size - 1#64).toInt < x.D.len; omega, hl⟩
  have hmu : (getS x).mu = x.size.toNat := by
    have hj : (x.size - 1#64).toNat = x.size.toNat - 1 := by
      rw [BitVec.toNat_sub]
      have : (1#64 : W).toNat = 1 := rfl
      rw [this]; omega
    have e2 : (x.size - 1#64).toInt = x.size.toNat - 1 := by rw [BitVec.toInt_eq_toNat_of_lt (by rw [hj]; omega), hj]; omega
    show ((x.size - 1#64).toInt + 1).toNat = _
    omega
  unfold getN GtS.rn GtS.run
  rw [runN_ge (GtS.dec (elB x.D) x.D.len) 8 (getS x) hinv (by rw [hmu]; omega), hmu]
  have e0 : (getS x) = ⟨x.off, valN (elB x.D) (x.off.toNat + (x.size.toNat - 0)) 0, BitVec.ofNat 64 x.size.toNat - 1#64 - BitVec.ofNat 64 0⟩ := by
    unfold getS
    rw [es]; rfl
  rw [e0, hseq]
  simp only [Nat.sub_self, Nat.add_zero]
theorem getV_val (x : GI) (hl : x.D.len < 2 ^ 62) (h : inE x.pi = 0#64) : getV x = valN (elB x.D) x.off.toNat x.size.toNat := by
  unfold getV
  have : (inE x.pi != 0#64) = false := by rw [h]; rfl
  rw [this]
  exact getN_val x hl h
theorem amt8 : ∀ i : Fin 9, amt .u64 (convB .i64 .u64 (8#64 * BitVec.ofNat 64 i)) = 8 * i.val := by decide
theorem byteP_nat (n : W) {i : Nat} (hi : i < 8) : byteP n (BitVec.ofNat 64 i) = byteAt8 n i := by
  have := amt8 ⟨i, by omega⟩
  simp only at this
  unfold byteP byteAt8
  rw [this]; rfl
section
variable (i : MI) (hl : i.D.len ≤ 140737488355328)
include hl
omit hl in
theorem kinds_ok (h : inE i.g0.pi ≠ 0#64) : ((getV i.g0 == 0#64) && ((inE i.g0.pi == 1#64) || (inE i.g0.pi == 42#64))) = true := by
  have hv : getV i.g0 = 0#64 := by
    unfold getV
    have : (inE i.g0.pi != 0#64) = true := by simpa using h
    rw [this]; rfl
  have he : inE i.g0.pi = 1#64 ∨ inE i.g0.pi = 42#64 := by
    unfold inE at h ⊢
    cases hs : sizeB i.g0.pi.size with
    | false => exact .inl rfl
    | true =>
      rw [hs] at h
      cases hb : (ltB .i64 i.g0.pi.off 0#64 || ltB .i64 (BitVec.ofNat 64 i.g0.pi.D.len - i.g0.pi.size) i.g0.pi.off) with
      | true => exact .inr rfl
      | false => rw [hb] at h; exact absurd rfl h
  rw [hv]
  rcases he with e | e <;> rw [e] <;> decide
theorem okP (h : inE i.g0.pi = 0#64) (v : W) : PI.ok ⟨i.D, i.x.o, i.x.s, v⟩ := by
  obtain ⟨k1, k2⟩ := inE_bad (x := i.g0.pi) (by show i.D.len < 2 ^ 62; omega) h
  exact ⟨k1, k2, hl⟩
theorem bad10_no (h : inE i.g0.pi = 0#64) (h1 : ltB .i64 1#64 i.x.s = true) : bad10 i = false := by
  obtain ⟨k1, k2⟩ := inE_bad (x := i.g0.pi) (by show i.D.len < 2 ^ 62; omega) h
  have k1' : i.x.s.toNat = 1 ∨ i.x.s.toNat = 2 ∨ i.x.s.toNat = 4 ∨ i.x.s.toNat = 8 := k1
  have k2' : i.x.o.toNat + i.x.s.toNat ≤ i.D.len := k2
  have hs := ofNat_selfM i.x.s
  have hh : (i.half.toNat = 1 ∨ i.half.toNat = 2 ∨ i.half.toNat = 4) ∧ i.x.s.toNat = i.half.toNat + i.half.toNat ∧ amt .u64 (convB .i64 .u64 (8#64 * i.half)) = 8 * i.half.toNat := by
    unfold MI.half
    rcases k1' with e | e | e | e
    · rw [e] at hs; rw [← hs] at h1; exact absurd h1 (by decide)
    · rw [e] at hs ⊢; rw [← hs]; decide
    · rw [e] at hs ⊢; rw [← hs]; decide
    · rw [e] at hs ⊢; rw [← hs]; decide
  obtain ⟨c1, c2, c3⟩ := hh
  have eo : (i.x.o + i.half).toNat = i.x.o.toNat + i.half.toNat := by rw [BitVec.toNat_add]; omega
  have ok1 : PI.ok i.g1.pi := ⟨by show i.half.toNat = 1 ∨ i.half.toNat = 2 ∨ i.half.toNat = 4 ∨ i.half.toNat = 8; omega, by show i.x.o.toNat + i.half.toNat ≤ i.D.len; omega, hl⟩
  have ok2 : PI.ok i.g2.pi := ⟨by show i.half.toNat = 1 ∨ i.half.toNat = 2 ∨ i.half.toNat = 4 ∨ i.half.toNat = 8; omega, by show (i.x.o + i.half).toNat + i.half.toNat ≤ i.D.len; omega, hl⟩
  have e1 := inE_ok ok1
  have e2 := inE_ok ok2
  have hl' : i.D.len < 2 ^ 62 := by omega
  have v0 : getV i.g0 = valN (elB i.D) i.x.o.toNat i.x.s.toNat := getV_val i.g0 hl' h
  have v1 : getV i.g1 = valN (elB i.D) i.x.o.toNat i.half.toNat := getV_val i.g1 hl' e1
  have v2 : getV i.g2 = valN (elB i.D) (i.x.o + i.half).toNat i.half.toNat := getV_val i.g2 hl' e2
  unfold bad10
  rw [e1, e2, v0, v1, v2, c3, eo]
  have key : valN (elB i.D) i.x.o.toNat i.x.s.toNat = (valN (elB i.D) i.x.o.toNat i.half.toNat ||| valN (elB i.D) (i.x.o.toNat + i.half.toNat) i.half.toNat <<< (8 * i.half.toNat)) := by
    apply BitVec.eq_of_toNat_eq
    rw [BitVec.toNat_or, BitVec.toNat_shiftLeft, valN_G _ _ _ (by omega), valN_G _ _ _ (by omega), valN_G _ _ _ (by omega), c2, numG_add, Nat.shiftLeft_eq]
    have p : (256 : Nat) ^ i.half.toNat = 2 ^ (8 * i.half.toNat) := by rw [Nat.pow_mul]
    have l1 := numG_lt (elB i.D) i.half.toNat i.x.o.toNat
    have l2 := numG_lt (elB i.D) i.half.toNat (i.x.o.toNat + i.half.toNat)
    rw [p] at l1 l2 ⊢
    have hm : numG (elB i.D) (i.x.o.toNat + i.half.toNat) i.half.toNat * 2 ^ (8 * i.half.toNat) < 2 ^ 64 := by
      have : numG (elB i.D) (i.x.o.toNat + i.half.toNat) i.half.toNat * 2 ^ (8 * i.half.toNat) < 2 ^ (8 * i.half.toNat) * 2 ^ (8 * i.half.toNat) := Nat.mul_lt_mul_of_pos_right l2 (Nat.two_pow_pos _)
      rw [← Nat.pow_add] at this
      exact Nat.lt_of_lt_of_le this (Nat.pow_le_pow_right (by decide) (by omega))
    rw [Nat.mod_eq_of_lt hm, or_addM l1]
  rw [key]
  simp
variable {D2 : SlD sB} (hp : PutD ⟨i.D, i.x.o, i.x.s, i.x.v.n⟩ D2)
include hp
theorem bad14_no (h : inE i.g0.pi = 0#64) : bad14 i D2 = false := by
  obtain ⟨k1, k2⟩ := inE_bad (x := i.g0.pi) (by show i.D.len < 2 ^ 62; omega) h
  have k1' : i.x.s.toNat = 1 ∨ i.x.s.toNat = 2 ∨ i.x.s.toNat = 4 ∨ i.x.s.toNat = 8 := k1
  have k2' : i.x.o.toNat + i.x.s.toNat ≤ i.D.len := k2
  have hlen : D2.len = i.D.len := hp.len
  have e3 : inE (i.g3 D2).pi = 0#64 := by
    have : inE (i.g3 D2).pi = inE i.g0.pi := by
      unfold inE
      show (bif !(sizeB i.x.s) then 1#64 else bif ltB .i64 i.x.o 0#64 || ltB .i64 (BitVec.ofNat 64 D2.len - i.x.s) i.x.o then 42#64 else 0#64) = (bif !(sizeB i.x.s) then 1#64 else bif ltB .i64 i.x.o 0#64 || ltB .i64 (BitVec.ofNat 64 i.D.len - i.x.s) i.x.o then 42#64 else 0#64)
      rw [hlen]
    rw [this, h]
  have v3 : getV (i.g3 D2) = valN (elB D2) i.x.o.toNat i.x.s.toNat := getV_val (i.g3 D2) (by show D2.len < 2 ^ 62; omega) e3
  have hsz : sizeB i.x.s = true := by
    have e := ofNat_selfM i.x.s
    rcases k1' with h | h | h | h <;> rw [h] at e <;> rw [← e] <;> rfl
  have hc : valN (elB D2) i.x.o.toNat i.x.s.toNat = cutW i.x.v.n i.x.s := by
    apply BitVec.eq_of_toNat_eq
    rw [cut_nat hsz, valN_nat i.x.v.n i.x.s.toNat 0 i.x.o.toNat (elB D2) (by omega) (fun j hj => by
      unfold elB
      rw [hp.els]
      show putTo ⟨i.D, i.x.o, i.x.s, i.x.v.n⟩ i.x.s.toNat (i.x.o.toNat + j) = _
      unfold putTo
      rw [if_pos (by show i.x.o.toNat ≤ i.x.o.toNat + j ∧ i.x.o.toNat + j < i.x.o.toNat + i.x.s.toNat; omega)]
      show byteP i.x.v.n (BitVec.ofNat 64 (i.x.o.toNat + j - i.x.o.toNat)) = _
      rw [Nat.add_sub_cancel_left, byteP_nat _ (by omega), Nat.zero_add])]
    simp
  unfold bad14
  rw [e3, v3, hc, hlen]
  simp
theorem same18_ok (h : inE i.g0.pi = 0#64) (h16 : out16 i = false) : same18 i D2 = true ∧ 0 ≤ i.o.toInt ∧ i.o.toInt < i.D.len := by
  obtain ⟨k1, k2⟩ := inE_bad (x := i.g0.pi) (by show i.D.len < 2 ^ 62; omega) h
  have k2' : i.x.o.toNat + i.x.s.toNat ≤ i.D.len := k2
  have k1' : i.x.s.toNat = 1 ∨ i.x.s.toNat = 2 ∨ i.x.s.toNat = 4 ∨ i.x.s.toNat = 8 := k1
  unfold out16 at h16
  simp only [Bool.or_eq_false_iff] at h16
  obtain ⟨⟨b1, b2⟩, b3⟩ := h16
  have hd1 : ¬ i.o.toInt < (0#64 : W).toInt := by
    intro hh
    have : ltB .i64 i.o 0#64 = true := by show i.o.slt 0#64 = true; rw [BitVec.slt]; exact decide_eq_true hh
    rw [b1] at this; cases this
  have z : (0#64 : W).toInt = 0 := rfl
  have e1 : i.o.toInt = i.o.toNat := nat_of_int (by omega)
  have e2 : (BitVec.ofNat 64 i.D.len : W).toInt = i.D.len := by rw [BitVec.toInt_eq_toNat_of_lt (by rw [ofNat_toNat (by omega)]; omega), ofNat_toNat (by omega)]
  have hd2 : i.o.toInt < i.D.len := by
    rw [leI, decide_eq_false_iff_not, e2] at b2
    omega
  refine ⟨?_, by omega, hd2⟩
  have eo : i.x.o.toInt = i.x.o.toNat := BitVec.toInt_eq_toNat_of_lt (by omega)
  have es : (i.x.o + i.x.s).toNat = i.x.o.toNat + i.x.s.toNat := by rw [BitVec.toNat_add]; omega
  have esi : (i.x.o + i.x.s).toInt = i.x.o.toNat + i.x.s.toNat := by rw [BitVec.toInt_eq_toNat_of_lt (by omega), es]; omega
  have hout : ¬ (i.x.o.toNat ≤ i.o.toNat ∧ i.o.toNat < i.x.o.toNat + i.x.s.toNat) := by
    rintro ⟨q1, q2⟩
    have r1 : leB .i64 i.x.o i.o = true := by rw [leI, decide_eq_true_eq]; omega
    have r2 : ltB .i64 i.o (i.x.o + i.x.s) = true := by show i.o.slt (i.x.o + i.x.s) = true; rw [BitVec.slt]; exact decide_eq_true (by omega)
    rw [r1, r2] at b3; cases b3
  have ez : (toZ .i64 i.o).toNat = i.o.toNat := by rw [toZ_nat (by omega)]; omega
  unfold same18
  rw [ez]
  have : elB D2 i.o.toNat = elB i.D i.o.toNat := by
    unfold elB
    rw [hp.els]
    show putTo ⟨i.D, i.x.o, i.x.s, i.x.v.n⟩ i.x.s.toNat i.o.toNat = _
    unfold putTo
    rw [if_neg hout]; rfl
  rw [this]
  simp
end
end Go.Rf

/- Memory: the law MemParts walked. -/
namespace Go.Rf
open Go.Proofs

theorem entM (i : MI) (hl : i.D.len < 2 ^ 63) {b : Nat} {w : World} (hb : w.heap[b]? = some (.cells (cells E0 [] i.D.blk.v).toArray i.D.T i.D.fz)) : SRel (E1 b) w (n0 i) (enterActB (E1 b) Try.f9 (argM i)) w := by
  have hnt : Try.f9.ntmps = 158 := by kernel_rfl
  have h := enterB1 (fn := Try.f9) (args := argM i) (B := i.D.blk) (b := b) (w := w) (by rw [hnt]; show 3 ≤ 158; omega) (fun v hv => by
    simp only [argM, List.mem_cons, List.not_mem_nil, or_false] at hv
    rcases hv with rfl | rfl | rfl
    · exact (at_val (D := { i.D with b := b }) (n := 0) (E := E1 b) rfl hl).2
    · exact ok_of_pf _ _ (cAct.pf i.x)
    · trivial) (blk_cells (flatB.good _) (E1 b)).2 (by rw [(blk_cells (flatB.good _) (E1 b)).1]; exact hb)
  rw [hnt] at h
  exact h
theorem resL : Try.f9.results = #[.tmp 6] := by kernel_rfl
/-- True is told. -/
theorem retL (i : MI) {b : Nat} {w : World} (hb : w.heap[b]? = some (.cells (cells E0 [] i.D.blk.v).toArray i.D.T i.D.fz)) (st : St) {u : AV} (f6 : st.look 6 = u) (hu : pf u = true) (hv : val E0 u = .bool true) (g0 : st.hp 0 = some i.D.blk)
    {ae : Go.Act} {we : World} (hsg : SRel (E1 b) w st ae we) : bodyPost Try.prog Try.f9 (fun e w' => e = .returned (.bool true) ∧ RowKit.Below w.heap.size w w') .ret ae we := by
  obtain ⟨E, q1, q2, q3, q4, q5, q6, q7, q8, q9, q10⟩ := hsg
  obtain ⟨b0, s1, s2, s3⟩ := q4 0 _ g0
  have hb0 : E 0 = some b := q8.sub 0 b rfl
  obtain rfl : b0 = b := by rw [s1] at hb0; exact Option.some.inj hb0
  have e6 : ae.tmps.getD 6 undef = .bool true := by
    have q := q1 6
    rw [f6] at q
    have e : val E u = ae.tmps.getD 6 undef := by
      cases u <;> first
        | exact q.2
        | simp [pf] at hu
    rw [← e, val_pf hu E E0, hv]
  have hres : (results Try.f9 ae.tmps).run Try.prog we = .ok (ae.tmps.getD 6 undef) we := by
    rw [results_tmp (t := 6) resL]
  refine bodyPost_ret hres q3 ⟨by rw [e6], ⟨q8.os, q8.tape, q8.output, q8.size, fun k hk => ?_⟩⟩
  by_cases hkb : k = b0
  · subst hkb
    rw [s3, (blk_cells (flatB.good _) E).1, hb]
    rfl
  · refine q8.keep k hk (fun n hn => hkb ?_)
    unfold E1 at hn
    split at hn
    · simpa using hn.symm
    · cases hn
theorem toQ (i : MI) (st : St) (ha : st.nt = 158 ∧ st.lo = 1) (hc : ((enQ i).map fun z => unlitM (st.look z.1)) = (enQ i).map (·.2)) (hd : ((hbQ i).map fun z => st.hp z.1) = (hbQ i).map (·.2)) {Es : Env} {ws : World} {a : Go.Act} {w : World} (hs : SRel Es ws st a w) : SRel Es ws (stQ i) a w :=
  norm_relM (kept_ofM hc hd (enQ_n i) (hbQ_n i) (by rw [ha.2]; rfl)) ha.1 ha.2 hs
section
variable (i : MI) (hl : i.D.len ≤ 140737488355328) {b : Nat} {w : World} (hb : w.heap[b]? = some (.cells (cells E0 [] i.D.blk.v).toArray i.D.T i.D.fz))
include hl hb
/-- What comes behind the halves. -/
noncomputable def tailM : Code := .seq (.region 12 N12.toArray false) (.seq (.region 13 N13.toArray false) (.seq (.seq (.region 14 N14.toArray false) (retIf 125 15 N15)) (.seq (.seq (.region 16 N16.toArray false) (retIf 148 17 N17)) (.seq N18 .ret))))
theorem tailW (h0 : inE i.g0.pi = 0#64) {a : Go.Act} {w1 : World} (hs : SRel (E1 b) w (stQ i) a w1) : tailM.wp Try.prog (bodyPost Try.prog Try.f9 fun e w' => e = .returned (.bool true) ∧ RowKit.Below w.heap.size w w') a w1 := by
  have hl' : i.D.len < 2 ^ 62 := by omega
  have hl3 : i.D.len < 2 ^ 63 := by omega
  refine wp_seq (list_region (by simpa using gN12.1) ?_)
  rw [List.toList_toArray, N12_eq]
  refine wpList_app _ (noGd_spec gN12.2.1) _ _ ?_
  refine lstM gN12.2.1 (en12a i) hs fun a2 w2 hs2 => ⟨rfl, ?_⟩
  have hk : KeptR (n12a i) (n12a i).next (enQ i) (hbQ i) := by
    rw [(n12n i).2.2]
    exact (kept_ofM (n12c i) (n12f i) (enQ_n i) (hbQ_n i) (by rw [(n12n i).2.1]; rfl)).toR
  refine step_put hs2 (n12b i) (okP i hl h0 i.x.v.n) n12d.2 (n12e i) n12d.1 (by rw [(n12n i).1]; omega) hk fun D2 a3 w3 hp hs3 => ?_
  rw [(n12n i).1, (n12n i).2.1, (n12n i).2.2] at hs3
  have hlen : D2.len = i.D.len := hp.len
  refine lstM gN12.2.2 (en12 i D2) hs3 fun a4 w4 hs4 => ?_
  show (Code.seq (.region 13 N13.toArray false) _).wp Try.prog _ a4 w4
  refine wp_seq (list_region (by simpa using gN13.1) ?_)
  rw [List.toList_toArray, N13_eq]
  refine wpList_app _ (noGd_spec gN13.2.1) _ _ ?_
  refine lstM gN13.2.1 (en13a i D2) hs4 fun a5 w5 hs5 => ⟨rfl, ?_⟩
  refine step_get hs5 (n13b i D2) (by omega) n13d.2 (n13e i D2) n13d.1 (by rw [n13n]; omega) fun a6 w6 hs6 => ?_
  refine lstM gN13.2.2 (en13 i D2) hs6 fun a7 w7 hs7 => ?_
  show (Code.seq (.seq (.region 14 N14.toArray false) (retIf 125 15 N15)) _).wp Try.prog _ a7 w7
  refine wp_seq (wp_seq (regM (en14 i D2 hl3 (by omega)) hs7 fun a8 w8 hs8 => ?_))
  have hc := boolM (n14g i D2) hs8
  rw [bad14_no i hl hp h0] at hc
  refine wp_cond_false hc (wp_skip ?_)
  show (Code.seq (.seq (.region 16 N16.toArray false) (retIf 148 17 N17)) _).wp Try.prog _ a8 w8
  refine wp_seq (wp_seq (regM (en16 i D2 hl3) hs8 fun a9 w9 hs9 => ?_))
  have hc2 := boolM (n16g i D2) hs9
  cases h16 : out16 i with
  | true =>
    rw [h16] at hc2
    refine wp_cond_true hc2 ?_
    refine wp_seq (regM (en17 i D2) hs9 fun aa wa hsa => ?_)
    refine wp_ret ?_
    exact retL i hb (n17 i D2) (n17l i D2) rfl rfl (n17h i D2) hsa
  | false =>
    rw [h16] at hc2
    refine wp_cond_false hc2 (wp_skip ?_)
    obtain ⟨k1, k2, k3⟩ := same18_ok i hl hp h0 h16
    show (Code.seq N18 .ret).wp Try.prog _ a9 w9
    have e1 : i.o.toInt = i.o.toNat := nat_of_int k2
    have ez : toZ .i64 i.o = i.o.toNat := toZ_nat (by omega)
    have el : ∀ n : Nat, n < 2 ^ 63 → toZ .i64 (BitVec.ofNat 64 n) = n := fun n hn => by rw [toZ_nat (by rw [ofNat_toNat (by omega)]; exact hn), ofNat_toNat (by omega)]
    refine wp_seq (codeM (en18 i D2 (fun p hp => by
      simp only [List.mem_cons, List.not_mem_nil, or_false] at hp
      rcases hp with rfl | rfl | rfl | rfl | rfl | rfl
      · rw [ez, el _ (by omega)]; omega
      · trivial
      · rw [ez]; omega
      · rw [ez, el _ hl3]; omega
      · trivial
      · rw [ez]; omega)) hs9 fun aa wa hsa => ?_)
    refine wp_ret ?_
    exact retL i hb (n18 i D2) (n18l i D2) rfl (by show Value.bool (same18 i D2) = _; rw [k1]) (n18h i D2) hsa
theorem calls9 : Calls Try.prog 9 ((argM i).map (val (E1 b))).toArray w fun e w' => e = .returned (.bool true) ∧ RowKit.Below w.heap.size w w' := by
  have hl' : i.D.len < 2 ^ 62 := by omega
  refine calls_of_wp Try.func9 body9 ?_
  have hs0 := entM i (by omega) hb
  refine wp_seq (regM (en1 i) hs0 fun a1 w1 hs1 => ?_)
  show (Code.seq (.seq (.region 1 N1.toArray false) (retIf 19 2 N2)) _).wp Try.prog _ a1 w1
  refine wp_seq (wp_seq (regM (en2 i) hs1 fun a2 w2 hs2 => ?_))
  refine wp_cond_false (boolM (n2g i) hs2) (wp_skip ?_)
  show (Code.seq (.region 3 N3.toArray false) _).wp Try.prog _ a2 w2
  refine wp_seq (list_region (by simpa using gN3.1) ?_)
  rw [List.toList_toArray, N3_eq]
  refine wpList_app _ (noGd_spec gN3.2.1) _ _ ?_
  refine lstM gN3.2.1 (en3a i) hs2 fun a3 w3 hs3 => ⟨rfl, ?_⟩
  refine step_get hs3 (n3b i) hl' n3d.2 (n3e i) n3d.1 (by rw [n3n]; omega) fun a4 w4 hs4 => ?_
  refine lstM gN3.2.2 (en3 i) hs4 fun a5 w5 hs5 => ?_
  show (Code.seq (.seq (.region 4 N4.toArray false) (retIf 30 5 N5)) _).wp Try.prog _ a5 w5
  refine wp_seq (wp_seq (regM (en4 i) hs5 fun a6 w6 hs6 => ?_))
  have hc := boolM (n4g i) hs6
  by_cases h0 : inE i.g0.pi = 0#64
  · have hne : (inE i.g0.pi != 0#64) = false := by rw [h0]; rfl
    rw [hne] at hc
    refine wp_cond_false hc (wp_skip ?_)
    show (Code.seq (.seq (.region 6 N6.toArray false) _) tailM).wp Try.prog _ a6 w6
    refine wp_seq (wp_seq (regM (en6 i) hs6 fun a7 w7 hs7 => ?_))
    have hc2 := boolM (n6g i) hs7
    cases h1 : ltB .i64 1#64 i.x.s with
    | false =>
      rw [h1] at hc2
      refine wp_cond_false hc2 (wp_skip ?_)
      exact tailW i hl hb h0 (toQ i _ (n6a i) (n6c i) (n6d i) hs7)
    | true =>
      rw [h1] at hc2
      refine wp_cond_true hc2 ?_
      refine wp_seq (regM (en7 i) hs7 fun a8 w8 hs8 => ?_)
      show (Code.seq (.region 8 N8.toArray false) _).wp Try.prog _ a8 w8
      refine wp_seq (list_region (by simpa using gN8.1) ?_)
      rw [List.toList_toArray, N8_eq]
      refine wpList_app _ (noGd_spec gN8.2.1) _ _ ?_
      refine lstM gN8.2.1 (en8a i) hs8 fun a9 w9 hs9 => ⟨rfl, ?_⟩
      refine step_get hs9 (n8b i) hl' n8d.2 (n8e i) n8d.1 (by rw [n8n]; omega) fun aa wa hsa => ?_
      refine lstM gN8.2.2 (en8 i) hsa fun ab wb hsb => ?_
      show (Code.seq (.region 9 N9.toArray false) _).wp Try.prog _ ab wb
      refine wp_seq (list_region (by simpa using gN9.1) ?_)
      rw [List.toList_toArray, N9_eq]
      refine wpList_app _ (noGd_spec gN9.2.1) _ _ ?_
      refine lstM gN9.2.1 (en9a i) hsb fun ac wc hsc => ⟨rfl, ?_⟩
      refine step_get hsc (n9b i) hl' n9d.2 (n9e i) n9d.1 (by rw [n9n]; omega) fun ad wd hsd => ?_
      refine lstM gN9.2.2 (en9 i) hsd fun ae we hse => ?_
      show (Code.seq (.region 10 N10.toArray false) (retIf 81 11 N11)).wp Try.prog _ ae we
      refine wp_seq (regM (en10 i) hse fun af wf hsf => ?_)
      have hc3 := boolM (n10g i) hsf
      rw [bad10_no i hl h0 h1] at hc3
      refine wp_cond_false hc3 (wp_skip ?_)
      exact tailW i hl hb h0 (toQ i _ (n10a i) (n10c i) (n10d i) hsf)
  · have hne : (inE i.g0.pi != 0#64) = true := by simpa using h0
    rw [hne] at hc
    refine wp_cond_true hc ?_
    refine wp_seq (regM (en5 i) hs6 fun a7 w7 hs7 => ?_)
    refine wp_ret ?_
    exact retL i hb (n5 i) (n5l i) rfl (by
      have := kinds_ok i h0
      show Value.bool _ = _
      rw [this]) (n5h i) hs7
end
end Go.Rf

/- Memory: the law MemParts of no bytes. -/
namespace Go.Rf
open Go.Proofs

theorem enter0 {P : Program} {fn : Func} {args : List AV} (hlen : args.length ≤ fn.ntmps) (hargs : ∀ v ∈ args, ok E0 v) (w : World) : SRel E0 w (St.enter args (fun _ => none) 0 fn.ntmps) (enterAct P fn args) w := by
  refine ⟨E0, ?_, ?_, rfl, ?_, fun n m b h => by simp at h, fun n b h => by simp at h, fun _ _ => rfl, Tr.refl E0 w, fun _ _ => rfl, Nat.le_refl _⟩
  · intro t
    simp only [St.look, St.enter, argEnt_look, Nat.zero_le, if_true, Nat.sub_zero, enterAct]
    simp only [Array.getD_eq_getD_getElem?, Array.getElem?_append]
    by_cases ht : t < args.length
    · have e : args[t]? = some args[t] := List.getElem?_eq_getElem ht
      simp only [e, List.size_toArray, List.length_map, ht, if_true]
      simp only [List.getElem?_toArray, List.getElem?_map, e, Option.map_some, Option.getD_some]
      exact TRel_of (hargs _ (List.getElem_mem ht))
    · have e : args[t]? = none := by simp; omega
      simp only [e, List.size_toArray, List.length_map, ht, if_false]
      refine ⟨trivial, ?_⟩
      simp only [Array.getElem?_replicate]
      split <;> rfl
  · simp [St.enter, enterAct]; omega
  · intro n B hB
    simp [St.enter, St.hp, hwL] at hB
theorem retK {Λ : Hook} {fn : Func} {p : List Nat} {st : St} {r : AV} {ob : Ob} (h : evalK cxM Λ fn .ret p st = some (r, ob)) (hob : ob.holds) (hr : st.hrest = fun _ => none)
    {ws : World} {a : Go.Act} {w : World} (hs : SRel E0 ws st a w) : bodyPost Try.prog fn (fun e w' => e = .returned (valT E0 r) ∧ RowKit.Below ws.heap.size ws w') .ret a w := by
  unfold evalK at h
  split at h <;> try (simp at h; done)
  rename_i o ob1 h1
  split at h <;> try (simp at h; done)
  rename_i r' ob2 h2
  split at h <;> try (simp at h; done)
  rename_i v hw h3
  split at h <;> simp at h
  rename_i u hu
  obtain ⟨rfl, rfl⟩ := h
  rw [Ob.and_holds] at hob
  have hrest := evalCode_rest (Λ := Λ) Code.ret p _ o ob1 h1
  rw [hr] at hrest
  simp only [evalCode, Option.some.injEq, Prod.mk.injEq] at h1
  obtain ⟨rfl, rfl⟩ := h1
  obtain ⟨e1, e2, e3⟩ := nrmT_spec _ _ hu
  have hm : MatchO E0 ws (.ret st) .ret a w := hs
  have := resOf_run (hp := fun _ => none) (fun n B hB => by simp at hB) (fun n b hb => by simp at hb) h2 hob.2 hrest hm
  refine bodyPost_mono this ?_
  rintro e w' ⟨E', k1, rfl, k3, k4⟩
  obtain ⟨_, f2, _⟩ := flatH_spec E' (fun _ => none) h3
  refine ⟨?_, k3.below⟩
  rw [← f2, (pfT_spec e1 E').2.1, e3]
structure ZI where
  ao : Option Addr
  cap : Nat
  off : W
  size : W
def inZ (x : ZI) : W := bif !(sizeB x.size) then 1#64 else bif ltB .i64 x.off 0#64 || ltB .i64 (0#64 - x.size) x.off then 42#64 else 0#64
theorem inZ_bad (x : ZI) : inZ x ≠ 0#64 := by
  unfold inZ
  cases hs : sizeB x.size with
  | false => show (1#64 : W) ≠ 0#64; decide
  | true =>
    have hb : (ltB .i64 x.off 0#64 || ltB .i64 (0#64 - x.size) x.off) = true := by
      cases h : ltB .i64 x.off 0#64 with
      | true => rfl
      | false =>
        have hd1 : ¬ x.off.toInt < (0#64 : W).toInt := by
          intro hh
          have : ltB .i64 x.off 0#64 = true := by show x.off.slt 0#64 = true; rw [BitVec.slt]; exact decide_eq_true hh
          rw [h] at this; cases this
        have z : (0#64 : W).toInt = 0 := rfl
        have hsz : (0#64 - x.size : W).toInt < 0 := by
          rcases sizeB_iff.1 hs with e | e | e | e <;> rw [e] <;> decide
        show ltB .i64 (0#64 - x.size) x.off = true
        show (0#64 - x.size : W).slt x.off = true
        rw [BitVec.slt]; exact decide_eq_true (by omega)
    rw [hb]; show (42#64 : W) ≠ 0#64; decide
def argZ (x : ZI) : List AV := [.vsl x.ao x.cap, eI x.off, eI x.size]
section
variable (x : ZI)
noncomputable def zq0 : St := St.enter (argZ x) (fun _ => none) 0 35
noncomputable def zq1 : St := outM (evalList cxM G0 (zq0 x))
noncomputable def zq2 : St := outM (evalList cxM G1 (zq1 x))
noncomputable def zq3 : St := outM (evalList cxM G2 (zq2 x))
noncomputable def zqR : St := outM (evalList cxM G3 (zq3 x))
theorem ez1 : ∃ ob, evalList cxM G0 (zq0 x) = some (zq1 x, ob) ∧ ob.holds := fl_two (L := []) (by kernel_rfl) (by kernel_rfl) (by simp)
theorem ez2 : ∃ ob, evalList cxM G1 (zq1 x) = some (zq2 x, ob) ∧ ob.holds := fl_two (L := []) (by kernel_rfl) (by kernel_rfl) (by simp)
theorem ez3 : ∃ ob, evalList cxM G2 (zq2 x) = some (zq3 x, ob) ∧ ob.holds := fl_two (L := []) (by kernel_rfl) (by kernel_rfl) (by simp)
theorem zq3g : (zq3 x).look 16 = .bool fun _ => inZ x != 0#64 := by kernel_rfl
theorem ezR : ∃ ob, evalList cxM G3 (zq3 x) = some (zqR x, ob) ∧ ob.holds := fl_two (L := []) (by kernel_rfl) (by kernel_rfl) (by simp)
theorem zqRa : (zqR x).look 6 = .lit .u64 0 := by kernel_rfl
theorem zqRb : (zqR x).look 7 = eI (inZ x) := by kernel_rfl
end
def getZ (x : ZI) : Value := .tuple #[.int .u64 0, .int .i64 (toZ .i64 (inZ x))]
theorem retZ (x : ZI) {w : World} (st : St) (f6 : st.look 6 = .lit .u64 0) (f7 : st.look 7 = eI (inZ x)) {ae : Go.Act} {we : World} (hsg : SRel E0 w st ae we) : bodyPost Try.prog Try.f24 (fun e w' => e = .returned (getZ x) ∧ RowKit.Below w.heap.size w w') .ret ae we := by
  obtain ⟨E, q1, q2, q3, q4, q5, q6, q7, q8, q9, q10⟩ := hsg
  have v6 := q1 6
  have v7 := q1 7
  rw [f6] at v6
  rw [f7] at v7
  have e6 : ae.tmps.getD 6 undef = .int .u64 0 := v6.2.symm
  have e7 : ae.tmps.getD 7 undef = .int .i64 (toZ .i64 (inZ x)) := v7.2.symm
  exact bodyPost_ret (results_two (t := 6) (u := 7) resG _ _ _) q3 ⟨by rw [e6, e7]; rfl, q8.below⟩
theorem callsGetZ (x : ZI) (w : World) : Calls Try.prog 24 ((argZ x).map (val E0)).toArray w (fun e w' => e = .returned (getZ x) ∧ RowKit.Below w.heap.size w w') := by
  refine calls_of_wp Try.func24 body24 ?_
  have hnt : Try.f24.ntmps = 35 := by kernel_rfl
  have hs0 := enter0 (P := Try.prog) (fn := Try.f24) (args := argZ x) (by rw [hnt]; show 3 ≤ 35; omega) (fun v hv => by
    simp only [argZ, List.mem_cons, List.not_mem_nil, or_false] at hv
    rcases hv with rfl | rfl | rfl <;> trivial) w
  rw [hnt] at hs0
  refine wp_seq (regM (ez1 x) hs0 fun a1 w1 hs1 => ?_)
  show (Code.seq (.seq (.region 1 G1.toArray false) _) _).wp Try.prog _ a1 w1
  refine wp_seq (wp_seq (regM (ez2 x) hs1 fun a2 w2 hs2 => ?_))
  show (Code.seq (.region 2 G2.toArray false) _).wp Try.prog _ a2 w2
  refine wp_seq (regM (ez3 x) hs2 fun a3 w3 hs3 => ?_)
  have hc := boolM (zq3g x) hs3
  have hne : (inZ x != 0#64) = true := by simpa using inZ_bad x
  rw [hne] at hc
  refine wp_cond_true hc ?_
  refine wp_seq (regM (ezR x) hs3 fun a4 w4 hs4 => ?_)
  refine wp_ret ?_
  exact retZ x (zqR x) (zqRa x) (zqRb x) hs4
def getZT (x : ZI) : AV := .tup (.cons (.lit .u64 0) (.cons (eI (inZ x)) .nil))
theorem step_getZ {Es : Env} {ws : World} {st : St} {a : Go.Act} {w : World} (hs : SRel Es ws st a w) (x : ZI) {o : Oper} {rest : List Oper} {Q : Exit → Go.Act → World → Prop}
    (hgd : o.guard = none) (hev : eff Try.prog (opd st.look) o.op = some (.call 24 [.vsl x.ao x.cap, .int .i64 fun _ => x.off, .int .i64 fun _ => x.size])) {dst : Nat} (hd : o.dst = some dst) (hdst : dst < st.nt)
    (hK : ∀ a' w', SRel Es ws (st.setT dst (getZT x)) a' w' → wpList Try.prog #[] Q rest a' w') : wpList Try.prog #[] Q (o :: rest) a w := by
  refine wpList_plain hgd fun K hKK => ?_
  obtain ⟨E, h1, h2, h3, h4, h5, h6, h7, h8, h9, h10⟩ := id hs
  obtain ⟨_, hr⟩ := eff_run hev E a (fun x _ => opd_st h1 x)
  unfold Oper.wp
  rw [hr w, Oper.upon_enter]
  have hc := callsGetZ x w
  have ea : ([.vsl x.ao x.cap, .int .i64 fun _ => x.off, .int .i64 fun _ => x.size].map (val E)) = (argZ x).map (val E0) := rfl
  rw [ea]
  refine hc.mono ?_
  rintro e w' ⟨rfl, hbel⟩
  refine hKK _ _ (hK _ w' ?_)
  rw [hd]
  exact tmp_set (below_rel hs hbel) hdst _ _ (fun E' _ => ⟨⟨trivial, trivial, trivial⟩, rfl⟩)
/-! The law. -/
structure LZ where
  ao : Option Addr
  cap : Nat
  x : Act
  o : W
section
variable (i : LZ)
def LZ.z : ZI := ⟨i.ao, i.cap, i.x.o, i.x.s⟩
def argLZ : List AV := [.vsl i.ao i.cap, eAct i.x, eI i.o]
noncomputable def t0 : St := St.enter (argLZ i) (fun _ => none) 0 158
noncomputable def t1 : St := outM (evalList cxM N0 (t0 i))
noncomputable def t2 : St := outM (evalList cxM N1 (t1 i))
noncomputable def t3a : St := outM (evalList cxM (N3.take 5) (t2 i))
noncomputable def t3 : St := outM (evalList cxM (N3.drop 6) ((t3a i).setT 26 (getZT i.z)))
noncomputable def t4 : St := outM (evalList cxM N4 (t3 i))
noncomputable def t5 : St := outM (evalList cxM N5 (t4 i))
theorem et1 : ∃ ob, evalList cxM N0 (t0 i) = some (t1 i, ob) ∧ ob.holds := fl_two (L := []) (by kernel_rfl) (by kernel_rfl) (by simp)
theorem et2 : ∃ ob, evalList cxM N1 (t1 i) = some (t2 i, ob) ∧ ob.holds := fl_two (L := []) (by kernel_rfl) (by kernel_rfl) (by simp)
theorem t2g : (t2 i).look 19 = .bool fun _ => !true := by kernel_rfl
theorem et3a : ∃ ob, evalList cxM (N3.take 5) (t2 i) = some (t3a i, ob) ∧ ob.holds := fl_two (L := []) (by kernel_rfl) (by kernel_rfl) (by simp)
theorem t3e : eff Try.prog (opd (t3a i).look) (opM N3 5).op = some (.call 24 [.vsl i.ao i.cap, .int .i64 fun _ => i.x.o, .int .i64 fun _ => i.x.s]) := by kernel_rfl
theorem t3n : (t3a i).nt = 158 := by kernel_rfl
theorem et3 : ∃ ob, evalList cxM (N3.drop 6) ((t3a i).setT 26 (getZT i.z)) = some (t3 i, ob) ∧ ob.holds := fl_two (L := []) (by kernel_rfl) (by kernel_rfl) (by simp)
theorem et4 : ∃ ob, evalList cxM N4 (t3 i) = some (t4 i, ob) ∧ ob.holds := fl_two (L := []) (by kernel_rfl) (by kernel_rfl) (by simp)
theorem t4g : (t4 i).look 30 = .bool fun _ => inZ i.z != 0#64 := by kernel_rfl
theorem et5 : ∃ ob, evalList cxM N5 (t4 i) = some (t5 i, ob) ∧ ob.holds := fl_two (L := []) (by kernel_rfl) (by kernel_rfl) (by simp)
theorem t5r : ∃ ob, evalK cxM (fun _ => none) Try.f9 .ret [] (t5 i) = some (eB (true && ((inZ i.z == 1#64) || (inZ i.z == 42#64))), ob) ∧ ob.holds := fl_two (L := []) (by kernel_rfl) (by kernel_rfl) (by simp)
theorem t5h : (t5 i).hrest = fun _ => none := by kernel_rfl
end
theorem kindsZ (x : ZI) : (true && ((inZ x == 1#64) || (inZ x == 42#64))) = true := by
  have h := inZ_bad x
  unfold inZ at h ⊢
  cases hs : sizeB x.size with
  | false => rfl
  | true =>
    rw [hs] at h
    cases hb : (ltB .i64 x.off 0#64 || ltB .i64 (0#64 - x.size) x.off) with
    | true => rfl
    | false => rw [hb] at h; simp at h
theorem calls9z (i : LZ) (w : World) : Calls Try.prog 9 ((argLZ i).map (val E0)).toArray w fun e w' => e = .returned (.bool true) ∧ RowKit.Below w.heap.size w w' := by
  refine calls_of_wp Try.func9 body9 ?_
  have hnt : Try.f9.ntmps = 158 := by kernel_rfl
  have hs0 := enter0 (P := Try.prog) (fn := Try.f9) (args := argLZ i) (by rw [hnt]; show 3 ≤ 158; omega) (fun v hv => by
    simp only [argLZ, List.mem_cons, List.not_mem_nil, or_false] at hv
    rcases hv with rfl | rfl | rfl
    · trivial
    · exact ok_of_pf _ _ (cAct.pf i.x)
    · trivial) w
  rw [hnt] at hs0
  refine wp_seq (regM (et1 i) hs0 fun a1 w1 hs1 => ?_)
  show (Code.seq (.seq (.region 1 N1.toArray false) (retIf 19 2 N2)) _).wp Try.prog _ a1 w1
  refine wp_seq (wp_seq (regM (et2 i) hs1 fun a2 w2 hs2 => ?_))
  refine wp_cond_false (boolM (t2g i) hs2) (wp_skip ?_)
  show (Code.seq (.region 3 N3.toArray false) _).wp Try.prog _ a2 w2
  refine wp_seq (list_region (by simpa using gN3.1) ?_)
  rw [List.toList_toArray, N3_eq]
  refine wpList_app _ (noGd_spec gN3.2.1) _ _ ?_
  refine lstM gN3.2.1 (et3a i) hs2 fun a3 w3 hs3 => ⟨rfl, ?_⟩
  refine step_getZ hs3 i.z n3d.2 (t3e i) n3d.1 (by rw [t3n]; omega) fun a4 w4 hs4 => ?_
  refine lstM gN3.2.2 (et3 i) hs4 fun a5 w5 hs5 => ?_
  show (Code.seq (.seq (.region 4 N4.toArray false) (retIf 30 5 N5)) _).wp Try.prog _ a5 w5
  refine wp_seq (wp_seq (regM (et4 i) hs5 fun a6 w6 hs6 => ?_))
  have hc := boolM (t4g i) hs6
  have hne : (inZ i.z != 0#64) = true := by simpa using inZ_bad i.z
  rw [hne] at hc
  refine wp_cond_true hc ?_
  refine wp_seq (regM (et5 i) hs6 fun a7 w7 hs7 => ?_)
  refine wp_ret ?_
  obtain ⟨ob, k1, k2⟩ := t5r i
  rw [kindsZ] at k1
  exact retK k1 k2 (t5h i) hs7
end Go.Rf
