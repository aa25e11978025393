/- Several texts as one: MgB MgC MgD MgE MgF MgG MgH MgI MgJ. -/
import Derived.Test.YtadkiiaagdhhlaaMgX
import Derived.Test.YtadkiiaagdhhlaaMeXB
import Derived.Test.YtadkiiaagdhhlaaMf2
set_option linter.unusedVariables false
set_option linter.unusedSimpArgs false
set_option maxRecDepth 100000

/- Memory: the law MemBytes: its code and first states. -/
namespace Go.Rf
open Go.Proofs

noncomputable def Y0 : List Oper := opsM 8 [0]
noncomputable def Y1 : List Oper := opsM 8 [1, 0]
noncomputable def Y2 : List Oper := opsM 8 [1, 1, 0]
noncomputable def Y3 : List Oper := opsM 8 [1, 1, 1, 0]
noncomputable def Y4 : List Oper := opsM 8 [1, 1, 1, 1, 0]
noncomputable def Y5 : List Oper := opsM 8 [1, 1, 1, 1, 1, 0]
noncomputable def Y6 : List Oper := opsM 8 [1, 1, 1, 1, 1, 1, 0]
noncomputable def Y7 : List Oper := opsM 8 [1, 1, 1, 1, 1, 1, 1, 0, 0]
noncomputable def Y8 : List Oper := opsM 8 [1, 1, 1, 1, 1, 1, 1, 0, 1, 2, 0]
noncomputable def Y9 : List Oper := opsM 8 [1, 1, 1, 1, 1, 1, 1, 1, 0, 0]
noncomputable def Y10 : List Oper := opsM 8 [1, 1, 1, 1, 1, 1, 1, 1, 0, 1, 4, 5, 0]
noncomputable def Y11 : List Oper := opsM 8 [1, 1, 1, 1, 1, 1, 1, 1, 0, 1, 4, 5, 1, 1, 0, 4, 0]
noncomputable def Y12 : List Oper := opsM 8 [1, 1, 1, 1, 1, 1, 1, 1, 0, 1, 4, 5, 1, 1, 0, 4, 1]
noncomputable def Y13 : List Oper := opsM 8 [1, 1, 1, 1, 1, 1, 1, 1, 0, 1, 4, 5, 1, 1, 1]
noncomputable def Y14 : List Oper := opsM 8 [1, 1, 1, 1, 1, 1, 1, 1, 1, 0]
noncomputable def rndYb : Code := .seq (.region 10 Y10.toArray false) (.seq (.cond (.tmp 105) .skip (.exit 0)) (.seq (.block 1 (.seq (.region 11 Y11.toArray false) (.region 12 Y12.toArray false))) (.region 13 Y13.toArray false)))
theorem body8 : Try.f8.body = some (.seq (.region 0 Y0.toArray false) (.seq (.region 1 Y1.toArray false) (.seq (.region 2 Y2.toArray false) (.seq (.region 3 Y3.toArray false) (.seq (.region 4 Y4.toArray false) (.seq (.region 5 Y5.toArray false) (.seq (.region 6 Y6.toArray false)
  (.seq (.seq (.region 7 Y7.toArray false) (retIf 101 8 Y8)) (.seq (.seq (.region 9 Y9.toArray false) (.block 0 (.loop rndYb))) (.seq (.region 14 Y14.toArray false) .ret)))))))))) := by kernel_rfl
theorem Y1_eq : Y1 = opM Y1 0 :: ((Y1.drop 1).take 1 ++ (opM Y1 2 :: ((Y1.drop 3).take 1 ++ (opM Y1 4 :: Y1.drop 5)))) := by kernel_rfl
theorem oY1z : (opM Y1 0).op = .buildSlice 57 0 #[] ∧ (opM Y1 0).dst = some 16 ∧ (opM Y1 0).guard = none := ⟨by kernel_rfl, by kernel_rfl, by kernel_rfl⟩
structure BI where
  D : SlD sB
  x : Act
def argB (i : BI) : List AV := [i.D.at 0, eAct i.x]
section
variable (i : BI)
noncomputable def b0S : St := St.enter (argB i) (hpB i.D.blk) 1 122
noncomputable def b1S : St := outM (evalList cxM Y0 (b0S i))
def enY1 : List (Nat × AV) := [(0, i.D.at 0), (3, .ptr 1 [])]
def hbY1 : List (Nat × Option Blk) := [(0, some i.D.blk), (1, some ⟨45, eAct i.x⟩)]
theorem eb1 : ∃ ob, evalList cxM Y0 (b0S i) = some (b1S i, ob) ∧ ob.holds := fl_two (L := []) (by kernel_rfl) (by kernel_rfl) (by simp)
theorem b1a : (b1S i).nt = 122 ∧ (b1S i).lo = 1 ∧ (b1S i).next = 2 := ⟨by kernel_rfl, by kernel_rfl, by kernel_rfl⟩
theorem b1e : ((enY1 i).map fun z => unlitM ((b1S i).look z.1)) = (enY1 i).map (·.2) := by kernel_rfl
theorem b1f : ((hbY1 i).map fun z => (b1S i).hp z.1) = (hbY1 i).map (·.2) := by kernel_rfl
theorem enY1_n2 : ((enY1 i).all fun z => nltB 2 z.2) = true := by kernel_rfl
theorem hbY1_n2 : ((hbY1 i).all fun z => Nat.blt z.1 2 && match z.2 with | some B => nltB 2 B.v | none => true) = true := by kernel_rfl
section
variable (D0 : SlD sB)
noncomputable def b2S : St := outM (evalList cxM ((Y1.drop 1).take 1) (slSt D0 2 16 (enY1 i) (hbY1 i) 122 1))
theorem eb2 : ∃ ob, evalList cxM ((Y1.drop 1).take 1) (slSt D0 2 16 (enY1 i) (hbY1 i) 122 1) = some (b2S i D0, ob) ∧ ob.holds := fl_two (L := []) (by kernel_rfl) (by kernel_rfl) (by simp)
theorem b2a : (b2S i D0).nt = 122 ∧ (b2S i D0).lo = 1 ∧ (b2S i D0).next = 3 := ⟨by kernel_rfl, by kernel_rfl, by kernel_rfl⟩
theorem b2c : (b2S i D0).look 16 = D0.at 2 := by kernel_rfl
theorem b2d : (b2S i D0).look 17 = i.D.at 0 ∧ (b2S i D0).hp 0 = some i.D.blk := ⟨by kernel_rfl, by kernel_rfl⟩
theorem b2e : ((enY1 i).map fun z => unlitM ((b2S i D0).look z.1)) = (enY1 i).map (·.2) := by kernel_rfl
theorem b2f : ((hbY1 i).map fun z => (b2S i D0).hp z.1) = (hbY1 i).map (·.2) := by kernel_rfl
end
theorem oY1a : (opM Y1 2).op = .call { callee := .builtin .append, args := #[.tmp 16, .tmp 17], argTypes := #[57, 57] } ∧ (opM Y1 2).dst = some 18 ∧ (opM Y1 2).guard = none := ⟨by kernel_rfl, by kernel_rfl, by kernel_rfl⟩
theorem oY1b : (opM Y1 4).op = .call { callee := .builtin .append, args := #[.tmp 18, .tmp 19], argTypes := #[57, 57] } ∧ (opM Y1 4).dst = some 20 ∧ (opM Y1 4).guard = none := ⟨by kernel_rfl, by kernel_rfl, by kernel_rfl⟩
theorem enY1_n : ((enY1 i).all fun z => nltB 3 z.2) = true := by kernel_rfl
theorem hbY1_n : ((hbY1 i).all fun z => Nat.blt z.1 3 && match z.2 with | some B => nltB 3 B.v | none => true) = true := by kernel_rfl
variable (D1 : SlD sB)
noncomputable def b3S : St := outM (evalList cxM ((Y1.drop 3).take 1) (slSt D1 3 18 (enY1 i) (hbY1 i) 122 1))
theorem eb3 : ∃ ob, evalList cxM ((Y1.drop 3).take 1) (slSt D1 3 18 (enY1 i) (hbY1 i) 122 1) = some (b3S i D1, ob) ∧ ob.holds := fl_two (L := []) (by kernel_rfl) (by kernel_rfl) (by simp)
theorem b3a : (b3S i D1).nt = 122 ∧ (b3S i D1).lo = 1 := ⟨by kernel_rfl, by kernel_rfl⟩
theorem b3b : (b3S i D1).look 18 = D1.at 3 ∧ (b3S i D1).hp 3 = some D1.blk := ⟨by kernel_rfl, by kernel_rfl⟩
theorem b3c : (b3S i D1).look 19 = .slc 4 [] (.lit .i64 (1 : Nat)) 1 := by kernel_rfl
noncomputable def bk77 : Blk := ((b3S i D1).hp 4).getD ⟨0, .un⟩
theorem b3d : (b3S i D1).hp 4 = some (bk77 i D1) ∧ noRaw (bk77 i D1).v = true := ⟨by kernel_rfl, by kernel_rfl⟩
theorem b3e (E : Env) : cells E [] (bk77 i D1).v = [.int .u8 (toZ .u8 77#8)] := by kernel_rfl
theorem b3f : ((enY1 i).map fun z => unlitM ((b3S i D1).look z.1)) = (enY1 i).map (·.2) := by kernel_rfl
theorem b3g : ((hbY1 i).map fun z => (b3S i D1).hp z.1) = (hbY1 i).map (·.2) := by kernel_rfl
end
end Go.Rf

/- Memory: the law MemBytes: its states up to the Gets. -/
namespace Go.Rf
open Go.Proofs

theorem KeptR.swap {st : St} {n m : Nat} {ents : List (Nat × AV)} {B B' : Blk} {hbs : List (Nat × Option Blk)} (h : KeptR st n ents ((m, some B) :: hbs)) (hn : nlt n B'.v) (hT : B.T = B'.T) (hf : fzOf B.v = fzOf B'.v) (hc : ∀ E, ok E B.v → ok E B'.v ∧ cells E [] B.v = cells E [] B'.v) :
    KeptR st n ents ((m, some B') :: hbs) := by
  refine ⟨h.ent, fun x hx => ?_, h.lo⟩
  rcases List.mem_cons.1 hx with rfl | hx
  · obtain ⟨k1, k2⟩ := h.blk (m, some B) (List.mem_cons_self ..)
    obtain ⟨_, B0, q1, q2, q3, q4⟩ := k2 B rfl
    refine ⟨k1, fun B1 hB1 => ?_⟩
    cases hB1
    refine ⟨hn, B0, q1, q2.trans hT, q3.trans hf, fun E hE => ?_⟩
    obtain ⟨r1, r2⟩ := q4 E hE
    obtain ⟨s1, s2⟩ := hc E r1
    exact ⟨s1, r2.trans s2⟩
  · exact h.blk x (List.mem_cons_of_mem _ hx)
theorem keptR_relM {st : St} {n nt lo : Nat} {ents : List (Nat × AV)} {hbs : List (Nat × Option Blk)} (hk : KeptR st n ents hbs) (hnt : st.nt = nt) (hlo : st.lo = lo) {Es : Env} {ws : World} {a : Go.Act} {w : World} (hs : SRel Es ws st a w) :
    SRel Es ws ⟨ents, fun _ => .un, hbs, fun _ => none, n, nt, lo⟩ a w := by
  have := hk.rel hs
  rwa [hnt, hlo] at this
theorem ok_blkB (D : SlD sB) (E : Env) : ok E D.blk.v := (blk_cells (flatB.good _) E).2
/-- A long row said as a short one, and back. -/
theorem KeptR.short {st : St} {n m : Nat} {ents : List (Nat × AV)} {D : SlD sB} {L : Nat} (hL : L ≤ D.len) {hbs : List (Nat × Option Blk)} (h : KeptR st n ents ((m, some D.blk) :: hbs)) (hn : nltB n (shortD D L).blk.v = true) : KeptR st n ents ((m, some (shortD D L).blk) :: hbs) :=
  h.swap (nltB_nlt hn) (short_blk D hL).1.symm (short_blk D hL).2.1.symm (fun E _ => ⟨ok_blkB _ E, ((short_blk D hL).2.2 E).symm⟩)
theorem KeptR.long {st : St} {n m : Nat} {ents : List (Nat × AV)} {D : SlD sB} {L : Nat} (hL : L ≤ D.len) {hbs : List (Nat × Option Blk)} (h : KeptR st n ents ((m, some (shortD D L).blk) :: hbs)) (hn : nltB n D.blk.v = true) : KeptR st n ents ((m, some D.blk) :: hbs) :=
  h.swap (nltB_nlt hn) (short_blk D hL).1 (short_blk D hL).2.1 (fun E _ => ⟨ok_blkB _ E, (short_blk D hL).2.2 E⟩)

theorem Y1_last : Y1.drop 5 = [opM Y1 5] := by kernel_rfl
theorem Y2_eq : Y2 = Y2.take 3 ++ (opM Y2 3 :: Y2.drop 4) := by kernel_rfl
theorem Y3_eq : Y3 = Y3.take 5 ++ (opM Y3 5 :: Y3.drop 6) := by kernel_rfl
theorem Y4_eq : Y4 = Y4.take 5 ++ (opM Y4 5 :: Y4.drop 6) := by kernel_rfl
theorem Y5_eq : Y5 = Y5.take 8 ++ (opM Y5 8 :: Y5.drop 9) := by kernel_rfl
theorem Y6_eq : Y6 = Y6.take 8 ++ (opM Y6 8 :: Y6.drop 9) := by kernel_rfl
theorem gY1 : noGd Y1 = true ∧ noGd ((Y1.drop 1).take 1) = true ∧ noGd ((Y1.drop 3).take 1) = true ∧ noGd (Y1.drop 5) = true := ⟨by kernel_rfl, by kernel_rfl, by kernel_rfl, by kernel_rfl⟩
theorem gY2 : noGd Y2 = true ∧ noGd (Y2.take 3) = true ∧ noGd (Y2.drop 4) = true := ⟨by kernel_rfl, by kernel_rfl, by kernel_rfl⟩
theorem gY3 : noGd Y3 = true ∧ noGd (Y3.take 5) = true ∧ noGd (Y3.drop 6) = true := ⟨by kernel_rfl, by kernel_rfl, by kernel_rfl⟩
theorem gY4 : noGd Y4 = true ∧ noGd (Y4.take 5) = true ∧ noGd (Y4.drop 6) = true := ⟨by kernel_rfl, by kernel_rfl, by kernel_rfl⟩
theorem gY5 : noGd Y5 = true ∧ noGd (Y5.take 8) = true ∧ noGd (Y5.drop 9) = true := ⟨by kernel_rfl, by kernel_rfl, by kernel_rfl⟩
theorem gY6 : noGd Y6 = true ∧ noGd (Y6.take 8) = true ∧ noGd (Y6.drop 9) = true := ⟨by kernel_rfl, by kernel_rfl, by kernel_rfl⟩
theorem oY2 : (opM Y2 3).op = .slice 57 (.tmp 21) none (some (.tmp 23)) none ∧ (opM Y2 3).dst = some 24 ∧ (opM Y2 3).guard = none := ⟨by kernel_rfl, by kernel_rfl, by kernel_rfl⟩
section
variable (i : BI) (D3 : SlD sB)
/-- Own: all but the last. -/
def BI.own : SlD sB := shortD D3 i.D.len
noncomputable def c1B : St := outM (evalList cxM (Y1.drop 5) (slSt D3 3 20 (enY1 i) (hbY1 i) 122 1))
theorem ecB1 : ∃ ob, evalList cxM (Y1.drop 5) (slSt D3 3 20 (enY1 i) (hbY1 i) 122 1) = some (c1B i D3, ob) ∧ ob.holds := fl_two (L := []) (by kernel_rfl) (by kernel_rfl) (by simp)
noncomputable def c2a : St := outM (evalList cxM (Y2.take 3) (c1B i D3))
theorem ecB2a (h : i.D.len < 2 ^ 63) : ∃ ob, evalList cxM (Y2.take 3) (c1B i D3) = some (c2a i D3, ob) ∧ ob.holds := fl_two (L := [0 ≤ toZ .i64 (BitVec.ofNat 64 i.D.len)]) (by kernel_rfl) (by kernel_rfl) (len_ob h)
theorem c2x : (c2a i D3).look 21 = D3.at 3 ∧ (c2a i D3).look 23 = .int .i64 (fun _ => BitVec.ofNat 64 i.D.len) ∧ (c2a i D3).nt = 122 := ⟨by kernel_rfl, by kernel_rfl, by kernel_rfl⟩
noncomputable def c2B : St := outM (evalList cxM (Y2.drop 4) ((c2a i D3).setT 24 ((i.own D3).at 3)))
theorem ecB2 : ∃ ob, evalList cxM (Y2.drop 4) ((c2a i D3).setT 24 ((i.own D3).at 3)) = some (c2B i D3, ob) ∧ ob.holds := fl_two (L := []) (by kernel_rfl) (by kernel_rfl) (by simp)
def enZ : List (Nat × AV) := [(0, i.D.at 0), (3, .ptr 1 []), (5, D3.at 3), (6, (i.own D3).at 3)]
def hbZ (D : SlD sB) : List (Nat × Option Blk) := (3, some D.blk) :: hbY1 i
def stZ (D : SlD sB) : St := ⟨enZ i D3, fun _ => .un, hbZ i D, fun _ => none, 4, 122, 1⟩
theorem c2n : (c2B i D3).nt = 122 ∧ (c2B i D3).lo = 1 := ⟨by kernel_rfl, by kernel_rfl⟩
theorem c2c : ((enZ i D3).map fun z => unlitM ((c2B i D3).look z.1)) = (enZ i D3).map (·.2) := by kernel_rfl
theorem c2d : ((hbZ i D3).map fun z => (c2B i D3).hp z.1) = (hbZ i D3).map (·.2) := by kernel_rfl
theorem enZ_n : ((enZ i D3).all fun z => nltB 4 z.2) = true := by kernel_rfl
theorem hbZ_n (D : SlD sB) : ((hbZ i D).all fun z => Nat.blt z.1 4 && match z.2 with | some B => nltB 4 B.v | none => true) = true := by kernel_rfl
def BI.g0 : GI := ⟨i.D, i.x.o, i.x.s⟩
def BI.g1 : GI := ⟨i.own D3, i.x.o, i.x.s⟩
noncomputable def c3a : St := outM (evalList cxM (Y3.take 5) (stZ i D3 (i.own D3)))
theorem ecB3a : ∃ ob, evalList cxM (Y3.take 5) (stZ i D3 (i.own D3)) = some (c3a i D3, ob) ∧ ob.holds := fl_two (L := []) (by kernel_rfl) (by kernel_rfl) (by simp)
theorem c3e : eff Try.prog (opd (c3a i D3).look) (opM Y3 5).op = some (.call 24 [(i.own D3).at 3, .int .i64 fun _ => i.x.o, .int .i64 fun _ => i.x.s]) := by kernel_rfl
theorem c3b : (c3a i D3).hp 3 = some (i.own D3).blk := by kernel_rfl
theorem c3n : (c3a i D3).nt = 122 := by kernel_rfl
theorem oY3 : (opM Y3 5).dst = some 31 ∧ (opM Y3 5).guard = none := ⟨by kernel_rfl, by kernel_rfl⟩
noncomputable def c3B : St := outM (evalList cxM (Y3.drop 6) ((c3a i D3).setT 31 (getT (i.g1 D3))))
theorem ecB3 : ∃ ob, evalList cxM (Y3.drop 6) ((c3a i D3).setT 31 (getT (i.g1 D3))) = some (c3B i D3, ob) ∧ ob.holds := fl_two (L := []) (by kernel_rfl) (by kernel_rfl) (by simp)
noncomputable def c4a : St := outM (evalList cxM (Y4.take 5) (c3B i D3))
theorem ecB4a : ∃ ob, evalList cxM (Y4.take 5) (c3B i D3) = some (c4a i D3, ob) ∧ ob.holds := fl_two (L := []) (by kernel_rfl) (by kernel_rfl) (by simp)
theorem c4e : eff Try.prog (opd (c4a i D3).look) (opM Y4 5).op = some (.call 25 [i.D.at 0, .int .i64 fun _ => i.x.o, .int .i64 fun _ => i.x.s]) := by kernel_rfl
theorem c4b : (c4a i D3).hp 0 = some i.D.blk := by kernel_rfl
theorem c4n : (c4a i D3).nt = 122 := by kernel_rfl
theorem oY4 : (opM Y4 5).dst = some 40 ∧ (opM Y4 5).guard = none := ⟨by kernel_rfl, by kernel_rfl⟩
noncomputable def c4B : St := outM (evalList cxM (Y4.drop 6) ((c4a i D3).setT 40 (getT i.g0)))
theorem ecB4 : ∃ ob, evalList cxM (Y4.drop 6) ((c4a i D3).setT 40 (getT i.g0)) = some (c4B i D3, ob) ∧ ob.holds := fl_two (L := []) (by kernel_rfl) (by kernel_rfl) (by simp)
noncomputable def c5a : St := outM (evalList cxM (Y5.take 8) (c4B i D3))
theorem ecB5a : ∃ ob, evalList cxM (Y5.take 8) (c4B i D3) = some (c5a i D3, ob) ∧ ob.holds := fl_two (L := []) (by kernel_rfl) (by kernel_rfl) (by simp)
theorem c5e : eff Try.prog (opd (c5a i D3).look) (opM Y5 8).op = some (.call 26 [(i.own D3).at 3, .int .i64 fun _ => i.x.o, .int .i64 fun _ => i.x.s, .int .u64 fun _ => i.x.v.n]) := by kernel_rfl
theorem c5b : (c5a i D3).hp 3 = some (i.own D3).blk := by kernel_rfl
theorem c5n : (c5a i D3).nt = 122 ∧ (c5a i D3).lo = 1 ∧ (c5a i D3).next = 4 := ⟨by kernel_rfl, by kernel_rfl, by kernel_rfl⟩
theorem oY5 : (opM Y5 8).dst = some 52 ∧ (opM Y5 8).guard = none := ⟨by kernel_rfl, by kernel_rfl⟩
def enG : List (Nat × AV) := [(0, i.D.at 0), (3, .ptr 1 []), (5, D3.at 3), (6, (i.own D3).at 3), (7, eW (getV (i.g1 D3))), (8, eI (inE (i.g1 D3).pi)), (9, eW (getV i.g0)), (10, eI (inE i.g0.pi))]
theorem c5c : ((enG i D3).map fun z => unlitM ((c5a i D3).look z.1)) = (enG i D3).map (·.2) := by kernel_rfl
theorem c5d : ((hbZ i (i.own D3)).map fun z => (c5a i D3).hp z.1) = (hbZ i (i.own D3)).map (·.2) := by kernel_rfl
theorem enG_n : ((enG i D3).all fun z => nltB 4 z.2) = true := by kernel_rfl
theorem enG_n5 : ((enG i D3).all fun z => nltB 5 z.2) = true := by kernel_rfl
theorem hbZ_n5 (D : SlD sB) : ((hbZ i D).all fun z => Nat.blt z.1 5 && match z.2 with | some B => nltB 5 B.v | none => true) = true := by kernel_rfl
/-! Where it is refused. -/
noncomputable def r5B : St := outM (evalList cxM (Y5.drop 9) ((c5a i D3).setT 52 (noT (inE (i.g1 D3).pi))))
theorem err5 : ∃ ob, evalList cxM (Y5.drop 9) ((c5a i D3).setT 52 (noT (inE (i.g1 D3).pi))) = some (r5B i D3, ob) ∧ ob.holds := fl_two (L := []) (by kernel_rfl) (by kernel_rfl) (by simp)
noncomputable def r6a : St := outM (evalList cxM (Y6.take 8) (r5B i D3))
theorem err6a : ∃ ob, evalList cxM (Y6.take 8) (r5B i D3) = some (r6a i D3, ob) ∧ ob.holds := fl_two (L := []) (by kernel_rfl) (by kernel_rfl) (by simp)
theorem r6e : eff Try.prog (opd (r6a i D3).look) (opM Y6 8).op = some (.call 27 [i.D.at 0, .int .i64 fun _ => i.x.o, .int .i64 fun _ => i.x.s, .int .u64 fun _ => i.x.v.n]) := by kernel_rfl
theorem r6b : (r6a i D3).hp 0 = some i.D.blk := by kernel_rfl
theorem r6n : (r6a i D3).nt = 122 := by kernel_rfl
theorem oY6 : (opM Y6 8).dst = some 64 ∧ (opM Y6 8).guard = none := ⟨by kernel_rfl, by kernel_rfl⟩
noncomputable def r6B : St := outM (evalList cxM (Y6.drop 9) ((r6a i D3).setT 64 (noT (inE i.g0.pi))))
theorem err6 : ∃ ob, evalList cxM (Y6.drop 9) ((r6a i D3).setT 64 (noT (inE i.g0.pi))) = some (r6B i D3, ob) ∧ ob.holds := fl_two (L := []) (by kernel_rfl) (by kernel_rfl) (by simp)
def enR : List (Nat × AV) := [(0, i.D.at 0), (3, .ptr 1 []), (5, D3.at 3), (6, (i.own D3).at 3), (7, eW (getV (i.g1 D3))), (8, eI (inE (i.g1 D3).pi)), (9, eW (getV i.g0)), (10, eI (inE i.g0.pi)), (11, .vsl none 0), (12, eI (inE (i.g1 D3).pi)), (13, .vsl none 0), (14, eI (inE i.g0.pi))]
theorem r6c : ((enR i D3).map fun z => unlitM ((r6B i D3).look z.1)) = (enR i D3).map (·.2) := by kernel_rfl
theorem r6d : ((hbZ i (i.own D3)).map fun z => (r6B i D3).hp z.1) = (hbZ i (i.own D3)).map (·.2) := by kernel_rfl
theorem enR_n : ((enR i D3).all fun z => nltB 4 z.2) = true := by kernel_rfl
theorem r6m : (r6B i D3).nt = 122 ∧ (r6B i D3).lo = 1 := ⟨by kernel_rfl, by kernel_rfl⟩
def stR : St := ⟨enR i D3, fun _ => .un, hbZ i D3, fun _ => none, 4, 122, 1⟩
noncomputable def r7B : St := outM (evalList cxM Y7 (stR i D3))
end
end Go.Rf

/- Memory: the law MemBytes: its states behind the Puts. -/
namespace Go.Rf
open Go.Proofs

def sameStr (f g : Nat → B8) (L M : W) : Bool := (bytesOf (fun ix => f (List.headD ix 0)) (lenZ [] (.int .i64 fun _ => L)).toNat).toList == (bytesOf (fun ix => g (List.headD ix 0)) (lenZ [] (.int .i64 fun _ => M)).toNat).toList
section
variable (i : BI) (D3 : SlD sB)
def lenB (D : SlD sB) : W := BitVec.ofNat 64 D.len
def obD (D3 : SlD sB) : List Prop := [(i.own D3).pre.length = D3.pre.length ∧ (lenZ [] (AV.int .i64 fun _ => lenB (i.own D3))).toNat ≤ D3.len, i.D.pre.length = i.D.pre.length ∧ (lenZ [] (AV.int .i64 fun _ => lenB i.D)).toNat ≤ i.D.len,
  0 ≤ toZ .i64 (lenB i.D), 0 ≤ toZ .i64 (lenB i.D) ∧ toZ .i64 (lenB i.D) < toZ .i64 (lenB D3), D3.pre.length = D3.pre.length, (toZ .i64 (lenB i.D)).toNat < D3.len]
theorem toZ_lenB {D : SlD sB} (h : D.len < 2 ^ 63) : toZ .i64 (lenB D) = D.len := by
  unfold lenB
  rw [toZ_nat (by rw [ofNat_toNat (by omega)]; exact h), ofNat_toNat (by omega)]
theorem lenZ_lenB {D : SlD sB} (h : D.len < 2 ^ 63) : (lenZ [] (AV.int .i64 fun _ => lenB D)).toNat = D.len := by
  show (toZ .i64 (lenB D)).toNat = D.len
  rw [toZ_lenB h]; omega
theorem obD_hold {i : BI} {D3 : SlD sB} (hl : i.D.len < 2 ^ 62) (h3 : D3.len = i.D.len + 1) : ∀ p ∈ obD i D3, p := by
  intro p hp
  have e0 : toZ .i64 (lenB i.D) = i.D.len := toZ_lenB (by omega)
  have e3 : toZ .i64 (lenB D3) = D3.len := toZ_lenB (by omega)
  have f0 : (lenZ [] (AV.int .i64 fun _ => lenB i.D)).toNat = i.D.len := lenZ_lenB (by omega)
  have f1 : (lenZ [] (AV.int .i64 fun _ => lenB (i.own D3))).toNat = i.D.len := f0
  simp only [obD, List.mem_cons, List.not_mem_nil, or_false] at hp
  rcases hp with rfl | rfl | rfl | rfl | rfl | rfl
  · exact ⟨rfl, by rw [f1]; omega⟩
  · exact ⟨trivial, by rw [f0]; omega⟩
  · rw [e0]; omega
  · rw [e0, e3]; omega
  · trivial
  · rw [e0]; omega
/-! Where it is refused. -/
theorem err7 (h : ∀ p ∈ obD i D3, p) : ∃ ob, evalList cxM Y7 (stR i D3) = some (r7B i D3, ob) ∧ ob.holds := fl_two (L := obD i D3) (by kernel_rfl) (by kernel_rfl) h
def bad7 (L4 L5 : W) (f4 f5 : Nat → B8) (e1 e0 : W) : Bool :=
  (((((getV (i.g1 D3) != getV i.g0) || (inE (i.g1 D3).pi != inE i.g0.pi)) || !(sameStr f4 f5 L4 L5)) || (e1 != e0)) || !(sameStr (elB D3) (elB i.D) (lenB (i.own D3)) (lenB i.D))) || (elB D3 (toZ .i64 (lenB i.D)).toNat != 77#8)
def badR : Bool :=
  (((((getV (i.g1 D3) != getV i.g0) || (inE (i.g1 D3).pi != inE i.g0.pi)) || !(ByteArray.empty.toList == ByteArray.empty.toList)) || (inE (i.g1 D3).pi != inE i.g0.pi)) || !(sameStr (elB D3) (elB i.D) (lenB (i.own D3)) (lenB i.D))) || (elB D3 (toZ .i64 (lenB i.D)).toNat != 77#8)
theorem r7g : (r7B i D3).look 101 = .bool fun _ => badR i D3 := by kernel_rfl
noncomputable def r9B : St := outM (evalList cxM Y9 (r7B i D3))
theorem err9 : ∃ ob, evalList cxM Y9 (r7B i D3) = some (r9B i D3, ob) ∧ ob.holds := fl_two (L := []) (by kernel_rfl) (by kernel_rfl) (by simp)
def enR9 : List (Nat × AV) := [(0, i.D.at 0), (3, .ptr 1 []), (5, D3.at 3), (6, (i.own D3).at 3), (103, eI 0#64), (104, eI 0#64)]
def stR9 : St := ⟨enR9 i D3, fun _ => .un, hbZ i D3, fun _ => none, 4, 122, 1⟩
theorem r9c : ((enR9 i D3).map fun z => unlitM ((r9B i D3).look z.1)) = (enR9 i D3).map (·.2) := by kernel_rfl
theorem r9d : ((hbZ i D3).map fun z => (r9B i D3).hp z.1) = (hbZ i D3).map (·.2) := by kernel_rfl
theorem enR9_n : ((enR9 i D3).all fun z => nltB 4 z.2) = true := by kernel_rfl
theorem r9m : (r9B i D3).nt = 122 ∧ (r9B i D3).lo = 1 := ⟨by kernel_rfl, by kernel_rfl⟩
noncomputable def r10B : St := outM (evalList cxM Y10 (stR9 i D3))
theorem err10 : ∃ ob, evalList cxM Y10 (stR9 i D3) = some (r10B i D3, ob) ∧ ob.holds := fl_two (L := []) (by kernel_rfl) (by kernel_rfl) (by simp)
theorem r10g : (r10B i D3).look 105 = .bool fun _ => ltB .i64 0#64 0#64 := by kernel_rfl
noncomputable def r14B : St := outM (evalList cxM Y14 (r10B i D3))
def ob14 (D3 : SlD sB) : List Prop := [(i.own D3).pre.length = D3.pre.length ∧ (lenZ [] (AV.int .i64 fun _ => lenB (i.own D3))).toNat ≤ D3.len, i.D.pre.length = i.D.pre.length ∧ (lenZ [] (AV.int .i64 fun _ => lenB i.D)).toNat ≤ i.D.len]
theorem err14 (h : ∀ p ∈ ob14 i D3, p) : ∃ ob, evalList cxM Y14 (r10B i D3) = some (r14B i D3, ob) ∧ ob.holds := fl_two (L := ob14 i D3) (by kernel_rfl) (by kernel_rfl) h
theorem r14l : (r14B i D3).look 4 = .bool fun _ => true && sameStr (elB D3) (elB i.D) (lenB (i.own D3)) (lenB i.D) := by kernel_rfl
theorem r14h : (r14B i D3).hp 0 = some i.D.blk := by kernel_rfl
theorem ob14_hold {i : BI} {D3 : SlD sB} (h : ∀ p ∈ obD i D3, p) : ∀ p ∈ ob14 i D3, p := fun p hp => by
  unfold ob14 at hp
  rcases List.mem_cons.1 hp with rfl | hp
  · exact h _ (by unfold obD; exact List.mem_cons_self ..)
  · rcases List.mem_cons.1 hp with rfl | hp
    · exact h _ (by unfold obD; exact List.mem_cons_of_mem _ (List.mem_cons_self ..))
    · cases hp
/-! Where it is put. -/
variable (D4 : SlD sB)
noncomputable def p5B : St := outM (evalList cxM (Y5.drop 9) (bkSt (putT 4 D4) D4.blk 4 52 (enG i D3) (hbZ i (i.own D3)) 122 1))
theorem epB5 : ∃ ob, evalList cxM (Y5.drop 9) (bkSt (putT 4 D4) D4.blk 4 52 (enG i D3) (hbZ i (i.own D3)) 122 1) = some (p5B i D3 D4, ob) ∧ ob.holds := fl_two (L := []) (by kernel_rfl) (by kernel_rfl) (by simp)
noncomputable def p6a : St := outM (evalList cxM (Y6.take 8) (p5B i D3 D4))
theorem epB6a : ∃ ob, evalList cxM (Y6.take 8) (p5B i D3 D4) = some (p6a i D3 D4, ob) ∧ ob.holds := fl_two (L := []) (by kernel_rfl) (by kernel_rfl) (by simp)
theorem p6e : eff Try.prog (opd (p6a i D3 D4).look) (opM Y6 8).op = some (.call 27 [i.D.at 0, .int .i64 fun _ => i.x.o, .int .i64 fun _ => i.x.s, .int .u64 fun _ => i.x.v.n]) := by kernel_rfl
theorem p6b : (p6a i D3 D4).hp 0 = some i.D.blk := by kernel_rfl
theorem p6n : (p6a i D3 D4).nt = 122 ∧ (p6a i D3 D4).lo = 1 ∧ (p6a i D3 D4).next = 5 := ⟨by kernel_rfl, by kernel_rfl, by kernel_rfl⟩
def enP : List (Nat × AV) := [(0, i.D.at 0), (3, .ptr 1 []), (5, D3.at 3), (6, (i.own D3).at 3), (7, eW (getV (i.g1 D3))), (8, eI (inE (i.g1 D3).pi)), (9, eW (getV i.g0)), (10, eI (inE i.g0.pi)), (11, D4.at 4), (12, eI 0#64)]
def hbP (D : SlD sB) : List (Nat × Option Blk) := (3, some D.blk) :: (4, some D4.blk) :: hbY1 i
theorem p6c : ((enP i D3 D4).map fun z => unlitM ((p6a i D3 D4).look z.1)) = (enP i D3 D4).map (·.2) := by kernel_rfl
theorem p6d : ((hbP i D4 (i.own D3)).map fun z => (p6a i D3 D4).hp z.1) = (hbP i D4 (i.own D3)).map (·.2) := by kernel_rfl
theorem enP_n : ((enP i D3 D4).all fun z => nltB 5 z.2) = true := by kernel_rfl
theorem hbP_n (D : SlD sB) : ((hbP i D4 D).all fun z => Nat.blt z.1 5 && match z.2 with | some B => nltB 5 B.v | none => true) = true := by kernel_rfl
variable (D5 : SlD sB)
noncomputable def p6B : St := outM (evalList cxM (Y6.drop 9) (bkSt (putT 5 D5) D5.blk 5 64 (enP i D3 D4) (hbP i D4 (i.own D3)) 122 1))
theorem epB6 : ∃ ob, evalList cxM (Y6.drop 9) (bkSt (putT 5 D5) D5.blk 5 64 (enP i D3 D4) (hbP i D4 (i.own D3)) 122 1) = some (p6B i D3 D4 D5, ob) ∧ ob.holds := fl_two (L := []) (by kernel_rfl) (by kernel_rfl) (by simp)
def enQ6 : List (Nat × AV) := enP i D3 D4 ++ [(13, D5.at 5), (14, eI 0#64)]
def hbQ6 (D : SlD sB) : List (Nat × Option Blk) := (3, some D.blk) :: (5, some D5.blk) :: (4, some D4.blk) :: hbY1 i
theorem q6c : ((enQ6 i D3 D4 D5).map fun z => unlitM ((p6B i D3 D4 D5).look z.1)) = (enQ6 i D3 D4 D5).map (·.2) := by kernel_rfl
theorem q6d : ((hbQ6 i D4 D5 (i.own D3)).map fun z => (p6B i D3 D4 D5).hp z.1) = (hbQ6 i D4 D5 (i.own D3)).map (·.2) := by kernel_rfl
theorem q6m : (p6B i D3 D4 D5).nt = 122 ∧ (p6B i D3 D4 D5).lo = 1 := ⟨by kernel_rfl, by kernel_rfl⟩
theorem enQ6_n : ((enQ6 i D3 D4 D5).all fun z => nltB 6 z.2) = true := by kernel_rfl
theorem hbQ6_n (D : SlD sB) : ((hbQ6 i D4 D5 D).all fun z => Nat.blt z.1 6 && match z.2 with | some B => nltB 6 B.v | none => true) = true := by kernel_rfl
def stQ6 : St := ⟨enQ6 i D3 D4 D5, fun _ => .un, hbQ6 i D4 D5 D3, fun _ => none, 6, 122, 1⟩
noncomputable def p7B : St := outM (evalList cxM Y7 (stQ6 i D3 D4 D5))
def obQ : List Prop := [D4.pre.length = D4.pre.length ∧ (lenZ [] (AV.int .i64 fun _ => lenB D4)).toNat ≤ D4.len, D5.pre.length = D5.pre.length ∧ (lenZ [] (AV.int .i64 fun _ => lenB D5)).toNat ≤ D5.len] ++ obD i D3
theorem epB7 (h : ∀ p ∈ obQ i D3 D4 D5, p) : ∃ ob, evalList cxM Y7 (stQ6 i D3 D4 D5) = some (p7B i D3 D4 D5, ob) ∧ ob.holds := fl_two (L := obQ i D3 D4 D5) (by kernel_rfl) (by kernel_rfl) h
theorem p7g : (p7B i D3 D4 D5).look 101 = .bool fun _ => bad7 i D3 (lenB D4) (lenB D5) (elB D4) (elB D5) 0#64 0#64 := by kernel_rfl
noncomputable def p9B : St := outM (evalList cxM Y9 (p7B i D3 D4 D5))
theorem epB9 (h : D4.len < 2 ^ 63) : ∃ ob, evalList cxM Y9 (p7B i D3 D4 D5) = some (p9B i D3 D4 D5, ob) ∧ ob.holds := fl_two (L := [0 ≤ toZ .i64 (BitVec.ofNat 64 D4.len)]) (by kernel_rfl) (by kernel_rfl) (len_ob h)
def enL9 (k : W) : List (Nat × AV) := [(0, i.D.at 0), (3, .ptr 1 []), (6, (i.own D3).at 3), (11, D4.at 4), (103, eI (lenB D4)), (104, eI k)]
def stL9 (k : W) : St := ⟨enL9 i D3 D4 k, fun _ => .un, hbP i D4 D3, fun _ => none, 5, 122, 1⟩
theorem p9c : ((enL9 i D3 D4 0#64).map fun z => unlitM ((p9B i D3 D4 D5).look z.1)) = (enL9 i D3 D4 0#64).map (·.2) := by kernel_rfl
theorem p9d : ((hbP i D4 D3).map fun z => (p9B i D3 D4 D5).hp z.1) = (hbP i D4 D3).map (·.2) := by kernel_rfl
theorem p9m : (p9B i D3 D4 D5).nt = 122 ∧ (p9B i D3 D4 D5).lo = 1 := ⟨by kernel_rfl, by kernel_rfl⟩
theorem enL9_n (k : W) : ((enL9 i D3 D4 k).all fun z => nltB 5 z.2) = true := by kernel_rfl
noncomputable def yl10 (k : W) : St := outM (evalList cxM Y10 (stL9 i D3 D4 k))
theorem eyl10 (k : W) : ∃ ob, evalList cxM Y10 (stL9 i D3 D4 k) = some (yl10 i D3 D4 k, ob) ∧ ob.holds := fl_two (L := []) (by kernel_rfl) (by kernel_rfl) (by simp)
theorem yl10g (k : W) : (yl10 i D3 D4 k).look 105 = .bool fun _ => ltB .i64 k (lenB D4) := by kernel_rfl
noncomputable def yl14 (k : W) : St := outM (evalList cxM Y14 (yl10 i D3 D4 k))
theorem eyl14 (k : W) (h : ∀ p ∈ ob14 i D3, p) : ∃ ob, evalList cxM Y14 (yl10 i D3 D4 k) = some (yl14 i D3 D4 k, ob) ∧ ob.holds := fl_two (L := ob14 i D3) (by kernel_rfl) (by kernel_rfl) h
theorem yl14l (k : W) : (yl14 i D3 D4 k).look 4 = .bool fun _ => true && sameStr (elB D3) (elB i.D) (lenB (i.own D3)) (lenB i.D) := by kernel_rfl
theorem yl14h (k : W) : (yl14 i D3 D4 k).hp 0 = some i.D.blk := by kernel_rfl
noncomputable def yl11 (k : W) : St := outM (evalList cxM Y11 (yl10 i D3 D4 k))
theorem eyl11 (k : W) : ∃ ob, evalList cxM Y11 (yl10 i D3 D4 k) = some (yl11 i D3 D4 k, ob) ∧ ob.holds := fl_two (L := []) (by kernel_rfl) (by kernel_rfl) (by simp)
noncomputable def yl12a (k : W) : St := outM (evalList cxM (Y12.take 6) (yl11 i D3 D4 k))
end
end Go.Rf

/- Memory: the law MemBytes: plain. -/
namespace Go.Rf
open Go.Proofs

section
variable (i : BI) (D3 D4 : SlD sB) (k : W)
def flip1 (D : SlD sB) (k : Nat) : B8 := elB D k ^^^ 1#8
def flipD (D : SlD sB) (k : Nat) : SlD sB := { D with els := fun j => if j = k then flip1 D k else D.els j }
def obF (D4 : SlD sB) (k : W) : List Prop := [0 ≤ toZ .i64 k ∧ toZ .i64 k < toZ .i64 (lenB D4), D4.pre.length = D4.pre.length, (toZ .i64 k).toNat < D4.len, 0 ≤ toZ .i64 k ∧ toZ .i64 k < toZ .i64 (lenB D4)]
theorem eyl12a (h : ∀ p ∈ obF D4 k, p) : ∃ ob, evalList cxM (Y12.take 6) (yl11 i D3 D4 k) = some (yl12a i D3 D4 k, ob) ∧ ob.holds := fl_two (L := obF D4 k) (by kernel_rfl) (by kernel_rfl) h
theorem Y12_eq : Y12 = Y12.take 6 ++ [opM Y12 6] := by kernel_rfl
theorem gY12 : noGd Y12 = true ∧ noGd (Y12.take 6) = true := ⟨by kernel_rfl, by kernel_rfl⟩
theorem yl12e : eff Try.prog (opd (yl12a i D3 D4 k).look) (opM Y12 6).op = some (.st 4 [.win D4.pre.length, .idx (toZ .i64 k).toNat 1] 5 (.int .u8 fun _ => flip1 D4 (toZ .i64 k).toNat)) := by kernel_rfl
theorem oY12 : (opM Y12 6).dst = none ∧ (opM Y12 6).guard = none := ⟨by kernel_rfl, by kernel_rfl⟩
theorem yl12b : (yl12a i D3 D4 k).hp 4 = some D4.blk := by kernel_rfl
variable (D4' : SlD sB)
noncomputable def yl13 : St := outM (evalList cxM Y13 ((yl12a i D3 D4 k).setB 4 D4'.blk))
theorem eyl13 : ∃ ob, evalList cxM Y13 ((yl12a i D3 D4 k).setB 4 D4'.blk) = some (yl13 i D3 D4 k D4', ob) ∧ ob.holds := fl_two (L := []) (by kernel_rfl) (by kernel_rfl) (by simp)
end
section
variable (i : BI) (D3 D4 : SlD sB) (k : W) (n : Nat)
theorem yl13c : ((enL9 i D3 (flipD D4 n) (k + 1#64)).map fun z => unlitM ((yl13 i D3 D4 k (flipD D4 n)).look z.1)) = (enL9 i D3 (flipD D4 n) (k + 1#64)).map (·.2) := by kernel_rfl
theorem yl13d : ((hbP i (flipD D4 n) D3).map fun z => (yl13 i D3 D4 k (flipD D4 n)).hp z.1) = (hbP i (flipD D4 n) D3).map (·.2) := by kernel_rfl
theorem yl13m : (yl13 i D3 D4 k (flipD D4 n)).nt = 122 ∧ (yl13 i D3 D4 k (flipD D4 n)).lo = 1 := ⟨by kernel_rfl, by kernel_rfl⟩
end
/-! What the states tell. -/
structure D3ok (i : BI) (D3 : SlD sB) : Prop where
  len : D3.len = i.D.len + 1
  els : ∀ j, j < i.D.len → elB D3 j = elB i.D j
  last : elB D3 i.D.len = 77#8
theorem sameStr_ok {f g : Nat → B8} {L M : W} (h1 : L = M) (h : ∀ j, j < (lenZ [] (.int .i64 fun _ => M)).toNat → f j = g j) : sameStr f g L M = true := by
  subst h1
  have e := bytesOf_congr (f := fun ix => f (List.headD ix 0)) (g := fun ix => g (List.headD ix 0)) (fun j hj => h j hj)
  exact beq_iff_eq.2 (congrArg ByteArray.toList e)
theorem valN_congr {b c : Nat → B8} : ∀ k F, (∀ j, j < k → b (F + j) = c (F + j)) → valN b F k = valN c F k
  | 0, F, _ => rfl
  | k + 1, F, h => by
    unfold valN
    have h0 : b F = c F := h 0 (by omega)
    have h1 : valN b (F + 1) k = valN c (F + 1) k := valN_congr k (F + 1) (fun j hj => by
      have q := h (j + 1) (by omega)
      rw [show F + 1 + j = F + (j + 1) by omega]; exact q)
    rw [h0, h1]
section
variable {i : BI} {D3 : SlD sB} (h : D3ok i D3) (hl : i.D.len ≤ 140737488355328)
include h hl
theorem own_same : sameStr (elB D3) (elB i.D) (lenB (i.own D3)) (lenB i.D) = true :=
  sameStr_ok rfl (fun j hj => h.els j (by rw [lenZ_lenB (by omega)] at hj; exact hj))
theorem own_get : getV (i.g1 D3) = getV i.g0 := by
  unfold getV
  by_cases h0 : inE i.g0.pi = 0#64
  · have h1 : inE (i.g1 D3).pi = 0#64 := h0
    rw [h0, h1]
    show getN (i.g1 D3) = getN i.g0
    rw [getN_val (i.g1 D3) (by show i.D.len < 2 ^ 62; omega) h1, getN_val i.g0 (by show i.D.len < 2 ^ 62; omega) h0]
    obtain ⟨k1, k2⟩ := inE_bad (x := i.g0.pi) (by show i.D.len < 2 ^ 62; omega) h0
    have k2' : i.x.o.toNat + i.x.s.toNat ≤ i.D.len := k2
    exact valN_congr _ _ (fun j hj => h.els _ (by
      have hj' : j < i.x.s.toNat := hj
      show i.x.o.toNat + j < _
      omega))
  · have h1 : inE (i.g1 D3).pi ≠ 0#64 := h0
    rw [show (inE (i.g1 D3).pi != 0#64) = true by simpa using h1, show (inE i.g0.pi != 0#64) = true by simpa using h0]
    rfl
theorem last_ok : elB D3 (toZ .i64 (lenB i.D)).toNat = 77#8 := by
  rw [toZ_lenB (by omega)]
  exact h.last
theorem badR_no : badR i D3 = false := by
  unfold badR
  rw [own_get h hl, own_same h hl, last_ok h hl, show inE (i.g1 D3).pi = inE i.g0.pi from rfl]
  simp
theorem putTo_own {D4 D5 : SlD sB} (h4 : PutD ⟨i.own D3, i.x.o, i.x.s, i.x.v.n⟩ D4) (h5 : RPutD ⟨i.D, i.x.o, i.x.s, i.x.v.n⟩ D5) : bad7 i D3 (lenB D4) (lenB D5) (elB D4) (elB D5) 0#64 0#64 = false := by
  have l4 : D4.len = i.D.len := h4.len
  have l5 : D5.len = i.D.len := h5.len
  have e4 : lenB D4 = lenB D5 := by unfold lenB; rw [l4, l5]
  have hs : sameStr (elB D4) (elB D5) (lenB D4) (lenB D5) = true := sameStr_ok e4 (fun j hj => by
    rw [lenZ_lenB (by omega), l5] at hj
    have a4 : elB D4 j = putTo ⟨i.own D3, i.x.o, i.x.s, i.x.v.n⟩ i.x.s.toNat j := congrFun h4.els j
    have a5 : elB D5 j = putTo ⟨i.D, i.x.o, i.x.s, i.x.v.n⟩ i.x.s.toNat j := h5.els j hj
    rw [a4, a5]
    unfold putTo
    show (if i.x.o.toNat ≤ j ∧ j < i.x.o.toNat + i.x.s.toNat then _ else elB D3 j) = (if i.x.o.toNat ≤ j ∧ j < i.x.o.toNat + i.x.s.toNat then _ else elB i.D j)
    rw [h.els j hj])
  unfold bad7
  rw [own_get h hl, own_same h hl, last_ok h hl, hs, show inE (i.g1 D3).pi = inE i.g0.pi from rfl]
  simp
end
end Go.Rf

/- Memory: the law MemBytes walked, where there are bytes. -/
namespace Go.Rf
open Go.Proofs

theorem entB8 (i : BI) (hl : i.D.len < 2 ^ 63) {b : Nat} {w : World} (hb : w.heap[b]? = some (.cells (cells E0 [] i.D.blk.v).toArray i.D.T i.D.fz)) : SRel (E1 b) w (b0S i) (enterActB (E1 b) Try.f8 (argB i)) w := by
  have hnt : Try.f8.ntmps = 122 := by kernel_rfl
  have h := enterB1 (fn := Try.f8) (args := argB i) (B := i.D.blk) (b := b) (w := w) (by rw [hnt]; show 2 ≤ 122; omega) (fun v hv => by
    simp only [argB, List.mem_cons, List.not_mem_nil, or_false] at hv
    rcases hv with rfl | rfl
    · exact (at_val (D := { i.D with b := b }) (n := 0) (E := E1 b) rfl hl).2
    · exact ok_of_pf _ _ (cAct.pf i.x)) (blk_cells (flatB.good _) (E1 b)).2 (by rw [(blk_cells (flatB.good _) (E1 b)).1]; exact hb)
  rw [hnt] at h
  exact h
theorem resY : Try.f8.results = #[.tmp 4] := by kernel_rfl
theorem retY (i : BI) {b : Nat} {w : World} (hb : w.heap[b]? = some (.cells (cells E0 [] i.D.blk.v).toArray i.D.T i.D.fz)) (st : St) {c : Bool} (f4 : st.look 4 = .bool fun _ => c) (hc : c = true) (g0 : st.hp 0 = some i.D.blk)
    {ae : Go.Act} {we : World} (hsg : SRel (E1 b) w st ae we) : bodyPost Try.prog Try.f8 (fun e w' => e = .returned (.bool true) ∧ RowKit.Below w.heap.size w w') .ret ae we := by
  obtain ⟨E, q1, q2, q3, q4, q5, q6, q7, q8, q9, q10⟩ := hsg
  obtain ⟨b0, s1, s2, s3⟩ := q4 0 _ g0
  have hb0 : E 0 = some b := q8.sub 0 b rfl
  obtain rfl : b0 = b := by rw [s1] at hb0; exact Option.some.inj hb0
  have e4 : ae.tmps.getD 4 undef = .bool true := by
    have q := q1 4
    rw [f4] at q
    have := q.2
    rw [hc] at this
    exact this.symm
  have hres : (results Try.f8 ae.tmps).run Try.prog we = .ok (ae.tmps.getD 4 undef) we := by
    rw [results_tmp (t := 4) resY]
  refine bodyPost_ret hres q3 ⟨by rw [e4], ⟨q8.os, q8.tape, q8.output, q8.size, fun k hk => ?_⟩⟩
  by_cases hkb : k = b0
  · subst hkb
    rw [s3, (blk_cells (flatB.good _) E).1, hb]
    rfl
  · refine q8.keep k hk (fun n hn => hkb ?_)
    unfold E1 at hn
    split at hn
    · simpa using hn.symm
    · cases hn
section
variable (i : BI) (hl : i.D.len ≤ 140737488355328) {b : Nat} {w : World} (hb : w.heap[b]? = some (.cells (cells E0 [] i.D.blk.v).toArray i.D.T i.D.fz))
include hl hb
/-- Behind the refusals. -/
noncomputable def tail9 : Code := .seq (.seq (.region 9 Y9.toArray false) (.block 0 (.loop rndYb))) (.seq (.region 14 Y14.toArray false) .ret)
noncomputable def tail7 : Code := .seq (.seq (.region 7 Y7.toArray false) (retIf 101 8 Y8)) tail9
theorem tailR {D3 : SlD sB} (h : D3ok i D3) {a : Go.Act} {w1 : World} (hs : SRel (E1 b) w (stR i D3) a w1) : tail7.wp Try.prog (bodyPost Try.prog Try.f8 fun e w' => e = .returned (.bool true) ∧ RowKit.Below w.heap.size w w') a w1 := by
  have hob := obD_hold (i := i) (D3 := D3) (by omega) h.len
  refine wp_seq (wp_seq (regM (err7 i D3 hob) hs fun a2 w2 hs2 => ?_))
  have hc := boolM (r7g i D3) hs2
  rw [badR_no h hl] at hc
  refine wp_cond_false hc (wp_skip ?_)
  show (Code.seq (.seq (.region 9 Y9.toArray false) (.block 0 (.loop rndYb))) _).wp Try.prog _ a2 w2
  refine wp_seq (wp_seq (regM (err9 i D3) hs2 fun a3 w3 hs3 => ?_))
  have hsN : SRel (E1 b) w (stR9 i D3) a3 w3 := norm_relM (kept_ofM (r9c i D3) (r9d i D3) (enR9_n i D3) (hbZ_n i D3) (by rw [(r9m i D3).2]; rfl)) (r9m i D3).1 (r9m i D3).2 hs3
  show (Code.block 0 (.loop rndYb)).wp Try.prog _ a3 w3
  refine wp_block (wp_loop_ix (fun _ a' w' => SRel (E1 b) w (stR9 i D3) a' w') (fun _ => 0) ?_ 0 a3 w3 hsN)
  intro n a4 w4 hs4
  refine wp_seq (regM (err10 i D3) hs4 fun a5 w5 hs5 => ?_)
  have hc2 := boolM (r10g i D3) hs5
  rw [show ltB .i64 0#64 0#64 = false from by decide] at hc2
  refine wp_seq (wp_cond_false hc2 (wp_exit ?_))
  show (Code.seq (.region 14 Y14.toArray false) .ret).wp Try.prog _ a5 w5
  refine wp_seq (regM (err14 i D3 (ob14_hold hob)) hs5 fun a6 w6 hs6 => ?_)
  refine wp_ret ?_
  exact retY i hb _ (r14l i D3) (by rw [own_same h hl]; rfl) (r14h i D3) hs6
theorem tailP {D3 D4 D5 : SlD sB} (h : D3ok i D3) (h4 : PutD ⟨i.own D3, i.x.o, i.x.s, i.x.v.n⟩ D4) (h5 : RPutD ⟨i.D, i.x.o, i.x.s, i.x.v.n⟩ D5) {a : Go.Act} {w1 : World} (hs : SRel (E1 b) w (stQ6 i D3 D4 D5) a w1) : tail7.wp Try.prog (bodyPost Try.prog Try.f8 fun e w' => e = .returned (.bool true) ∧ RowKit.Below w.heap.size w w') a w1 := by
  have hob := obD_hold (i := i) (D3 := D3) (by omega) h.len
  have l4 : D4.len = i.D.len := h4.len
  have l5 : D5.len = i.D.len := h5.len
  refine wp_seq (wp_seq (regM (epB7 i D3 D4 D5 (fun p hp => by
    unfold obQ at hp
    rcases List.mem_append.1 hp with hp | hp
    · rcases List.mem_cons.1 hp with rfl | hp
      · exact ⟨rfl, by rw [lenZ_lenB (by omega)]; exact Nat.le_refl _⟩
      · obtain rfl := List.mem_singleton.1 hp
        exact ⟨rfl, by rw [lenZ_lenB (by omega)]; exact Nat.le_refl _⟩
    · exact hob p hp)) hs fun a2 w2 hs2 => ?_))
  have hc := boolM (p7g i D3 D4 D5) hs2
  rw [putTo_own h hl h4 h5] at hc
  refine wp_cond_false hc (wp_skip ?_)
  show (Code.seq (.seq (.region 9 Y9.toArray false) (.block 0 (.loop rndYb))) _).wp Try.prog _ a2 w2
  refine wp_seq (wp_seq (regM (epB9 i D3 D4 D5 (by omega)) hs2 fun a3 w3 hs3 => ?_))
  have hsN : SRel (E1 b) w (stL9 i D3 D4 0#64) a3 w3 := norm_relM (kept_ofM (p9c i D3 D4 D5) (p9d i D3 D4 D5) (enL9_n i D3 D4 0#64) (hbP_n i D4 D3) (by rw [(p9m i D3 D4 D5).2]; rfl)) (p9m i D3 D4 D5).1 (p9m i D3 D4 D5).2 hs3
  show (Code.block 0 (.loop rndYb)).wp Try.prog _ a3 w3
  refine wp_block (wp_loop_ix (fun n a' w' => n ≤ i.D.len ∧ ∃ D : SlD sB, D.len = i.D.len ∧ D.fz = (0, 0) ∧ SRel (E1 b) w (stL9 i D3 D (BitVec.ofNat 64 n)) a' w') (fun n => i.D.len - n) ?_ 0 a3 w3 ⟨Nat.zero_le _, D4, l4, h4.fix.fz, hsN⟩)
  rintro n a4 w4 ⟨hn, D, hD, hfz, hs4⟩
  refine wp_seq (regM (eyl10 i D3 D _) hs4 fun a5 w5 hs5 => ?_)
  have hc2 := boolM (yl10g i D3 D (BitVec.ofNat 64 n)) hs5
  unfold lenB at hc2
  rw [ltB_ofNat (by omega) (by omega), hD] at hc2
  by_cases hlt : n < i.D.len
  · rw [decide_eq_true hlt] at hc2
    refine wp_seq (wp_cond_true hc2 (wp_skip ?_))
    have en : (BitVec.ofNat 64 n : W).toNat = n := ofNat_toNat (by omega)
    have ez : toZ .i64 (BitVec.ofNat 64 n) = n := by rw [toZ_nat (by rw [en]; omega), en]
    have ez' : (toZ .i64 (BitVec.ofNat 64 n)).toNat = n := by rw [ez]; rfl
    show (Code.seq (.block 1 (.seq (.region 11 Y11.toArray false) (.region 12 Y12.toArray false))) (.region 13 Y13.toArray false)).wp Try.prog _ a5 w5
    refine wp_seq (wp_block (wp_seq (regM (eyl11 i D3 D _) hs5 fun a6 w6 hs6 => ?_)))
    show (Code.region 12 Y12.toArray false).wp Try.prog _ a6 w6
    refine list_region (by simpa using gY12.1) ?_
    rw [List.toList_toArray, Y12_eq]
    refine wpList_app _ (noGd_spec gY12.2) _ _ ?_
    refine lstM gY12.2 (eyl12a i D3 D _ (fun p hp => by
      simp only [obF, List.mem_cons, List.not_mem_nil, or_false] at hp
      rcases hp with rfl | rfl | rfl | rfl
      · rw [ez, toZ_lenB (by omega), hD]; omega
      · trivial
      · rw [ez', hD]; exact hlt
      · rw [ez, toZ_lenB (by omega), hD]; omega)) hs6 fun a7 w7 hs7 => ⟨rfl, ?_⟩
    refine step_store flatB rfl hs7 oY12.2 (yl12e i D3 D _) oY12.1 (D := D) (yl12b i D3 D _) hfz (j := n) (by rw [hD]; exact hlt) (by rw [ez']; simp [offOf]) (flip1 D n) (fun E => by rw [ez']; rfl) s5s rfl ?_
    intro a8 w8 hs8
    refine wpList_nil ?_
    show (Code.region 13 Y13.toArray false).wp Try.prog _ a8 w8
    refine regM (eyl13 i D3 D _ (flipD D n)) hs8 fun a9 w9 hs9 => ?_
    have hsX := norm_relM (kept_ofM (yl13c i D3 D (BitVec.ofNat 64 n) n) (yl13d i D3 D (BitVec.ofNat 64 n) n) (enL9_n i D3 (flipD D n) _) (hbP_n i (flipD D n) D3) (by rw [(yl13m i D3 D (BitVec.ofNat 64 n) n).2]; rfl)) (yl13m i D3 D (BitVec.ofNat 64 n) n).1 (yl13m i D3 D (BitVec.ofNat 64 n) n).2 hs9
    rw [ofNat_succ] at hsX
    exact ⟨n + 1, ⟨by omega, flipD D n, hD, hfz, hsX⟩, by omega⟩
  · rw [decide_eq_false hlt] at hc2
    refine wp_seq (wp_cond_false hc2 (wp_exit ?_))
    show (Code.seq (.region 14 Y14.toArray false) .ret).wp Try.prog _ a5 w5
    refine wp_seq (regM (eyl14 i D3 D _ (ob14_hold hob)) hs5 fun a6 w6 hs6 => ?_)
    refine wp_ret ?_
    exact retY i hb _ (yl14l i D3 D _) (by rw [own_same h hl]; rfl) (yl14h i D3 D _) hs6
end
end Go.Rf

/- Memory: the law MemBytes walked from its beginning, where there are bytes. -/
namespace Go.Rf
open Go.Proofs

theorem flat77 : flatN sB 1 (fun _ => 77#8) = [.int .u8 (toZ .u8 77#8)] := by kernel_rfl
section
variable (i : BI) (hl : i.D.len ≤ 140737488351232) (hpos : 0 < i.D.len) {b : Nat} {w : World} (hb : w.heap[b]? = some (.cells (cells E0 [] i.D.blk.v).toArray i.D.T i.D.fz))
include hl hpos hb
noncomputable def tail2 : Code := .seq (.region 2 Y2.toArray false) (.seq (.region 3 Y3.toArray false) (.seq (.region 4 Y4.toArray false) (.seq (.region 5 Y5.toArray false) (.seq (.region 6 Y6.toArray false) tail7))))
theorem tailS {D3 : SlD sB} (h : D3ok i D3) (hfix : D3.Fix 5) {a : Go.Act} {w1 : World} (hs : SRel (E1 b) w (c1B i D3) a w1) : tail2.wp Try.prog (bodyPost Try.prog Try.f8 fun e w' => e = .returned (.bool true) ∧ RowKit.Below w.heap.size w w') a w1 := by
  have hl' : i.D.len ≤ 140737488355328 := by omega
  have hl2 : i.D.len < 2 ^ 62 := by omega
  have hle : i.D.len ≤ D3.len := by have := h.len; omega
  refine wp_seq (list_region (by simpa using gY2.1) ?_)
  rw [List.toList_toArray, Y2_eq]
  refine wpList_app _ (noGd_spec gY2.2.1) _ _ ?_
  refine lstM gY2.2.1 (ecB2a i D3 (by omega)) hs fun a2 w2 hs2 => ⟨rfl, ?_⟩
  have ez : toZ .i64 (BitVec.ofNat 64 i.D.len) = i.D.len := toZ_lenB (D := i.D) (by omega)
  refine step_sliceH hs2 oY2.2.2 oY2.1 oY2.2.1 (by rw [(c2x i D3).2.2]; omega) t57e t57s (c2x i D3).1 (c2x i D3).2.1 (by rw [ez]; omega) (by rw [ez]; have := hfix.le; omega) (len' := .int .i64 fun _ => BitVec.ofNat 64 i.D.len) (by
    rw [ez]
    exact lenZ_lenB (D := i.D) (by omega)) fun a3 w3 hs3 => ?_
  refine lstM gY2.2.2 (ecB2 i D3) hs3 fun a4 w4 hs4 => ?_
  have hkZ : KeptR (c2B i D3) 4 (enZ i D3) (hbZ i D3) := (kept_ofM (c2c i D3) (c2d i D3) (enZ_n i D3) (hbZ_n i D3) (by rw [(c2n i D3).2]; rfl)).toR
  have hsZ : SRel (E1 b) w (stZ i D3 (i.own D3)) a4 w4 := keptR_relM (hkZ.short hle (by kernel_rfl)) (c2n i D3).1 (c2n i D3).2 hs4
  show (Code.seq (.region 3 Y3.toArray false) _).wp Try.prog _ a4 w4
  refine wp_seq (list_region (by simpa using gY3.1) ?_)
  rw [List.toList_toArray, Y3_eq]
  refine wpList_app _ (noGd_spec gY3.2.1) _ _ ?_
  refine lstM gY3.2.1 (ecB3a i D3) hsZ fun a5 w5 hs5 => ⟨rfl, ?_⟩
  refine step_get hs5 (c3b i D3) (by show i.D.len < 2 ^ 62; omega) oY3.2 (c3e i D3) oY3.1 (by rw [c3n]; omega) fun a6 w6 hs6 => ?_
  refine lstM gY3.2.2 (ecB3 i D3) hs6 fun a7 w7 hs7 => ?_
  show (Code.seq (.region 4 Y4.toArray false) _).wp Try.prog _ a7 w7
  refine wp_seq (list_region (by simpa using gY4.1) ?_)
  rw [List.toList_toArray, Y4_eq]
  refine wpList_app _ (noGd_spec gY4.2.1) _ _ ?_
  refine lstM gY4.2.1 (ecB4a i D3) hs7 fun a8 w8 hs8 => ⟨rfl, ?_⟩
  refine step_rget hs8 (c4b i D3) hl2 oY4.2 (c4e i D3) oY4.1 (by rw [c4n]; omega) fun a9 w9 hs9 => ?_
  refine lstM gY4.2.2 (ecB4 i D3) hs9 fun aa wa hsa => ?_
  show (Code.seq (.region 5 Y5.toArray false) _).wp Try.prog _ aa wa
  refine wp_seq (list_region (by simpa using gY5.1) ?_)
  rw [List.toList_toArray, Y5_eq]
  refine wpList_app _ (noGd_spec gY5.2.1) _ _ ?_
  refine lstM gY5.2.1 (ecB5a i D3) hsa fun ab wb hsb => ⟨rfl, ?_⟩
  by_cases h0 : inE i.g0.pi = 0#64
  · have h0' : inE (i.g1 D3).pi = 0#64 := h0
    obtain ⟨k1, k2⟩ := inE_bad (x := i.g0.pi) hl2 h0
    have hx : PI.ok ⟨i.own D3, i.x.o, i.x.s, i.x.v.n⟩ := ⟨k1, k2, hl'⟩
    have hx0 : PI.ok ⟨i.D, i.x.o, i.x.s, i.x.v.n⟩ := ⟨k1, k2, hl'⟩
    have hk : KeptR (c5a i D3) (c5a i D3).next (enG i D3) (hbZ i (i.own D3)) := by
      rw [(c5n i D3).2.2]
      exact (kept_ofM (c5c i D3) (c5d i D3) (enG_n i D3) (hbZ_n i (i.own D3)) (by rw [(c5n i D3).2.1]; rfl)).toR
    refine step_put hsb (c5b i D3) hx oY5.2 (c5e i D3) oY5.1 (by rw [(c5n i D3).1]; omega) hk fun D4 ac wc h4 hsc => ?_
    rw [(c5n i D3).1, (c5n i D3).2.1, (c5n i D3).2.2] at hsc
    refine lstM gY5.2.2 (epB5 i D3 D4) hsc fun ad wd hsd => ?_
    show (Code.seq (.region 6 Y6.toArray false) _).wp Try.prog _ ad wd
    refine wp_seq (list_region (by simpa using gY6.1) ?_)
    rw [List.toList_toArray, Y6_eq]
    refine wpList_app _ (noGd_spec gY6.2.1) _ _ ?_
    refine lstM gY6.2.1 (epB6a i D3 D4) hsd fun ae we hse => ⟨rfl, ?_⟩
    have hk2 : KeptR (p6a i D3 D4) (p6a i D3 D4).next (enP i D3 D4) (hbP i D4 (i.own D3)) := by
      rw [(p6n i D3 D4).2.2]
      exact (kept_ofM (p6c i D3 D4) (p6d i D3 D4) (enP_n i D3 D4) (hbP_n i D4 (i.own D3)) (by rw [(p6n i D3 D4).2.1]; rfl)).toR
    refine step_rput hse (p6b i D3 D4) hx0 oY6.2 (p6e i D3 D4) oY6.1 (by rw [(p6n i D3 D4).1]; omega) hk2 fun D5 af wf h5 hsf => ?_
    rw [(p6n i D3 D4).1, (p6n i D3 D4).2.1, (p6n i D3 D4).2.2] at hsf
    refine lstM gY6.2.2 (epB6 i D3 D4 D5) hsf fun ag wg hsg => ?_
    have hkQ : KeptR (p6B i D3 D4 D5) 6 (enQ6 i D3 D4 D5) (hbQ6 i D4 D5 (i.own D3)) := (kept_ofM (q6c i D3 D4 D5) (q6d i D3 D4 D5) (enQ6_n i D3 D4 D5) (hbQ6_n i D4 D5 (i.own D3)) (by rw [(q6m i D3 D4 D5).2]; rfl)).toR
    have hsQ : SRel (E1 b) w (stQ6 i D3 D4 D5) ag wg := keptR_relM (KeptR.long (D := D3) (L := i.D.len) hle hkQ (by kernel_rfl)) (q6m i D3 D4 D5).1 (q6m i D3 D4 D5).2 hsg
    exact tailP i hl' hb h h4 h5 hsQ
  · have h0' : inE (i.g1 D3).pi ≠ 0#64 := h0
    refine step_putNo hsb (c5b i D3) (by show i.D.len < 2 ^ 62; omega) (off := i.x.o) (size := i.x.s) (v := i.x.v.n) h0' (fun E => rfl) oY5.2 (c5e i D3) oY5.1 (by rw [(c5n i D3).1]; omega) fun ac wc hsc => ?_
    refine lstM gY5.2.2 (err5 i D3) hsc fun ad wd hsd => ?_
    show (Code.seq (.region 6 Y6.toArray false) _).wp Try.prog _ ad wd
    refine wp_seq (list_region (by simpa using gY6.1) ?_)
    rw [List.toList_toArray, Y6_eq]
    refine wpList_app _ (noGd_spec gY6.2.1) _ _ ?_
    refine lstM gY6.2.1 (err6a i D3) hsd fun ae we hse => ⟨rfl, ?_⟩
    refine step_rputNo hse (r6b i D3) hl' (off := i.x.o) (size := i.x.s) (v := i.x.v.n) h0 oY6.2 (r6e i D3) oY6.1 (by rw [r6n]; omega) fun af wf hsf => ?_
    refine lstM gY6.2.2 (err6 i D3) hsf fun ag wg hsg => ?_
    have hkR : KeptR (r6B i D3) 4 (enR i D3) (hbZ i (i.own D3)) := (kept_ofM (r6c i D3) (r6d i D3) (enR_n i D3) (hbZ_n i (i.own D3)) (by rw [(r6m i D3).2]; rfl)).toR
    have hsR : SRel (E1 b) w (stR i D3) ag wg := keptR_relM (KeptR.long (D := D3) (L := i.D.len) hle hkR (by kernel_rfl)) (r6m i D3).1 (r6m i D3).2 hsg
    exact tailR i hl' hb h hsR
theorem calls8 : Calls Try.prog 8 ((argB i).map (val (E1 b))).toArray w fun e w' => e = .returned (.bool true) ∧ RowKit.Below w.heap.size w w' := by
  have hl' : i.D.len ≤ 140737488355328 := by omega
  refine calls_of_wp Try.func8 body8 ?_
  have hs0 := entB8 i (by omega) hb
  refine wp_seq (regM (eb1 i) hs0 fun a1 w1 hs1 => ?_)
  show (Code.seq (.region 1 Y1.toArray false) tail2).wp Try.prog _ a1 w1
  refine wp_seq (list_region (by simpa using gY1.1) ?_)
  rw [List.toList_toArray, Y1_eq]
  have hk1 : Kept (b1S i) (b1S i).next (enY1 i) (hbY1 i) := by
    rw [(b1a i).2.2]
    exact kept_ofM (b1e i) (b1f i) (enY1_n2 i) (hbY1_n2 i) (by rw [(b1a i).2.1]; rfl)
  refine step_build0 flatB hs1 oY1z.2.2 oY1z.1 oY1z.2.1 (by rw [(b1a i).1]; omega) hk1 inf5 (fun _ => 0#8) t57 i5a ?_
  intro D0 a2 w2 d1 d2 d3 hs2
  rw [(b1a i).1, (b1a i).2.1, (b1a i).2.2] at hs2
  refine wpList_app _ (noGd_spec gY1.2.1) _ _ ?_
  refine lstM gY1.2.1 (eb2 i D0) hs2 fun a3 w3 hs3 => ⟨rfl, ?_⟩
  have hk2 : Kept (b2S i D0) (b2S i D0).next (enY1 i) (hbY1 i) := by
    rw [(b2a i D0).2.2]
    exact kept_ofM (b2e i D0) (b2f i D0) (enY1_n i) (hbY1_n i) (by rw [(b2a i D0).2.1]; rfl)
  refine step_append_row flatB hs3 oY1a.2.2 oY1a.1 oY1a.2.1 (by rw [(b2a i D0).1]; omega) (n := 2) (p0 := [.win D0.pre.length]) (l0 := .int .i64 fun _ => BitVec.ofNat 64 D0.len) (by rw [b2c, ← d3]; rfl) (by rw [d1.pre]; rfl) (by
    have := lenZ_lenB (D := D0) (by omega)
    rw [d2] at this
    exact (lenZ_lenB (D := D0) (by omega)).trans d2) (D := i.D) (m := 0) (b2d i D0).1 (b2d i D0).2 hpos (oneB _ _) hk2 inf5 (.int .u8 0) t57 i5a i5b i5c rfl (by rw [i5d]; omega) hl' ?_
  intro D1 a4 w4 e1 e2 e3 hs4
  rw [(b2a i D0).1, (b2a i D0).2.1, (b2a i D0).2.2] at hs4
  refine wpList_app _ (noGd_spec gY1.2.2.1) _ _ ?_
  refine lstM gY1.2.2.1 (eb3 i D1) hs4 fun a5 w5 hs5 => ⟨rfl, ?_⟩
  have hk3 : Kept (b3S i D1) 3 (enY1 i) (hbY1 i) := kept_ofM (b3f i D1) (b3g i D1) (enY1_n i) (hbY1_n i) (by rw [(b3a i D1).2]; rfl)
  refine step_append flatB hs5 oY1b.2.2 oY1b.1 oY1b.2.1 (by rw [(b3a i D1).1]; omega) (D := D1) (n := 3) (b3b i D1).1 (b3b i D1).2 e1 (m := 4) (k := 1) (c := 1) (B2 := bk77 i D1) (ys := fun _ => 77#8) (b3c i D1) (b3d i D1).1 (b3d i D1).2 (fun E => (b3e i D1 E).trans flat77.symm) hk3 inf5 (.int .u8 0) t57 i5a i5b i5c rfl (by rw [i5d, e2]; omega) (by rw [e2]; omega) ?_
  intro D3 a6 w6 f1 f2 f3 hs6
  rw [(b3a i D1).1, (b3a i D1).2] at hs6
  refine lstM gY1.2.2.2 (ecB1 i D3) hs6 fun a7 w7 hs7 => ?_
  refine tailS i hl hpos hb ⟨by rw [f2, e2], fun j hj => ?_, ?_⟩ f1 hs7
  · have : D3.els j = D1.els j := (congrFun f3 j).trans (if_pos (by omega))
    show D3.els j = i.D.els j
    rw [this, e3]
  · show D3.els i.D.len = 77#8
    exact (congrFun f3 _).trans (if_neg (by omega))
end
end Go.Rf

/- Memory: the document's Get and Put of no bytes. -/
namespace Go.Rf
open Go.Proofs

/-- Nothing is appended. -/
theorem step_append_none {P : Program} {Es : Env} {ws : World} {st : St} {a : Go.Act} {w : World} (hs : SRel Es ws st a w) {o : Oper} {rest : List Oper} {Q : Exit → Go.Act → World → Prop} (hgd : o.guard = none) {s x : Nat} {t te : TypeId}
    (ho : o.op = .call { callee := .builtin .append, args := #[.tmp s, .tmp x], argTypes := #[t, t] }) {dst : Nat} (hd : o.dst = some dst) (hdst : dst < st.nt)
    {n : Nat} {p0 : List Stp} {l0 : AV} {c0 : Nat} (hsv : st.look s = .slc n p0 l0 c0) (hl0 : (lenZ [] l0).toNat ≤ c0) {ao : Option Addr} {cap : Nat} (hxv : st.look x = .vsl ao cap) (i : TypeInfo) (ht : P.underlying t = some (.slice te)) (hi : P.info? te = some i)
    (hK : ∀ a' w', SRel Es ws (st.setT dst (.slc n p0 l0 c0)) a' w' → wpList P #[] Q rest a' w') : wpList P #[] Q (o :: rest) a w := by
  refine wpList_plain hgd fun K hKK => ?_
  obtain ⟨E, h1, _⟩ := id hs
  obtain ⟨b, b1, hsval⟩ := val_slc_run (by have := h1 s; rwa [hsv] at this)
  have hxval : a.eval (.tmp x) = .slice ao 0 cap := by
    have q := h1 x
    rw [hxv] at q
    exact q.2.symm
  have hsval' : a.eval (.tmp s) = .slice (some ⟨b, offOf p0, none⟩) (lenZ [] l0).toNat c0 := hsval
  unfold Oper.wp execOp
  simp only [ho, resolve, invoke, builtin, Sem.run_bind, Sem.run_pure, Result.andThen_ok, List.map_toArray, List.map_cons, List.map_nil, hsval', hxval]
  have hr : (Builtin.append_ #[t, t] o.type #[.slice (some ⟨b, offOf p0, none⟩) (lenZ [] l0).toNat c0, .slice ao 0 cap]).run P w = .ok (.slice (some ⟨b, offOf p0, none⟩) (lenZ [] l0).toNat c0) w := by
    cases ao <;> simp [Builtin.append_, run_underlying ht, sizeOf, typeInfo, hi, Builtin.lenOf, hl0, storeCells, Builtin.firstCells, loadCells, loadCellsFrom]
  rw [hr]
  simp only [Result.andThen_ok, Oper.upon_value]
  refine hKK _ _ (hK _ _ ?_)
  rw [hd]
  refine tmp_set hs hdst _ _ fun E' h1' => ?_
  have q := h1' s
  rw [hsv] at q
  obtain ⟨b', b1', hv'⟩ := val_slc_run q
  refine ⟨q.1, ?_⟩
  rw [q.2]
  exact hsval
section
variable (x : ZI)
noncomputable def zr0 : St := St.enter (argZ x) (fun _ => none) 0 43
noncomputable def zr1 : St := outM (evalList cxM F0 (zr0 x))
noncomputable def zr2 : St := outM (evalList cxM F1 (zr1 x))
noncomputable def zrA : St := outM (evalList cxM F2 (zr2 x))
noncomputable def zr3 : St := outM (evalList cxM F3 (zr2 x))
noncomputable def zrB : St := outM (evalList cxM F4 (zr3 x))
def outZ (x : ZI) : Bool := ltB .i64 x.off 0#64 || ltB .i64 (0#64 - x.size) x.off
theorem ezr1 : ∃ ob, evalList cxM F0 (zr0 x) = some (zr1 x, ob) ∧ ob.holds := fl_two (L := []) (by kernel_rfl) (by kernel_rfl) (by simp)
theorem ezr2 : ∃ ob, evalList cxM F1 (zr1 x) = some (zr2 x, ob) ∧ ob.holds := fl_two (L := []) (by kernel_rfl) (by kernel_rfl) (by simp)
theorem zr2g : (zr2 x).look 13 = .bool fun _ => !(sizeB x.size) := by kernel_rfl
theorem ezrA : ∃ ob, evalList cxM F2 (zr2 x) = some (zrA x, ob) ∧ ob.holds := fl_two (L := []) (by kernel_rfl) (by kernel_rfl) (by simp)
theorem zrAa : (zrA x).look 6 = .lit .u64 0 ∧ (zrA x).look 7 = .lit .i64 1 := ⟨by kernel_rfl, by kernel_rfl⟩
theorem ezr3 : ∃ ob, evalList cxM F3 (zr2 x) = some (zr3 x, ob) ∧ ob.holds := fl_two (L := []) (by kernel_rfl) (by kernel_rfl) (by simp)
theorem zr3g : (zr3 x).look 23 = .bool fun _ => outZ x := by kernel_rfl
theorem ezrB : ∃ ob, evalList cxM F4 (zr3 x) = some (zrB x, ob) ∧ ob.holds := fl_two (L := []) (by kernel_rfl) (by kernel_rfl) (by simp)
theorem zrBa : (zrB x).look 6 = .lit .u64 0 ∧ (zrB x).look 7 = .lit .i64 42 := ⟨by kernel_rfl, by kernel_rfl⟩
noncomputable def zh0 (n : W) : St := St.enter (argZ x ++ [eW n]) (fun _ => none) 0 56
noncomputable def zh1 (n : W) : St := outM (evalList cxM H0 (zh0 x n))
noncomputable def zh2 (n : W) : St := outM (evalList cxM H1 (zh1 x n))
noncomputable def zhA (n : W) : St := outM (evalList cxM [opM H2 1] ((zh2 x n).setT 8 (.vsl none 0)))
noncomputable def zh3 (n : W) : St := outM (evalList cxM H3 (zh2 x n))
noncomputable def zhB (n : W) : St := outM (evalList cxM [opM H4 1] ((zh3 x n).setT 8 (.vsl none 0)))
theorem ezh1 (n : W) : ∃ ob, evalList cxM H0 (zh0 x n) = some (zh1 x n, ob) ∧ ob.holds := fl_two (L := []) (by kernel_rfl) (by kernel_rfl) (by simp)
theorem ezh2 (n : W) : ∃ ob, evalList cxM H1 (zh1 x n) = some (zh2 x n, ob) ∧ ob.holds := fl_two (L := []) (by kernel_rfl) (by kernel_rfl) (by simp)
theorem zh2g (n : W) : (zh2 x n).look 15 = .bool fun _ => !(sizeB x.size) := by kernel_rfl
theorem zh2n (n : W) : (zh2 x n).nt = 56 := by kernel_rfl
theorem ezhA (n : W) : ∃ ob, evalList cxM [opM H2 1] ((zh2 x n).setT 8 (.vsl none 0)) = some (zhA x n, ob) ∧ ob.holds := fl_two (L := []) (by kernel_rfl) (by kernel_rfl) (by simp)
theorem zhAa (n : W) : (zhA x n).look 8 = .vsl none 0 ∧ (zhA x n).look 9 = .lit .i64 1 := ⟨by kernel_rfl, by kernel_rfl⟩
theorem ezh3 (n : W) : ∃ ob, evalList cxM H3 (zh2 x n) = some (zh3 x n, ob) ∧ ob.holds := fl_two (L := []) (by kernel_rfl) (by kernel_rfl) (by simp)
theorem zh3g (n : W) : (zh3 x n).look 25 = .bool fun _ => outZ x := by kernel_rfl
theorem zh3n (n : W) : (zh3 x n).nt = 56 := by kernel_rfl
theorem ezhB (n : W) : ∃ ob, evalList cxM [opM H4 1] ((zh3 x n).setT 8 (.vsl none 0)) = some (zhB x n, ob) ∧ ob.holds := fl_two (L := []) (by kernel_rfl) (by kernel_rfl) (by simp)
theorem zhBa (n : W) : (zhB x n).look 8 = .vsl none 0 ∧ (zhB x n).look 9 = .lit .i64 42 := ⟨by kernel_rfl, by kernel_rfl⟩
end
theorem outZ_yes {x : ZI} (hs : sizeB x.size = true) : outZ x = true := by
  have h := inZ_bad x
  unfold inZ at h
  rw [hs] at h
  cases ho : outZ x with
  | true => rfl
  | false =>
    have ho' : (ltB .i64 x.off 0#64 || ltB .i64 (0#64 - x.size) x.off) = false := ho
    rw [ho'] at h
    exact absurd rfl h
theorem inZ_one {x : ZI} (hs : sizeB x.size = false) : inZ x = 1#64 := by unfold inZ; rw [hs]; rfl
theorem inZ_42 {x : ZI} (hs : sizeB x.size = true) : inZ x = 42#64 := by
  have h := outZ_yes hs
  unfold outZ at h
  unfold inZ; rw [hs, h]; rfl
/-- At a return of two values, nothing known of blocks. -/
theorem retTwo0 {fn : Func} {t u : Nat} (hres : fn.results = #[.tmp t, .tmp u]) {w : World} (st : St) {p' q' : AV} {p q : Value} (f6 : st.look t = p') (f7 : st.look u = q') (hp : ∀ E y, TRel E p' y → y = p) (hq : ∀ E y, TRel E q' y → y = q) {ae : Go.Act} {we : World}
    (hsg : SRel E0 w st ae we) : bodyPost Try.prog fn (fun e w' => e = .returned (.tuple #[p, q]) ∧ RowKit.Below w.heap.size w w') .ret ae we := by
  obtain ⟨E, q1, q2, q3, q4, q5, q6, q7, q8, q9, q10⟩ := hsg
  have h6 := q1 t
  have h7 := q1 u
  rw [f6] at h6
  rw [f7] at h7
  exact bodyPost_ret (results_two (t := t) (u := u) hres _ _ _) q3 ⟨by rw [hp E _ h6, hq E _ h7], q8.below⟩
theorem tlit {k : IntKind} {n : Int} (E : Env) (y : Value) (hy : TRel E (.lit k n) y) : y = .int k n := hy.2.symm
theorem tvsl (E : Env) (y : Value) (hy : TRel E (.vsl none 0) y) : y = .slice none 0 0 := hy.2.symm
theorem callsRGetZ (x : ZI) (w : World) : Calls Try.prog 25 ((argZ x).map (val E0)).toArray w (fun e w' => e = .returned (getZ x) ∧ RowKit.Below w.heap.size w w') := by
  refine calls_of_wp Try.func25 body25 ?_
  have hnt : Try.f25.ntmps = 43 := by kernel_rfl
  have hs0 := enter0 (P := Try.prog) (fn := Try.f25) (args := argZ x) (by rw [hnt]; show 3 ≤ 43; omega) (fun v hv => by
    simp only [argZ, List.mem_cons, List.not_mem_nil, or_false] at hv
    rcases hv with rfl | rfl | rfl <;> trivial) w
  rw [hnt] at hs0
  refine wp_seq (regM (ezr1 x) hs0 fun a1 w1 hs1 => ?_)
  show (Code.seq (.seq (.region 1 F1.toArray false) (retIf 13 2 F2)) _).wp Try.prog _ a1 w1
  refine wp_seq (wp_seq (regM (ezr2 x) hs1 fun a2 w2 hs2 => ?_))
  have hc := boolM (zr2g x) hs2
  cases hs : sizeB x.size with
  | false =>
    rw [hs] at hc
    refine wp_cond_true hc ?_
    refine wp_seq (regM (ezrA x) hs2 fun a3 w3 hs3 => ?_)
    refine wp_ret ?_
    have ea : getZ x = .tuple #[.int .u64 0, .int .i64 1] := by unfold getZ; rw [inZ_one hs]; rfl
    rw [ea]
    exact retTwo0 resR (zrA x) (zrAa x).1 (zrAa x).2 tlit tlit hs3
  | true =>
    rw [hs] at hc
    refine wp_cond_false hc (wp_skip ?_)
    show (Code.seq (.seq (.region 3 F3.toArray false) (retIf 23 4 F4)) _).wp Try.prog _ a2 w2
    refine wp_seq (wp_seq (regM (ezr3 x) hs2 fun a3 w3 hs3 => ?_))
    have hc2 := boolM (zr3g x) hs3
    rw [outZ_yes hs] at hc2
    refine wp_cond_true hc2 ?_
    refine wp_seq (regM (ezrB x) hs3 fun a4 w4 hs4 => ?_)
    refine wp_ret ?_
    have ea : getZ x = .tuple #[.int .u64 0, .int .i64 42] := by unfold getZ; rw [inZ_42 hs]; rfl
    rw [ea]
    exact retTwo0 resR (zrB x) (zrBa x).1 (zrBa x).2 tlit tlit hs4
def putZ (x : ZI) : Value := .tuple #[.slice none 0 0, .int .i64 (toZ .i64 (inZ x))]
theorem callsRPutZ (x : ZI) (n : W) (w : World) : Calls Try.prog 27 ((argZ x ++ [eW n]).map (val E0)).toArray w (fun e w' => e = .returned (putZ x) ∧ RowKit.Below w.heap.size w w') := by
  refine calls_of_wp Try.func27 body27 ?_
  have hnt : Try.f27.ntmps = 56 := by kernel_rfl
  have hs0 := enter0 (P := Try.prog) (fn := Try.f27) (args := argZ x ++ [eW n]) (by rw [hnt]; show 4 ≤ 56; omega) (fun v hv => by
    simp only [argZ, List.cons_append, List.nil_append, List.mem_cons, List.not_mem_nil, or_false] at hv
    rcases hv with rfl | rfl | rfl | rfl <;> trivial) w
  rw [hnt] at hs0
  refine wp_seq (regM (ezh1 x n) hs0 fun a1 w1 hs1 => ?_)
  show (Code.seq (.seq (.region 1 H1.toArray false) (retIf 15 2 H2)) _).wp Try.prog _ a1 w1
  refine wp_seq (wp_seq (regM (ezh2 x n) hs1 fun a2 w2 hs2 => ?_))
  have hc := boolM (zh2g x n) hs2
  cases hs : sizeB x.size with
  | false =>
    rw [hs] at hc
    refine wp_cond_true hc ?_
    refine wp_seq (list_region (by simpa using gH2.1) ?_)
    rw [List.toList_toArray, H2_eq]
    refine step_nilM hs2 oH2.2.2 oH2.1 oH2.2.1 (by rw [zh2n]; omega) fun a3 w3 hs3 => ?_
    refine lstM gH2.2 (ezhA x n) hs3 fun a4 w4 hs4 => ?_
    refine wp_ret ?_
    have ea : putZ x = .tuple #[.slice none 0 0, .int .i64 1] := by unfold putZ; rw [inZ_one hs]; rfl
    rw [ea]
    exact retTwo0 resH (zhA x n) (zhAa x n).1 (zhAa x n).2 tvsl tlit hs4
  | true =>
    rw [hs] at hc
    refine wp_cond_false hc (wp_skip ?_)
    show (Code.seq (.seq (.region 3 H3.toArray false) (retIf 25 4 H4)) _).wp Try.prog _ a2 w2
    refine wp_seq (wp_seq (regM (ezh3 x n) hs2 fun a3 w3 hs3 => ?_))
    have hc2 := boolM (zh3g x n) hs3
    rw [outZ_yes hs] at hc2
    refine wp_cond_true hc2 ?_
    refine wp_seq (list_region (by simpa using gH4.1) ?_)
    rw [List.toList_toArray, H4_eq]
    refine step_nilM hs3 oH4.2.2 oH4.1 oH4.2.1 (by rw [zh3n]; omega) fun a4 w4 hs4 => ?_
    refine lstM gH4.2 (ezhB x n) hs4 fun a5 w5 hs5 => ?_
    refine wp_ret ?_
    have ea : putZ x = .tuple #[.slice none 0 0, .int .i64 42] := by unfold putZ; rw [inZ_42 hs]; rfl
    rw [ea]
    exact retTwo0 resH (zhB x n) (zhBa x n).1 (zhBa x n).2 tvsl tlit hs5
end Go.Rf

/- Memory: the law MemBytes walked, where there are no bytes. -/
namespace Go.Rf
open Go.Proofs

theorem below_wp {e : Ending} {w w' : World} {P : Ending → World → Prop} : P e w' → P e w' := id
theorem step_rgetZ {Es : Env} {ws : World} {st : St} {a : Go.Act} {w : World} (hs : SRel Es ws st a w) (x : ZI) {o : Oper} {rest : List Oper} {Q : Exit → Go.Act → World → Prop}
    (hgd : o.guard = none) (hev : eff Try.prog (opd st.look) o.op = some (.call 25 [.vsl x.ao x.cap, .int .i64 fun _ => x.off, .int .i64 fun _ => x.size])) {dst : Nat} (hd : o.dst = some dst) (hdst : dst < st.nt)
    (hK : ∀ a' w', SRel Es ws (st.setT dst (getZT x)) a' w' → wpList Try.prog #[] Q rest a' w') : wpList Try.prog #[] Q (o :: rest) a w := by
  refine wpList_plain hgd fun K hKK => ?_
  obtain ⟨E, h1, h2, h3, h4, h5, h6, h7, h8, h9, h10⟩ := id hs
  obtain ⟨_, hr⟩ := eff_run hev E a (fun x _ => opd_st h1 x)
  unfold Oper.wp
  rw [hr w, Oper.upon_enter]
  have hc := callsRGetZ x w
  have ea : ([.vsl x.ao x.cap, .int .i64 fun _ => x.off, .int .i64 fun _ => x.size].map (val E)) = (argZ x).map (val E0) := rfl
  rw [ea]
  refine hc.mono ?_
  rintro e w' ⟨rfl, hbel⟩
  refine hKK _ _ (hK _ w' ?_)
  rw [hd]
  exact tmp_set (below_rel hs hbel) hdst _ _ (fun E' _ => ⟨⟨trivial, trivial, trivial⟩, rfl⟩)
theorem step_rputZ {Es : Env} {ws : World} {st : St} {a : Go.Act} {w : World} (hs : SRel Es ws st a w) (x : ZI) (n : W) {o : Oper} {rest : List Oper} {Q : Exit → Go.Act → World → Prop}
    (hgd : o.guard = none) (hev : eff Try.prog (opd st.look) o.op = some (.call 27 [.vsl x.ao x.cap, .int .i64 fun _ => x.off, .int .i64 fun _ => x.size, .int .u64 fun _ => n])) {dst : Nat} (hd : o.dst = some dst) (hdst : dst < st.nt)
    (hK : ∀ a' w', SRel Es ws (st.setT dst (noT (inZ x))) a' w' → wpList Try.prog #[] Q rest a' w') : wpList Try.prog #[] Q (o :: rest) a w := by
  refine wpList_plain hgd fun K hKK => ?_
  obtain ⟨E, h1, h2, h3, h4, h5, h6, h7, h8, h9, h10⟩ := id hs
  obtain ⟨_, hr⟩ := eff_run hev E a (fun x _ => opd_st h1 x)
  unfold Oper.wp
  rw [hr w, Oper.upon_enter]
  have hc := callsRPutZ x n w
  have ea : ([.vsl x.ao x.cap, .int .i64 fun _ => x.off, .int .i64 fun _ => x.size, .int .u64 fun _ => n].map (val E)) = (argZ x ++ [eW n]).map (val E0) := rfl
  rw [ea]
  refine hc.mono ?_
  rintro e w' ⟨rfl, hbel⟩
  refine hKK _ _ (hK _ w' ?_)
  rw [hd]
  exact tmp_set (below_rel hs hbel) hdst _ _ (fun E' _ => ⟨⟨trivial, trivial, trivial⟩, rfl⟩)
structure VB where
  ao : Option Addr
  cap : Nat
  x : Act
def argV (i : VB) : List AV := [.vsl i.ao i.cap, eAct i.x]
def VB.z (i : VB) : ZI := ⟨i.ao, i.cap, i.x.o, i.x.s⟩
section
variable (i : VB)
noncomputable def v0B : St := St.enter (argV i) (fun _ => none) 0 122
noncomputable def v1B : St := outM (evalList cxM Y0 (v0B i))
def enV : List (Nat × AV) := [(0, .vsl i.ao i.cap), (3, .ptr 0 [])]
def hbV : List (Nat × Option Blk) := [(0, some ⟨45, eAct i.x⟩)]
theorem ev1B : ∃ ob, evalList cxM Y0 (v0B i) = some (v1B i, ob) ∧ ob.holds := fl_two (L := []) (by kernel_rfl) (by kernel_rfl) (by simp)
theorem v1a : (v1B i).nt = 122 ∧ (v1B i).lo = 0 ∧ (v1B i).next = 1 := ⟨by kernel_rfl, by kernel_rfl, by kernel_rfl⟩
theorem v1e : ((enV i).map fun z => unlitM ((v1B i).look z.1)) = (enV i).map (·.2) := by kernel_rfl
theorem v1f : ((hbV i).map fun z => (v1B i).hp z.1) = (hbV i).map (·.2) := by kernel_rfl
theorem enV_n1 : ((enV i).all fun z => nltB 1 z.2) = true := by kernel_rfl
theorem hbV_n1 : ((hbV i).all fun z => Nat.blt z.1 1 && match z.2 with | some B => nltB 1 B.v | none => true) = true := by kernel_rfl
section
variable (D0 : SlD sB)
noncomputable def v2B : St := outM (evalList cxM ((Y1.drop 1).take 1) (slSt D0 1 16 (enV i) (hbV i) 122 0))
theorem ev2B : ∃ ob, evalList cxM ((Y1.drop 1).take 1) (slSt D0 1 16 (enV i) (hbV i) 122 0) = some (v2B i D0, ob) ∧ ob.holds := fl_two (L := []) (by kernel_rfl) (by kernel_rfl) (by simp)
theorem v2x : (v2B i D0).look 16 = D0.at 1 ∧ (v2B i D0).look 17 = .vsl i.ao i.cap ∧ (v2B i D0).nt = 122 := ⟨by kernel_rfl, by kernel_rfl, by kernel_rfl⟩
noncomputable def v3B : St := outM (evalList cxM ((Y1.drop 3).take 1) ((v2B i D0).setT 18 (D0.at 1)))
theorem ev3B : ∃ ob, evalList cxM ((Y1.drop 3).take 1) ((v2B i D0).setT 18 (D0.at 1)) = some (v3B i D0, ob) ∧ ob.holds := fl_two (L := []) (by kernel_rfl) (by kernel_rfl) (by simp)
theorem v3a : (v3B i D0).nt = 122 ∧ (v3B i D0).lo = 0 := ⟨by kernel_rfl, by kernel_rfl⟩
theorem v3b : (v3B i D0).look 18 = D0.at 1 ∧ (v3B i D0).hp 1 = some D0.blk := ⟨by kernel_rfl, by kernel_rfl⟩
theorem v3c : (v3B i D0).look 19 = .slc 2 [] (.lit .i64 (1 : Nat)) 1 := by kernel_rfl
noncomputable def vk77 : Blk := ((v3B i D0).hp 2).getD ⟨0, .un⟩
theorem v3d : (v3B i D0).hp 2 = some (vk77 i D0) ∧ noRaw (vk77 i D0).v = true := ⟨by kernel_rfl, by kernel_rfl⟩
theorem v3e (E : Env) : cells E [] (vk77 i D0).v = [.int .u8 (toZ .u8 77#8)] := by kernel_rfl
theorem v3f : ((enV i).map fun z => unlitM ((v3B i D0).look z.1)) = (enV i).map (·.2) := by kernel_rfl
theorem v3g : ((hbV i).map fun z => (v3B i D0).hp z.1) = (hbV i).map (·.2) := by kernel_rfl
end
variable (D3 : SlD sB)
noncomputable def vc1 : St := outM (evalList cxM (Y1.drop 5) (slSt D3 1 20 (enV i) (hbV i) 122 0))
theorem evc1 : ∃ ob, evalList cxM (Y1.drop 5) (slSt D3 1 20 (enV i) (hbV i) 122 0) = some (vc1 i D3, ob) ∧ ob.holds := fl_two (L := []) (by kernel_rfl) (by kernel_rfl) (by simp)
noncomputable def vc2a : St := outM (evalList cxM (Y2.take 3) (vc1 i D3))
theorem evc2a : ∃ ob, evalList cxM (Y2.take 3) (vc1 i D3) = some (vc2a i D3, ob) ∧ ob.holds := fl_two (L := []) (by kernel_rfl) (by kernel_rfl) (by simp)
def enV2 : List (Nat × AV) := [(0, .vsl i.ao i.cap), (3, .ptr 0 []), (5, D3.at 1), (21, D3.at 1), (23, eI 0#64)]
def hbV2 (D : SlD sB) : List (Nat × Option Blk) := (1, some D.blk) :: hbV i
def stV2 : St := ⟨enV2 i D3, fun _ => .un, hbV2 i D3, fun _ => none, 2, 122, 0⟩
theorem vc2m : (vc2a i D3).nt = 122 ∧ (vc2a i D3).lo = 0 := ⟨by kernel_rfl, by kernel_rfl⟩
theorem vc2c : ((enV2 i D3).map fun z => unlitM ((vc2a i D3).look z.1)) = (enV2 i D3).map (·.2) := by kernel_rfl
theorem vc2d : ((hbV2 i D3).map fun z => (vc2a i D3).hp z.1) = (hbV2 i D3).map (·.2) := by kernel_rfl
theorem enV2_n : ((enV2 i D3).all fun z => nltB 2 z.2) = true := by kernel_rfl
theorem hbV2_n (D : SlD sB) : ((hbV2 i D).all fun z => Nat.blt z.1 2 && match z.2 with | some B => nltB 2 B.v | none => true) = true := by kernel_rfl
def ownV (D3 : SlD sB) : SlD sB := shortD D3 0
noncomputable def vc2B : St := outM (evalList cxM (Y2.drop 4) ((stV2 i D3).setT 24 ((ownV D3).at 1)))
theorem evc2B : ∃ ob, evalList cxM (Y2.drop 4) ((stV2 i D3).setT 24 ((ownV D3).at 1)) = some (vc2B i D3, ob) ∧ ob.holds := fl_two (L := []) (by kernel_rfl) (by kernel_rfl) (by simp)
def enVZ : List (Nat × AV) := [(0, .vsl i.ao i.cap), (3, .ptr 0 []), (5, D3.at 1), (6, (ownV D3).at 1)]
def stVZ (D : SlD sB) : St := ⟨enVZ i D3, fun _ => .un, hbV2 i D, fun _ => none, 2, 122, 0⟩
theorem vzm : (vc2B i D3).nt = 122 ∧ (vc2B i D3).lo = 0 := ⟨by kernel_rfl, by kernel_rfl⟩
theorem vzc : ((enVZ i D3).map fun z => unlitM ((vc2B i D3).look z.1)) = (enVZ i D3).map (·.2) := by kernel_rfl
theorem vzd : ((hbV2 i D3).map fun z => (vc2B i D3).hp z.1) = (hbV2 i D3).map (·.2) := by kernel_rfl
theorem enVZ_n : ((enVZ i D3).all fun z => nltB 2 z.2) = true := by kernel_rfl
def VB.g1 : GI := ⟨ownV D3, i.x.o, i.x.s⟩
noncomputable def vc3a : St := outM (evalList cxM (Y3.take 5) (stVZ i D3 (ownV D3)))
theorem evc3a : ∃ ob, evalList cxM (Y3.take 5) (stVZ i D3 (ownV D3)) = some (vc3a i D3, ob) ∧ ob.holds := fl_two (L := []) (by kernel_rfl) (by kernel_rfl) (by simp)
theorem vc3e : eff Try.prog (opd (vc3a i D3).look) (opM Y3 5).op = some (.call 24 [(ownV D3).at 1, .int .i64 fun _ => i.x.o, .int .i64 fun _ => i.x.s]) := by kernel_rfl
theorem vc3b : (vc3a i D3).hp 1 = some (ownV D3).blk ∧ (vc3a i D3).nt = 122 := ⟨by kernel_rfl, by kernel_rfl⟩
noncomputable def vc3B : St := outM (evalList cxM (Y3.drop 6) ((vc3a i D3).setT 31 (getT (i.g1 D3))))
theorem evc3B : ∃ ob, evalList cxM (Y3.drop 6) ((vc3a i D3).setT 31 (getT (i.g1 D3))) = some (vc3B i D3, ob) ∧ ob.holds := fl_two (L := []) (by kernel_rfl) (by kernel_rfl) (by simp)
noncomputable def vc4a : St := outM (evalList cxM (Y4.take 5) (vc3B i D3))
theorem evc4a : ∃ ob, evalList cxM (Y4.take 5) (vc3B i D3) = some (vc4a i D3, ob) ∧ ob.holds := fl_two (L := []) (by kernel_rfl) (by kernel_rfl) (by simp)
theorem vc4e : eff Try.prog (opd (vc4a i D3).look) (opM Y4 5).op = some (.call 25 [.vsl i.ao i.cap, .int .i64 fun _ => i.x.o, .int .i64 fun _ => i.x.s]) := by kernel_rfl
theorem vc4n : (vc4a i D3).nt = 122 := by kernel_rfl
noncomputable def vc4B : St := outM (evalList cxM (Y4.drop 6) ((vc4a i D3).setT 40 (getZT i.z)))
theorem evc4B : ∃ ob, evalList cxM (Y4.drop 6) ((vc4a i D3).setT 40 (getZT i.z)) = some (vc4B i D3, ob) ∧ ob.holds := fl_two (L := []) (by kernel_rfl) (by kernel_rfl) (by simp)
noncomputable def vc5a : St := outM (evalList cxM (Y5.take 8) (vc4B i D3))
theorem evc5a : ∃ ob, evalList cxM (Y5.take 8) (vc4B i D3) = some (vc5a i D3, ob) ∧ ob.holds := fl_two (L := []) (by kernel_rfl) (by kernel_rfl) (by simp)
theorem vc5e : eff Try.prog (opd (vc5a i D3).look) (opM Y5 8).op = some (.call 26 [(ownV D3).at 1, .int .i64 fun _ => i.x.o, .int .i64 fun _ => i.x.s, .int .u64 fun _ => i.x.v.n]) := by kernel_rfl
theorem vc5b : (vc5a i D3).hp 1 = some (ownV D3).blk ∧ (vc5a i D3).nt = 122 := ⟨by kernel_rfl, by kernel_rfl⟩
noncomputable def vc5B : St := outM (evalList cxM (Y5.drop 9) ((vc5a i D3).setT 52 (noT (inE (i.g1 D3).pi))))
theorem evc5B : ∃ ob, evalList cxM (Y5.drop 9) ((vc5a i D3).setT 52 (noT (inE (i.g1 D3).pi))) = some (vc5B i D3, ob) ∧ ob.holds := fl_two (L := []) (by kernel_rfl) (by kernel_rfl) (by simp)
noncomputable def vc6a : St := outM (evalList cxM (Y6.take 8) (vc5B i D3))
theorem evc6a : ∃ ob, evalList cxM (Y6.take 8) (vc5B i D3) = some (vc6a i D3, ob) ∧ ob.holds := fl_two (L := []) (by kernel_rfl) (by kernel_rfl) (by simp)
theorem vc6e : eff Try.prog (opd (vc6a i D3).look) (opM Y6 8).op = some (.call 27 [.vsl i.ao i.cap, .int .i64 fun _ => i.x.o, .int .i64 fun _ => i.x.s, .int .u64 fun _ => i.x.v.n]) := by kernel_rfl
theorem vc6n : (vc6a i D3).nt = 122 := by kernel_rfl
noncomputable def vc6B : St := outM (evalList cxM (Y6.drop 9) ((vc6a i D3).setT 64 (noT (inZ i.z))))
theorem evc6B : ∃ ob, evalList cxM (Y6.drop 9) ((vc6a i D3).setT 64 (noT (inZ i.z))) = some (vc6B i D3, ob) ∧ ob.holds := fl_two (L := []) (by kernel_rfl) (by kernel_rfl) (by simp)
def enVR : List (Nat × AV) := [(0, .vsl i.ao i.cap), (3, .ptr 0 []), (5, D3.at 1), (6, (ownV D3).at 1), (7, eW (getV (i.g1 D3))), (8, eI (inE (i.g1 D3).pi)), (9, eW 0#64), (10, eI (inZ i.z)), (11, .vsl none 0), (12, eI (inE (i.g1 D3).pi)), (13, .vsl none 0), (14, eI (inZ i.z))]
theorem vrc : ((enVR i D3).map fun z => unlitM ((vc6B i D3).look z.1)) = (enVR i D3).map (·.2) := by kernel_rfl
theorem vrd : ((hbV2 i (ownV D3)).map fun z => (vc6B i D3).hp z.1) = (hbV2 i (ownV D3)).map (·.2) := by kernel_rfl
theorem enVR_n : ((enVR i D3).all fun z => nltB 2 z.2) = true := by kernel_rfl
theorem vrm : (vc6B i D3).nt = 122 ∧ (vc6B i D3).lo = 0 := ⟨by kernel_rfl, by kernel_rfl⟩
def stVR : St := ⟨enVR i D3, fun _ => .un, hbV2 i D3, fun _ => none, 2, 122, 0⟩
noncomputable def vr7 : St := outM (evalList cxM Y7 (stVR i D3))
end
end Go.Rf

/- Memory: the law MemBytes walked, where there are no bytes: to its end. -/
namespace Go.Rf
open Go.Proofs

section
variable (i : VB) (D3 : SlD sB)
def obV (D3 : SlD sB) : List Prop := [(ownV D3).pre.length = D3.pre.length ∧ (lenZ [] (AV.int .i64 fun _ => lenB (ownV D3))).toNat ≤ D3.len, 0 ≤ toZ .i64 (0#64 : W) ∧ toZ .i64 (0#64 : W) < toZ .i64 (lenB D3), D3.pre.length = D3.pre.length, (toZ .i64 (0#64 : W)).toNat < D3.len]
theorem evr7 (h : ∀ p ∈ obV D3, p) : ∃ ob, evalList cxM Y7 (stVR i D3) = some (vr7 i D3, ob) ∧ ob.holds := fl_two (L := obV D3) (by kernel_rfl) (by kernel_rfl) h
def sameE (f : Nat → B8) (L : W) : Bool := (bytesOf (fun ix => f (List.headD ix 0)) (lenZ [] (.int .i64 fun _ => L)).toNat).toList == ByteArray.empty.toList
def badVb : Bool :=
  (((((getV (i.g1 D3) != 0#64) || (inE (i.g1 D3).pi != inZ i.z)) || !(ByteArray.empty.toList == ByteArray.empty.toList)) || (inE (i.g1 D3).pi != inZ i.z)) || !(sameE (elB D3) (lenB (ownV D3)))) || (elB D3 (toZ .i64 (0#64 : W)).toNat != 77#8)
theorem vr7g : (vr7 i D3).look 101 = .bool fun _ => badVb i D3 := by kernel_rfl
noncomputable def vr9 : St := outM (evalList cxM Y9 (vr7 i D3))
theorem evr9 : ∃ ob, evalList cxM Y9 (vr7 i D3) = some (vr9 i D3, ob) ∧ ob.holds := fl_two (L := []) (by kernel_rfl) (by kernel_rfl) (by simp)
def enV9 : List (Nat × AV) := [(0, .vsl i.ao i.cap), (3, .ptr 0 []), (5, D3.at 1), (6, (ownV D3).at 1), (103, eI 0#64), (104, eI 0#64)]
def stV9 : St := ⟨enV9 i D3, fun _ => .un, hbV2 i D3, fun _ => none, 2, 122, 0⟩
theorem vr9c : ((enV9 i D3).map fun z => unlitM ((vr9 i D3).look z.1)) = (enV9 i D3).map (·.2) := by kernel_rfl
theorem vr9d : ((hbV2 i D3).map fun z => (vr9 i D3).hp z.1) = (hbV2 i D3).map (·.2) := by kernel_rfl
theorem enV9_n : ((enV9 i D3).all fun z => nltB 2 z.2) = true := by kernel_rfl
theorem vr9m : (vr9 i D3).nt = 122 ∧ (vr9 i D3).lo = 0 := ⟨by kernel_rfl, by kernel_rfl⟩
noncomputable def vr10 : St := outM (evalList cxM Y10 (stV9 i D3))
theorem evr10 : ∃ ob, evalList cxM Y10 (stV9 i D3) = some (vr10 i D3, ob) ∧ ob.holds := fl_two (L := []) (by kernel_rfl) (by kernel_rfl) (by simp)
theorem vr10g : (vr10 i D3).look 105 = .bool fun _ => ltB .i64 0#64 0#64 := by kernel_rfl
noncomputable def vr14 : St := outM (evalList cxM Y14 (vr10 i D3))
def obV14 (D3 : SlD sB) : List Prop := [(ownV D3).pre.length = D3.pre.length ∧ (lenZ [] (AV.int .i64 fun _ => lenB (ownV D3))).toNat ≤ D3.len]
theorem evr14 (h : ∀ p ∈ obV14 D3, p) : ∃ ob, evalList cxM Y14 (vr10 i D3) = some (vr14 i D3, ob) ∧ ob.holds := fl_two (L := obV14 D3) (by kernel_rfl) (by kernel_rfl) h
theorem vr14l : (vr14 i D3).look 4 = .bool fun _ => true && sameE (elB D3) (lenB (ownV D3)) := by kernel_rfl
end
theorem sameE_ok (f : Nat → B8) (D3 : SlD sB) : sameE f (lenB (ownV D3)) = true := by
  have e : (lenZ [] (AV.int .i64 fun _ => lenB (ownV D3))).toNat = 0 := rfl
  have e2 : bytesOf (fun ix => f (List.headD ix 0)) (lenZ [] (AV.int .i64 fun _ => lenB (ownV D3))).toNat = ByteArray.empty := rfl
  exact beq_iff_eq.2 (congrArg ByteArray.toList e2)
structure V3ok (D3 : SlD sB) : Prop where
  len : D3.len = 1
  last : elB D3 0 = 77#8
theorem inE_inZ (i : VB) (D3 : SlD sB) : inE (i.g1 D3).pi = inZ i.z := rfl
theorem badVb_no (i : VB) {D3 : SlD sB} (h : V3ok D3) : badVb i D3 = false := by
  have h0 : inE (i.g1 D3).pi ≠ 0#64 := inZ_bad i.z
  have hg : getV (i.g1 D3) = 0#64 := by
    unfold getV
    rw [show (inE (i.g1 D3).pi != 0#64) = true by simpa using h0]
    rfl
  have hl : elB D3 (toZ .i64 (0#64 : W)).toNat = 77#8 := h.last
  unfold badVb
  rw [hg, inE_inZ, sameE_ok, hl]
  simp
theorem retY0 {w : World} (st : St) {c : Bool} (f4 : st.look 4 = .bool fun _ => c) (hc : c = true) {ae : Go.Act} {we : World} (hsg : SRel E0 w st ae we) : bodyPost Try.prog Try.f8 (fun e w' => e = .returned (.bool true) ∧ RowKit.Below w.heap.size w w') .ret ae we := by
  obtain ⟨E, q1, q2, q3, q4, q5, q6, q7, q8, q9, q10⟩ := hsg
  have e4 : ae.tmps.getD 4 undef = .bool true := by
    have q := q1 4
    rw [f4] at q
    have := q.2
    rw [hc] at this
    exact this.symm
  have hres : (results Try.f8 ae.tmps).run Try.prog we = .ok (ae.tmps.getD 4 undef) we := by
    rw [results_tmp (t := 4) resY]
  exact bodyPost_ret hres q3 ⟨by rw [e4], q8.below⟩
theorem tailV (i : VB) {D3 : SlD sB} (h : V3ok D3) {w : World} {a : Go.Act} {w1 : World} (hs : SRel E0 w (stVR i D3) a w1) : tail7.wp Try.prog (bodyPost Try.prog Try.f8 fun e w' => e = .returned (.bool true) ∧ RowKit.Below w.heap.size w w') a w1 := by
  have hl := h.len
  refine wp_seq (wp_seq (regM (evr7 i D3 (fun p hp => by
    simp only [obV, List.mem_cons, List.not_mem_nil, or_false] at hp
    rcases hp with rfl | rfl | rfl | rfl
    · exact ⟨rfl, Nat.zero_le _⟩
    · refine ⟨Int.le_refl 0, ?_⟩
      rw [toZ_lenB (by omega), hl]
      decide
    · trivial
    · rw [hl]; decide)) hs fun a2 w2 hs2 => ?_))
  have hc := boolM (vr7g i D3) hs2
  rw [badVb_no i h] at hc
  refine wp_cond_false hc (wp_skip ?_)
  show (Code.seq (.seq (.region 9 Y9.toArray false) (.block 0 (.loop rndYb))) _).wp Try.prog _ a2 w2
  refine wp_seq (wp_seq (regM (evr9 i D3) hs2 fun a3 w3 hs3 => ?_))
  have hsN : SRel E0 w (stV9 i D3) a3 w3 := norm_relM (kept_ofM (vr9c i D3) (vr9d i D3) (enV9_n i D3) (hbV2_n i D3) (by rw [(vr9m i D3).2]; rfl)) (vr9m i D3).1 (vr9m i D3).2 hs3
  show (Code.block 0 (.loop rndYb)).wp Try.prog _ a3 w3
  refine wp_block (wp_loop_ix (fun _ a' w' => SRel E0 w (stV9 i D3) a' w') (fun _ => 0) ?_ 0 a3 w3 hsN)
  intro n a4 w4 hs4
  refine wp_seq (regM (evr10 i D3) hs4 fun a5 w5 hs5 => ?_)
  have hc2 := boolM (vr10g i D3) hs5
  rw [show ltB .i64 0#64 0#64 = false from by decide] at hc2
  refine wp_seq (wp_cond_false hc2 (wp_exit ?_))
  show (Code.seq (.region 14 Y14.toArray false) .ret).wp Try.prog _ a5 w5
  refine wp_seq (regM (evr14 i D3 (fun p hp => by
    obtain rfl := List.mem_singleton.1 hp
    exact ⟨rfl, Nat.zero_le _⟩)) hs5 fun a6 w6 hs6 => ?_)
  refine wp_ret ?_
  exact retY0 _ (vr14l i D3) (by rw [sameE_ok]; rfl) hs6
theorem tailSV (i : VB) {D3 : SlD sB} (h : V3ok D3) (hfix : D3.Fix 5) {w : World} {a : Go.Act} {w1 : World} (hs : SRel E0 w (vc1 i D3) a w1) : tail2.wp Try.prog (bodyPost Try.prog Try.f8 fun e w' => e = .returned (.bool true) ∧ RowKit.Below w.heap.size w w') a w1 := by
  refine wp_seq (list_region (by simpa using gY2.1) ?_)
  rw [List.toList_toArray, Y2_eq]
  refine wpList_app _ (noGd_spec gY2.2.1) _ _ ?_
  refine lstM gY2.2.1 (evc2a i D3) hs fun a2 w2 hs2 => ⟨rfl, ?_⟩
  have hsN : SRel E0 w (stV2 i D3) a2 w2 := norm_relM (kept_ofM (vc2c i D3) (vc2d i D3) (enV2_n i D3) (hbV2_n i D3) (by rw [(vc2m i D3).2]; rfl)) (vc2m i D3).1 (vc2m i D3).2 hs2
  refine step_sliceH hsN oY2.2.2 oY2.1 oY2.2.1 (by show 24 < 122; omega) t57e t57s (n := 1) (p := [.win D3.pre.length]) (len := .int .i64 fun _ => BitVec.ofNat 64 D3.len) (cap := D3.cap) rfl (k := .i64) (hi := 0#64) rfl (by decide) (by show (0 : Int) ≤ D3.cap; omega) (len' := .int .i64 fun _ => BitVec.ofNat 64 0) rfl fun a3 w3 hs3 => ?_
  refine lstM gY2.2.2 (evc2B i D3) hs3 fun a4 w4 hs4 => ?_
  have hkZ : KeptR (vc2B i D3) 2 (enVZ i D3) (hbV2 i D3) := (kept_ofM (vzc i D3) (vzd i D3) (enVZ_n i D3) (hbV2_n i D3) (by rw [(vzm i D3).2]; rfl)).toR
  have hsZ : SRel E0 w (stVZ i D3 (ownV D3)) a4 w4 := keptR_relM (hkZ.short (Nat.zero_le _) (by kernel_rfl)) (vzm i D3).1 (vzm i D3).2 hs4
  show (Code.seq (.region 3 Y3.toArray false) _).wp Try.prog _ a4 w4
  refine wp_seq (list_region (by simpa using gY3.1) ?_)
  rw [List.toList_toArray, Y3_eq]
  refine wpList_app _ (noGd_spec gY3.2.1) _ _ ?_
  refine lstM gY3.2.1 (evc3a i D3) hsZ fun a5 w5 hs5 => ⟨rfl, ?_⟩
  refine step_get hs5 (vc3b i D3).1 (by show 0 < 2 ^ 62; omega) oY3.2 (vc3e i D3) oY3.1 (by rw [(vc3b i D3).2]; omega) fun a6 w6 hs6 => ?_
  refine lstM gY3.2.2 (evc3B i D3) hs6 fun a7 w7 hs7 => ?_
  show (Code.seq (.region 4 Y4.toArray false) _).wp Try.prog _ a7 w7
  refine wp_seq (list_region (by simpa using gY4.1) ?_)
  rw [List.toList_toArray, Y4_eq]
  refine wpList_app _ (noGd_spec gY4.2.1) _ _ ?_
  refine lstM gY4.2.1 (evc4a i D3) hs7 fun a8 w8 hs8 => ⟨rfl, ?_⟩
  refine step_rgetZ hs8 i.z oY4.2 (vc4e i D3) oY4.1 (by rw [vc4n]; omega) fun a9 w9 hs9 => ?_
  refine lstM gY4.2.2 (evc4B i D3) hs9 fun aa wa hsa => ?_
  show (Code.seq (.region 5 Y5.toArray false) _).wp Try.prog _ aa wa
  refine wp_seq (list_region (by simpa using gY5.1) ?_)
  rw [List.toList_toArray, Y5_eq]
  refine wpList_app _ (noGd_spec gY5.2.1) _ _ ?_
  refine lstM gY5.2.1 (evc5a i D3) hsa fun ab wb hsb => ⟨rfl, ?_⟩
  refine step_putNo hsb (vc5b i D3).1 (by show 0 < 2 ^ 62; omega) (off := i.x.o) (size := i.x.s) (v := i.x.v.n) (inZ_bad i.z) (fun E => rfl) oY5.2 (vc5e i D3) oY5.1 (by rw [(vc5b i D3).2]; omega) fun ac wc hsc => ?_
  refine lstM gY5.2.2 (evc5B i D3) hsc fun ad wd hsd => ?_
  show (Code.seq (.region 6 Y6.toArray false) _).wp Try.prog _ ad wd
  refine wp_seq (list_region (by simpa using gY6.1) ?_)
  rw [List.toList_toArray, Y6_eq]
  refine wpList_app _ (noGd_spec gY6.2.1) _ _ ?_
  refine lstM gY6.2.1 (evc6a i D3) hsd fun ae we hse => ⟨rfl, ?_⟩
  refine step_rputZ hse i.z i.x.v.n oY6.2 (vc6e i D3) oY6.1 (by rw [vc6n]; omega) fun af wf hsf => ?_
  refine lstM gY6.2.2 (evc6B i D3) hsf fun ag wg hsg => ?_
  have hkR : KeptR (vc6B i D3) 2 (enVR i D3) (hbV2 i (ownV D3)) := (kept_ofM (vrc i D3) (vrd i D3) (enVR_n i D3) (hbV2_n i (ownV D3)) (by rw [(vrm i D3).2]; rfl)).toR
  have hsR : SRel E0 w (stVR i D3) ag wg := keptR_relM (KeptR.long (D := D3) (L := 0) (Nat.zero_le _) hkR (by kernel_rfl)) (vrm i D3).1 (vrm i D3).2 hsg
  exact tailV i h hsR
theorem calls8v (i : VB) (w : World) : Calls Try.prog 8 ((argV i).map (val E0)).toArray w fun e w' => e = .returned (.bool true) ∧ RowKit.Below w.heap.size w w' := by
  refine calls_of_wp Try.func8 body8 ?_
  have hnt : Try.f8.ntmps = 122 := by kernel_rfl
  have hs0 := enter0 (P := Try.prog) (fn := Try.f8) (args := argV i) (by rw [hnt]; show 2 ≤ 122; omega) (fun v hv => by
    simp only [argV, List.mem_cons, List.not_mem_nil, or_false] at hv
    rcases hv with rfl | rfl
    · trivial
    · exact ok_of_pf _ _ (cAct.pf i.x)) w
  rw [hnt] at hs0
  refine wp_seq (regM (ev1B i) hs0 fun a1 w1 hs1 => ?_)
  show (Code.seq (.region 1 Y1.toArray false) tail2).wp Try.prog _ a1 w1
  refine wp_seq (list_region (by simpa using gY1.1) ?_)
  rw [List.toList_toArray, Y1_eq]
  have hk1 : Kept (v1B i) (v1B i).next (enV i) (hbV i) := by
    rw [(v1a i).2.2]
    exact kept_ofM (v1e i) (v1f i) (enV_n1 i) (hbV_n1 i) (by rw [(v1a i).2.1]; rfl)
  refine step_build0 flatB hs1 oY1z.2.2 oY1z.1 oY1z.2.1 (by rw [(v1a i).1]; omega) hk1 inf5 (fun _ => 0#8) t57 i5a ?_
  intro D0 a2 w2 d1 d2 d3 hs2
  rw [(v1a i).1, (v1a i).2.1, (v1a i).2.2] at hs2
  refine wpList_app _ (noGd_spec gY1.2.1) _ _ ?_
  refine lstM gY1.2.1 (ev2B i D0) hs2 fun a3 w3 hs3 => ⟨rfl, ?_⟩
  refine step_append_none hs3 oY1a.2.2 oY1a.1 oY1a.2.1 (by rw [(v2x i D0).2.2]; omega) (v2x i D0).1 (Nat.le_trans (Nat.le_of_eq ((lenZ_lenB (D := D0) (by omega)).trans d2)) (Nat.zero_le _)) (v2x i D0).2.1 inf5 t57 i5a fun a4 w4 hs4 => ?_
  refine wpList_app _ (noGd_spec gY1.2.2.1) _ _ ?_
  refine lstM gY1.2.2.1 (ev3B i D0) hs4 fun a5 w5 hs5 => ⟨rfl, ?_⟩
  have hk3 : Kept (v3B i D0) 1 (enV i) (hbV i) := kept_ofM (v3f i D0) (v3g i D0) (enV_n1 i) (hbV_n1 i) (by rw [(v3a i D0).2]; rfl)
  refine step_append flatB hs5 oY1b.2.2 oY1b.1 oY1b.2.1 (by rw [(v3a i D0).1]; omega) (D := D0) (n := 1) (v3b i D0).1 (v3b i D0).2 d1 (m := 2) (k := 1) (c := 1) (B2 := vk77 i D0) (ys := fun _ => 77#8) (v3c i D0) (v3d i D0).1 (v3d i D0).2 (fun E => (v3e i D0 E).trans flat77.symm) hk3 inf5 (.int .u8 0) t57 i5a i5b i5c rfl (by rw [i5d, d2]; omega) (by rw [d2]; omega) ?_
  intro D3 a6 w6 f1 f2 f3 hs6
  rw [(v3a i D0).1, (v3a i D0).2] at hs6
  refine lstM gY1.2.2.2 (evc1 i D3) hs6 fun a7 w7 hs7 => ?_
  refine tailSV i ⟨by rw [f2, d2], ?_⟩ f1 hs7
  show D3.els 0 = 77#8
  exact (congrFun f3 _).trans (by unfold catE; rw [d2]; rfl)
end Go.Rf
