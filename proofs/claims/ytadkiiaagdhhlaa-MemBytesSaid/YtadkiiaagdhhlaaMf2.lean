/- Memory: the law MemKnown: bytes put. -/
import Derived.Test.YtadkiiaagdhhlaaMf1
set_option linter.unusedVariables false
set_option linter.unusedSimpArgs false
set_option maxRecDepth 100000
namespace Go.Rf
open Go.Proofs

theorem step_putV {Es : Env} {ws : World} {st : St} {a : Go.Act} {w : World} (hs : SRel Es ws st a w) {D : SlD sB} {n : Nat} (hB : st.hp n = some D.blk) {off size v : W} (hx : PI.ok ⟨D, off, size, v⟩) {args : List AV} (hva : ∀ E, args.map (val E) = [val E (D.at n), .int .i64 (toZ .i64 off), .int .i64 (toZ .i64 size), .int .u64 (toZ .u64 v)]) {o : Oper} {rest : List Oper} {Q : Exit → Go.Act → World → Prop}
    (hgd : o.guard = none) (hev : eff Try.prog (opd st.look) o.op = some (.call 26 args)) {dst : Nat} (hd : o.dst = some dst) (hdst : dst < st.nt)
    {ents : List (Nat × AV)} {hbs : List (Nat × Option Blk)} (hk : KeptR st st.next ents hbs)
    (hK : ∀ (D2 : SlD sB) a' w', PutD ⟨D, off, size, v⟩ D2 → SRel Es ws (bkSt (putT st.next D2) D2.blk st.next dst ents hbs st.nt st.lo) a' w' → wpList Try.prog #[] Q rest a' w') : wpList Try.prog #[] Q (o :: rest) a w := by
  have hl : D.len < 2 ^ 62 := by have h : D.len ≤ 140737488355328 := hx.few; omega
  refine step_callB (P := Try.prog) (Δ := SlD sB) hs hgd hev (putT st.next) (fun D2 => D2.blk) (PutD ⟨D, off, size, v⟩) ?_ hd hdst hk hK
  intro E h4 _
  obtain ⟨b, b1, b2, b3⟩ := h4 n D.blk hB
  have hrow : w.heap[b]? = some (.cells (cells E0 [] D.blk.v).toArray D.T D.fz) := by
    rw [b3, (blk_cells (flatB.good _) E).1]; rfl
  have ea : args.map (val E) = (argP ⟨D, off, size, v⟩).map (val (E1 b)) := by
    rw [hva E]
    simp only [argP, List.map_cons, List.map_nil, at_two b1 (show D.len < 2 ^ 63 by omega)]
    rfl
  rw [ea]
  refine (callsPut ⟨D, off, size, v⟩ hx hrow).mono ?_
  rintro e w' ⟨D2, rfl, k1, k2, k3, k4, k5, k6⟩
  have k2' : D2.len = D.len := k2
  refine ⟨D2, _, D2.b, rfl, ⟨k1.fix, k2, k3, k4⟩, fun E' hE' => ?_, fun E' => ?_, k5, k6⟩
  · have e := at_val (D := D2) (n := st.next) (E := E') hE' (by omega)
    refine ⟨⟨e.2, trivial, trivial⟩, ?_⟩
    show Value.tuple #[val E' (D2.at st.next), .int .i64 0] = _
    rw [e.1]
  · refine ⟨(blk_cells (flatB.good _) E').2, ?_⟩
    rw [(blk_cells (flatB.good _) E').1, k1.row]
    rfl
def noT (e : W) : AV := .tup (.cons (.vsl none 0) (.cons (eI e) .nil))
theorem step_putNo {Es : Env} {ws : World} {st : St} {a : Go.Act} {w : World} (hs : SRel Es ws st a w) {D : SlD sB} {n : Nat} (hB : st.hp n = some D.blk) (hl : D.len < 2 ^ 62) {off size v : W} (hx : inE ⟨D, off, size, v⟩ ≠ 0#64) {args : List AV} (hva : ∀ E, args.map (val E) = [val E (D.at n), .int .i64 (toZ .i64 off), .int .i64 (toZ .i64 size), .int .u64 (toZ .u64 v)]) {o : Oper} {rest : List Oper} {Q : Exit → Go.Act → World → Prop}
    (hgd : o.guard = none) (hev : eff Try.prog (opd st.look) o.op = some (.call 26 args)) {dst : Nat} (hd : o.dst = some dst) (hdst : dst < st.nt)
    (hK : ∀ a' w', SRel Es ws (st.setT dst (noT (inE ⟨D, off, size, v⟩))) a' w' → wpList Try.prog #[] Q rest a' w') : wpList Try.prog #[] Q (o :: rest) a w := by
  refine wpList_plain hgd fun K hKK => ?_
  obtain ⟨E, h1, h2, h3, h4, h5, h6, h7, h8, h9, h10⟩ := id hs
  obtain ⟨b, b1, b2, b3⟩ := h4 n D.blk hB
  have hrow : w.heap[b]? = some (.cells (cells E0 [] D.blk.v).toArray D.T D.fz) := by
    rw [b3, (blk_cells (flatB.good _) E).1]; rfl
  obtain ⟨_, hr⟩ := eff_run hev E a (fun x _ => opd_st h1 x)
  unfold Oper.wp
  rw [hr w, Oper.upon_enter]
  have ea : args.map (val E) = (argP ⟨D, off, size, v⟩).map (val (E1 b)) := by
    rw [hva E]
    simp only [argP, List.map_cons, List.map_nil, at_two b1 (show D.len < 2 ^ 63 by omega)]
    rfl
  rw [ea]
  refine (callsPutNo ⟨D, off, size, v⟩ (show D.len < 2 ^ 63 by omega) hx hrow).mono ?_
  rintro e w' ⟨rfl, hbel⟩
  refine hKK _ _ (hK _ w' ?_)
  rw [hd]
  exact tmp_set (below_rel hs hbel) hdst _ _ (fun E' _ => ⟨⟨trivial, trivial, trivial⟩, rfl⟩)

def e3 : Nat → B8 := fun i => if i = 0 then 1#8 else if i = 1 then 2#8 else 3#8
def enK : List (Nat × AV) := [(12, eI 0#64), (14, eI 0#64), (16, eI 40#64), (13, .ptr 7 [])]
def hbK : List (Nat × Option Blk) := [(7, some ⟨25, eVal (numV 7#64)⟩)]
def stK : St := ⟨enK, fun _ => .un, hbK, fun _ => none, 9, 169, 0⟩
theorem c18a : c18k.nt = 169 ∧ c18k.lo = 0 := ⟨by kernel_rfl, by kernel_rfl⟩
theorem c18c : (enK.map fun z => unlitM (c18k.look z.1)) = enK.map (·.2) := by kernel_rfl
theorem c18d : (hbK.map fun z => c18k.hp z.1) = hbK.map (·.2) := by kernel_rfl
theorem enK_n : (enK.all fun z => nltB 9 z.2) = true := by kernel_rfl
theorem hbK_n : (hbK.all fun z => Nat.blt z.1 9 && match z.2 with | some B => nltB 9 B.v | none => true) = true := by kernel_rfl
theorem c1g : c1k.look 43 = .bool fun _ => false := by kernel_rfl
theorem c8g : c8k.look 79 = .bool fun _ => false := by kernel_rfl
theorem c14g : c14k.look 111 = .bool fun _ => false := by kernel_rfl
theorem V19_eq : V19 = V19.take 1 ++ (opM V19 1 :: V19.drop 2) := by kernel_rfl
theorem V20_eq : V20 = V20.take 1 ++ (opM V20 1 :: V20.drop 2) := by kernel_rfl
theorem gV19 : noGd V19 = true ∧ noGd (V19.take 1) = true ∧ noGd (V19.drop 2) = true := ⟨by kernel_rfl, by kernel_rfl, by kernel_rfl⟩
theorem gV20 : noGd V20 = true ∧ noGd (V20.take 1) = true ∧ noGd (V20.drop 2) = true := ⟨by kernel_rfl, by kernel_rfl, by kernel_rfl⟩
noncomputable def d19a : St := outM (evalList cxM (V19.take 1) stK)
theorem ed19a : ∃ ob, evalList cxM (V19.take 1) stK = some (d19a, ob) ∧ ob.holds := fl_two (L := []) (by kernel_rfl) (by kernel_rfl) (by simp)
noncomputable def bk19 : Blk := (d19a.hp 9).getD ⟨0, .un⟩
theorem d19b : d19a.nt = 169 ∧ d19a.lo = 0 := ⟨by kernel_rfl, by kernel_rfl⟩
theorem d19c : d19a.look 129 = .slc 9 [] (.lit .i64 (3 : Nat)) 3 := by kernel_rfl
theorem d19d : d19a.hp 9 = some bk19 := by kernel_rfl
theorem d19e : bk19.T = 5 ∧ isRaw bk19.v = false := ⟨by kernel_rfl, by kernel_rfl⟩
theorem d19f (E : Env) : cells E [] bk19.v = [.int .u8 1, .int .u8 2, .int .u8 3] := by kernel_rfl
theorem e3_cells : flatN sB 3 e3 = [.int .u8 1, .int .u8 2, .int .u8 3] := by kernel_rfl
theorem d19g : (enK.map fun z => unlitM (d19a.look z.1)) = enK.map (·.2) := by kernel_rfl
theorem d19h : (hbK.map fun z => d19a.hp z.1) = hbK.map (·.2) := by kernel_rfl
section
variable (D : SlD sB)
/-- The slice of three is one of ours. -/
def stK1 : St := slSt D 9 129 enK hbK 169 0
theorem k19e : eff Try.prog (opd (stK1 D).look) (opM V19 1).op = some (.call 26 [D.at 9, .lit .i64 2, .lit .i64 1, .lit .u64 255]) := by kernel_rfl
theorem k19d : (opM V19 1).dst = some 130 ∧ (opM V19 1).guard = none := ⟨by kernel_rfl, by kernel_rfl⟩
theorem k19g : (enK.map fun z => unlitM ((stK1 D).look z.1)) = enK.map (·.2) := by kernel_rfl
theorem k19h : (hbK.map fun z => (stK1 D).hp z.1) = hbK.map (·.2) := by kernel_rfl
theorem enK_n10 : (enK.all fun z => nltB 10 z.2) = true := by kernel_rfl
theorem hbK_n10 : (hbK.all fun z => Nat.blt z.1 10 && match z.2 with | some B => nltB 10 B.v | none => true) = true := by kernel_rfl
variable (D2 : SlD sB)
noncomputable def d19 : St := outM (evalList cxM (V19.drop 2) (bkSt (putT 10 D2) D2.blk 10 130 enK hbK 169 0))
theorem ed19 : ∃ ob, evalList cxM (V19.drop 2) (bkSt (putT 10 D2) D2.blk 10 130 enK hbK 169 0) = some (d19 D2, ob) ∧ ob.holds := fl_two (L := []) (by kernel_rfl) (by kernel_rfl) (by simp)
def enP2 : List (Nat × AV) := (17, D2.at 10) :: (18, eI 0#64) :: enK
def hbP2 : List (Nat × Option Blk) := (10, some D2.blk) :: hbK
noncomputable def d20a : St := outM (evalList cxM (V20.take 1) (d19 D2))
theorem ed20a : ∃ ob, evalList cxM (V20.take 1) (d19 D2) = some (d20a D2, ob) ∧ ob.holds := fl_two (L := []) (by kernel_rfl) (by kernel_rfl) (by simp)
noncomputable def bk20 : Blk := ((d20a D2).hp 11).getD ⟨0, .un⟩
theorem d20b : (d20a D2).nt = 169 ∧ (d20a D2).lo = 0 := ⟨by kernel_rfl, by kernel_rfl⟩
theorem d20c : (d20a D2).look 134 = .slc 11 [] (.lit .i64 (3 : Nat)) 3 := by kernel_rfl
theorem d20d : (d20a D2).hp 11 = some (bk20 D2) := by kernel_rfl
theorem d20e : (bk20 D2).T = 5 ∧ isRaw (bk20 D2).v = false := ⟨by kernel_rfl, by kernel_rfl⟩
theorem d20f (E : Env) : cells E [] (bk20 D2).v = [.int .u8 1, .int .u8 2, .int .u8 3] := by kernel_rfl
theorem d20g : ((enP2 D2).map fun z => unlitM ((d20a D2).look z.1)) = (enP2 D2).map (·.2) := by kernel_rfl
theorem d20h : ((hbP2 D2).map fun z => (d20a D2).hp z.1) = (hbP2 D2).map (·.2) := by kernel_rfl
theorem enP2_n : ((enP2 D2).all fun z => nltB 11 z.2) = true := by kernel_rfl
theorem hbP2_n : ((hbP2 D2).all fun z => Nat.blt z.1 11 && match z.2 with | some B => nltB 11 B.v | none => true) = true := by kernel_rfl
def stK2 : St := slSt D 11 134 (enP2 D2) (hbP2 D2) 169 0
theorem k20e : eff Try.prog (opd (stK2 D D2).look) (opM V20 1).op = some (.call 26 [D.at 11, .lit .i64 2, .lit .i64 2, .lit .u64 255]) := by kernel_rfl
theorem k20d : (opM V20 1).dst = some 135 ∧ (opM V20 1).guard = none := ⟨by kernel_rfl, by kernel_rfl⟩
theorem k20h : (stK2 D D2).hp 11 = some D.blk ∧ (stK2 D D2).nt = 169 := ⟨by kernel_rfl, by kernel_rfl⟩
noncomputable def d20 : St := outM (evalList cxM (V20.drop 2) ((stK2 D D2).setT 135 (noT 42#64)))
theorem ed20 : ∃ ob, evalList cxM (V20.drop 2) ((stK2 D D2).setT 135 (noT 42#64)) = some (d20 D D2, ob) ∧ ob.holds := fl_two (L := []) (by kernel_rfl) (by kernel_rfl) (by simp)
noncomputable def d21 : St := outK (evalCode cxM (fun _ => none) V21 [] (d20 D D2))
end
end Go.Rf
