/- Memory: the law MemKnown walked. -/
import Derived.Test.YtadkiiaagdhhlaaMf2
set_option linter.unusedVariables false
set_option linter.unusedSimpArgs false
set_option maxRecDepth 100000
namespace Go.Rf
open Go.Proofs

def str3 (D2 : SlD sB) : Bool := (bytesOf (fun ix => elB D2 (List.headD ix 0)) (toZ .i64 (BitVec.ofNat 64 D2.len)).toNat).toList == (ByteArray.mk #[1, 2, 255]).toList
def tell21 (D2 : SlD sB) : Bool := (((((((0#64 : W) == 0#64) && ((0#64 : W) == 0#64)) && eqVal (numV 7#64) (numV 7#64)) && ((40#64 : W) == 40#64)) && ((0#64 : W) == 0#64)) && str3 D2) && ((42#64 : W) == 42#64) && true
theorem ed21 (D D2 : SlD sB) (h : D2.len < 2 ^ 62) : ∃ ob, evalCode cxM (fun _ => none) V21 [] (d20 D D2) = some (.norm (d21 D D2), ob) ∧ ob.holds :=
  fl_two (L := [D2.pre.length = D2.pre.length ∧ (lenZ [] (AV.int .i64 fun _ => BitVec.ofNat 64 D2.len)).toNat ≤ D2.len]) (by kernel_rfl) (by kernel_rfl) (fun p hp => by
    simp only [List.mem_singleton] at hp
    subst hp
    refine ⟨trivial, ?_⟩
    show (toZ .i64 (BitVec.ofNat 64 D2.len)).toNat ≤ D2.len
    rw [toZ_nat (by rw [ofNat_toNat (by omega)]; omega), ofNat_toNat (by omega)]
    omega)
theorem d21g (D D2 : SlD sB) : (d21 D D2).look 0 = .bool fun _ => tell21 D2 := by kernel_rfl
theorem d21h (D D2 : SlD sB) : (d21 D D2).hrest = fun _ => none := by kernel_rfl
theorem str3_lit : ((([toZ .u8 1#8, toZ .u8 2#8, toZ .u8 255#8] : List Int).foldl (fun r n => r.push (UInt8.ofNat n.toNat)) ByteArray.empty).toList == (ByteArray.mk #[1, 2, 255]).toList) = true := by kernel_rfl
theorem str3_ok {D D2 : SlD sB} (hl : D.len = 3) (he : D.els = e3) (hp : PutD ⟨D, 2#64, 1#64, 255#64⟩ D2) : str3 D2 = true := by
  have hlen : D2.len = 3 := hp.len.trans hl
  have hels : ∀ i, elB D2 i = putTo ⟨D, 2#64, 1#64, 255#64⟩ 1 i := fun i => by
    show D2.els i = _
    rw [hp.els]; rfl
  have hD : ∀ i, elB D i = e3 i := fun i => by show D.els i = _; rw [he]
  have h0 : elB D2 0 = 1#8 := by rw [hels]; show elB D 0 = _; rw [hD]; rfl
  have h1 : elB D2 1 = 2#8 := by rw [hels]; show elB D 1 = _; rw [hD]; rfl
  have h2 : elB D2 2 = 255#8 := by rw [hels]; show byteP 255#64 (BitVec.ofNat 64 0) = _; decide
  have hL : (toZ .i64 (BitVec.ofNat 64 D2.len)).toNat = 3 := by rw [hlen]; rfl
  unfold str3
  rw [hL]
  have e : bytesOf (fun ix => elB D2 (List.headD ix 0)) 3 = ([toZ .u8 (elB D2 0), toZ .u8 (elB D2 1), toZ .u8 (elB D2 2)] : List Int).foldl (fun r n => r.push (UInt8.ofNat n.toNat)) ByteArray.empty := rfl
  rw [e, h0, h1, h2]
  exact str3_lit
theorem tell21_ok {D2 : SlD sB} (h : str3 D2 = true) : tell21 D2 = true := by
  unfold tell21
  rw [h]
  decide
theorem resK : Try.f10.results = #[.tmp 0] := by kernel_rfl
theorem retM10 {w : World} (st : St) (f0 : st.look 0 = .bool fun _ => true) {ae : Go.Act} {we : World} (hsg : SRel E0 w st ae we) : bodyPost Try.prog Try.f10 (fun e w' => e = .returned (.bool true) ∧ RowKit.Below w.heap.size w w') .ret ae we := by
  obtain ⟨E, q1, q2, q3, q4, q5, q6, q7, q8, q9, q10⟩ := hsg
  have v0 := q1 0
  rw [f0] at v0
  have e0 : ae.tmps.getD 0 undef = .bool true := v0.2.symm
  have hres : (results Try.f10 ae.tmps).run Try.prog we = .ok (ae.tmps.getD 0 undef) we := by
    rw [results_tmp (t := 0) resK]
  exact bodyPost_ret hres q3 ⟨by rw [e0], q8.below⟩
theorem adopt19 {w : World} {a1 : Go.Act} {w1 : World} (st : St) (B : Blk) (n src : Nat) (ents : List (Nat × AV)) (hbs : List (Nat × Option Blk)) (hnt : st.nt = 169 ∧ st.lo = 0) (f : st.look src = .slc n [] (.lit .i64 (3 : Nat)) 3) (hB : st.hp n = some B) (hT : B.T = 5 ∧ isRaw B.v = false)
    (hc : ∀ E, cells E [] B.v = [.int .u8 1, .int .u8 2, .int .u8 3]) (hk : Kept st n ents hbs) (hsrc : src < 169) (hs : SRel E0 w st a1 w1) : ∃ D : SlD sB, D.len = 3 ∧ D.els = e3 ∧ SRel E0 w (slSt D n src ents hbs 169 0) a1 w1 := by
  obtain ⟨D, d1, d2, d3, d4⟩ := adopt flatB hs (n := n) (src := src) (k := 3) (els := e3) (te := 5) (B := B) f hB hT.1 hT.2 (fun E => (hc E).trans e3_cells.symm) hk (by rw [hnt.1]; exact hsrc) (by unfold maxLen; omega)
  rw [hnt.1, hnt.2] at d4
  exact ⟨D, d2, d3, d4⟩
theorem ok19 {D : SlD sB} (hl : D.len = 3) : PI.ok ⟨D, 2#64, 1#64, 255#64⟩ := ⟨.inl rfl, by show 2 + 1 ≤ D.len; omega, by show D.len ≤ _; omega⟩
theorem no20 {D : SlD sB} (hl : D.len = 3) : inE ⟨D, 2#64, 2#64, 255#64⟩ = 42#64 := by
  unfold inE
  show (bif !(sizeB 2#64) then 1#64 else bif ltB .i64 2#64 0#64 || ltB .i64 (BitVec.ofNat 64 D.len - 2#64) 2#64 then 42#64 else 0#64) = _
  rw [hl]; decide
theorem calls10 (w : World) : Calls Try.prog 10 #[] w fun e w' => e = .returned (.bool true) ∧ RowKit.Below w.heap.size w w' := by
  refine calls_of_wp Try.func10 body10 ?_
  have hnt : Try.f10.ntmps = 169 := by kernel_rfl
  have hs0 := enter0 (P := Try.prog) (fn := Try.f10) (args := []) (by rw [hnt]; show 0 ≤ 169; omega) (fun v hv => by simp at hv) w
  rw [hnt] at hs0
  refine wp_seq (regM ec0 hs0 fun a1 w1 hs1 => ?_)
  show (Code.seq (.seq (.region 1 V1.toArray false) (retIf 43 2 V2)) _).wp Try.prog _ a1 w1
  refine wp_seq (wp_seq (regM ec1 hs1 fun a2 w2 hs2 => ?_))
  refine wp_cond_false (boolM c1g hs2) (wp_skip ?_)
  show (Code.seq (.region 3 V3.toArray false) _).wp Try.prog _ a2 w2
  refine wp_seq (regM ec3 hs2 fun a3 w3 hs3 => ?_)
  show (Code.seq (.region 4 V4.toArray false) _).wp Try.prog _ a3 w3
  refine wp_seq (regM ec4 hs3 fun a4 w4 hs4 => ?_)
  show (Code.seq (.region 5 V5.toArray false) _).wp Try.prog _ a4 w4
  refine wp_seq (regM ec5 hs4 fun a5 w5 hs5 => ?_)
  show (Code.seq (.region 6 V6.toArray false) _).wp Try.prog _ a5 w5
  refine wp_seq (regM ec6 hs5 fun a6 w6 hs6 => ?_)
  show (Code.seq (.region 7 V7.toArray false) _).wp Try.prog _ a6 w6
  refine wp_seq (regM ec7 hs6 fun a7 w7 hs7 => ?_)
  show (Code.seq (.seq (.region 8 V8.toArray false) (retIf 79 9 V9)) _).wp Try.prog _ a7 w7
  refine wp_seq (wp_seq (regM ec8 hs7 fun a8 w8 hs8 => ?_))
  refine wp_cond_false (boolM c8g hs8) (wp_skip ?_)
  show (Code.seq (.region 10 V10.toArray false) _).wp Try.prog _ a8 w8
  refine wp_seq (regM ec10 hs8 fun a10 w10 hs10 => ?_)
  show (Code.seq (.region 11 V11.toArray false) _).wp Try.prog _ a10 w10
  refine wp_seq (regM ec11 hs10 fun a11 w11 hs11 => ?_)
  show (Code.seq (.region 12 V12.toArray false) _).wp Try.prog _ a11 w11
  refine wp_seq (regM ec12 hs11 fun a12 w12 hs12 => ?_)
  show (Code.seq (.region 13 V13.toArray false) _).wp Try.prog _ a12 w12
  refine wp_seq (regM ec13 hs12 fun a13 w13 hs13 => ?_)
  show (Code.seq (.seq (.region 14 V14.toArray false) (retIf 111 15 V15)) _).wp Try.prog _ a13 w13
  refine wp_seq (wp_seq (regM ec14 hs13 fun a14 w14 hs14 => ?_))
  refine wp_cond_false (boolM c14g hs14) (wp_skip ?_)
  show (Code.seq V16 _).wp Try.prog _ a14 w14
  refine wp_seq (codeM ec16 hs14 fun a16 w16 hs16 => ?_)
  show (Code.seq (.region 17 V17.toArray false) _).wp Try.prog _ a16 w16
  refine wp_seq (regM ec17 hs16 fun a17 w17 hs17 => ?_)
  show (Code.seq (.region 18 V18.toArray false) _).wp Try.prog _ a17 w17
  refine wp_seq (regM ec18 hs17 fun a18 w18 hs18 => ?_)
  have hsK : SRel E0 w stK a18 w18 := norm_relM (kept_ofM c18c c18d enK_n hbK_n (by rw [c18a.2]; rfl)) c18a.1 c18a.2 hs18
  show (Code.seq (.region 19 V19.toArray false) _).wp Try.prog _ a18 w18
  refine wp_seq (list_region (by simpa using gV19.1) ?_)
  rw [List.toList_toArray, V19_eq]
  refine wpList_app _ (noGd_spec gV19.2.1) _ _ ?_
  refine lstM gV19.2.1 ed19a hsK fun a19 w19 hs19 => ⟨rfl, ?_⟩
  obtain ⟨D, dl, de, hsD⟩ := adopt19 d19a bk19 9 129 enK hbK d19b d19c d19d d19e d19f (kept_ofM d19g d19h enK_n hbK_n (by rw [d19b.2]; rfl)) (by omega) hs19
  have hkD : KeptR (stK1 D) (stK1 D).next enK hbK := (kept_ofM (k19g D) (k19h D) enK_n10 hbK_n10 rfl).toR
  refine step_putV (st := stK1 D) hsD (D := D) (n := 9) rfl (ok19 dl) (args := [D.at 9, .lit .i64 2, .lit .i64 1, .lit .u64 255]) (fun E => rfl) k19d.2 (k19e D) k19d.1 (by show 130 < 169; omega) hkD fun D2 a20 w20 hp hs20 => ?_
  refine lstM gV19.2.2 (ed19 D2) hs20 fun a21 w21 hs21 => ?_
  show (Code.seq (.region 20 V20.toArray false) _).wp Try.prog _ a21 w21
  refine wp_seq (list_region (by simpa using gV20.1) ?_)
  rw [List.toList_toArray, V20_eq]
  refine wpList_app _ (noGd_spec gV20.2.1) _ _ ?_
  refine lstM gV20.2.1 (ed20a D2) hs21 fun a22 w22 hs22 => ⟨rfl, ?_⟩
  obtain ⟨D', dl', de', hsD'⟩ := adopt19 (d20a D2) (bk20 D2) 11 134 (enP2 D2) (hbP2 D2) (d20b D2) (d20c D2) (d20d D2) (d20e D2) (d20f D2) (kept_ofM (d20g D2) (d20h D2) (enP2_n D2) (hbP2_n D2) (by rw [(d20b D2).2]; rfl)) (by omega) hs22
  refine step_putNo (st := stK2 D' D2) hsD' (D := D') (n := 11) (k20h D' D2).1 (by omega) (off := 2#64) (size := 2#64) (v := 255#64) (by rw [no20 dl']; decide) (args := [D'.at 11, .lit .i64 2, .lit .i64 2, .lit .u64 255]) (fun E => rfl) k20d.2 (k20e D' D2) k20d.1 (by rw [(k20h D' D2).2]; omega) fun a23 w23 hs23 => ?_
  rw [no20 dl'] at hs23
  refine lstM gV20.2.2 (ed20 D' D2) hs23 fun a24 w24 hs24 => ?_
  show (Code.seq V21 .ret).wp Try.prog _ a24 w24
  have hlen : D2.len = 3 := hp.len.trans dl
  refine wp_seq (codeM (ed21 D' D2 (by omega)) hs24 fun a25 w25 hs25 => ?_)
  refine wp_ret ?_
  exact retM10 (d21 D' D2) (by rw [d21g, tell21_ok (str3_ok dl de hp)]) hs25
end Go.Rf
