/- Memory: the contracts of Store. -/
import Derived.Test.YtadkiiaagdhhlaaMa9
set_option linter.unusedVariables false
set_option linter.unusedSimpArgs false
set_option maxRecDepth 100000
namespace Go.Rf
open Go.Proofs
def MSl.mux (c : Bool) (x y : MSl) : MSl := ⟨bif c then x.h else y.h, fun q => bif c then x.b q else y.b q, Val.mux c x.v y.v⟩
def muxF (c : Bool) (f g : Fra) : Fra := fun j => MSl.mux c (f j) (g j)
theorem MSl.mux_eq (c : Bool) (x y : MSl) : MSl.mux c x y = bif c then x else y := by cases c <;> rfl
theorem muxF_eq (c : Bool) (f g : Fra) : muxF c f g = bif c then f else g := by cases c <;> rfl
def zF : Fra := fun _ => nilM
def cS (f : Fra) (v : Val) (s : W) : Bool := !rightF f || !mayV v || !sizeB s
def adM (v : Val) : MSl := ⟨255#8, fun _ => 0#8, v⟩
def soS (f : Fra) (o s : W) (v : Val) : SoS := ⟨f, v, o, s, 0#64⟩
def stF (f : Fra) (o s : W) (v : Val) : Fra :=
  muxF (cS f v s) zF (muxF (v.k == 0#8) zF (muxF (cP o s) zF (muxF (addrV v) (muxF (s != 8#64) zF (updF f (kO o) (adM v))) (muxF (addrV (slotAt f o).v) (soS (updF f (kO o) nilM) o s v).rf (soS f o s v).rf))))
def stE (f : Fra) (o s : W) (v : Val) : W :=
  bif cS f v s then 1#64 else bif v.k == 0#8 then 40#64 else bif cP o s then placeW o s else bif addrV v then (bif s != 8#64 then 41#64 else 0#64) else 0#64
noncomputable def hSo : FuncId → Hook := fun f p => if f == 17 && p == pSo then some (lpSo.hk SoS.T) else none
theorem a17 (f : Fra) (o s : W) (v : Val) : (fg (evalN Try.prog (tabOf ma6) hSo 5 17 [cFra.enc f, cI.enc o, cI.enc s, cVal.enc v])).map (·.1) = some (pair (eFra (stF f o s v)) (eI (stE f o s v))) := by kernel_rfl

theorem not_cS {f : Fra} {v : Val} {s : W} (h : (!cS f v s) = true) : rightF f = true ∧ mayV v = true ∧ sizeB s = true := by
  unfold cS at h
  simpa [and_assoc] using h
theorem kO_lt {o s : W} (h : PlaceOk o s) : kO o < 64 := (qI_ix h).2.2
theorem soS_inv {f : Fra} {o s : W} {v : Val} (h : PlaceOk o s) : (soS f o s v).inv := by
  have h1 := h.rem
  have h2 := h.room
  refine ⟨?_, ?_, kO_lt h⟩
  · show (0#64 : W).toNat ≤ _
    exact Nat.zero_le _
  · show (remI o 8#64).toNat + s.toNat ≤ 8
    omega
noncomputable def obSo (f : Fra) (o s : W) (v : Val) : List (List Bool × Prop) :=
  [([!(v.k == 0#8), !cS f v s], s ≠ 0#64), ([!cP o s, !(v.k == 0#8), !cS f v s], 0 ≤ toZ .i64 (qI o) ∧ toZ .i64 (qI o) < ((64 : Nat) : Int)),
   ([!(s != 8#64), addrV v, !cP o s, !(v.k == 0#8), !cS f v s], kO o < 64), ([!addrV v, !cP o s, !(v.k == 0#8), !cS f v s], kO o < 64),
   ([addrV (slotAt f o).v, !addrV v, !cP o s, !(v.k == 0#8), !cS f v s], kO o < 64),
   ([addrV (slotAt f o).v, !addrV v, !cP o s, !(v.k == 0#8), !cS f v s], LoopGoal Try.prog (loopAt Try.prog 17 pSo) lpSo SoS.T (soS (updF f (kO o) nilM) o s v) 3 92 0),
   ([!addrV (slotAt f o).v, !addrV v, !cP o s, !(v.k == 0#8), !cS f v s], LoopGoal Try.prog (loopAt Try.prog 17 pSo) lpSo SoS.T (soS f o s v) 3 92 0)]
theorem obSo_ok (f : Fra) (o s : W) (v : Val) : ∀ e ∈ obSo f o s v, (∀ g ∈ e.1, g = true) → e.2 := by
  intro e he hg
  simp only [obSo, List.mem_cons, List.not_mem_nil, or_false] at he
  rcases he with rfl | rfl | rfl | rfl | rfl | rfl | rfl
  · exact size_pos (not_cS (hg (!cS f v s) (by simp))).2.2
  all_goals
    have h := place_ok (not_cS (hg (!cS f v s) (by simp))).2.2 (not_cP (hg (!cP o s) (by simp)))
  · exact ⟨(qI_ix h).1, (qI_ix h).2.1⟩
  · exact kO_lt h
  · exact kO_lt h
  · exact kO_lt h
  · exact goalSo _ (soS_inv h)
  · exact goalSo _ (soS_inv h)
theorem b17 (f : Fra) (o s : W) (v : Val) : (fg (evalN Try.prog (tabOf ma6) hSo 5 17 [cFra.enc f, cI.enc o, cI.enc s, cVal.enc v])).map (·.2) = some (obSo f o s v) := by kernel_rfl
theorem kk17 : ConOk Try.prog 17 (con4 cFra cI cI cVal fun f o s v => pair (eFra (stF f o s v)) (eI (stE f o s v))) :=
  con4_ok rma6 (Λ := hSo) 5 (fun _ _ _ _ => rfl) (fun f o s v => Ev.fg2 (a17 f o s v) (b17 f o s v) (obSo_ok f o s v))

/-! The document's. -/
def seS (x : MSl) (o s : W) (v : Val) : SeS := ⟨x, v.n, o, s, 0#64⟩
def seM (x : MSl) (o s : W) (v : Val) : MSl := ⟨(seS x o s v).rh, (seS x o s v).rb, x.v⟩
def stDF (f : Fra) (o s : W) (v : Val) : Fra :=
  muxF (cS f v s) zF (muxF (v.k == 0#8) zF (muxF (cP o s) zF (muxF (addrD v) (muxF (ltB .i64 s 8#64) zF (updF f (kO o) (adM v)))
    (muxF (addrD (slotAt f o).v) (updF f (kO o) (seM nilM o s v)) (updF f (kO o) (seM (slotAt f o) o s v))))))
def stDE (f : Fra) (o s : W) (v : Val) : W :=
  bif cS f v s then 1#64 else bif v.k == 0#8 then 40#64 else bif cP o s then placeW o s else bif addrD v then (bif ltB .i64 s 8#64 then 41#64 else 0#64) else 0#64
noncomputable def hSe : FuncId → Hook := fun f p => if f == 18 && p == pSe then some (lpSe.hk SeS.T) else none
theorem a18 (f : Fra) (o s : W) (v : Val) : (fg (evalN Try.prog (tabOf ma6) hSe 5 18 [cFra.enc f, cI.enc o, cI.enc s, cVal.enc v])).map (·.1) = some (pair (eFra (stDF f o s v)) (eI (stDE f o s v))) := by kernel_rfl
theorem seS_inv {x : MSl} {o s : W} {v : Val} (h : PlaceOk o s) : (seS x o s v).inv := by
  have h1 := h.rem
  have h2 := h.room
  refine ⟨?_, ?_⟩
  · show (0#64 : W).toNat ≤ _
    exact Nat.zero_le _
  · show (remI o 8#64).toNat + s.toNat ≤ 8
    omega
def ixK (o : W) : Prop := 0 ≤ toZ .i64 (qI o) ∧ toZ .i64 (qI o) < ((64 : Nat) : Int)
noncomputable def obSe (f : Fra) (o s : W) (v : Val) : List (List Bool × Prop) :=
  [([!(v.k == 0#8), !cS f v s], s ≠ 0#64), ([!cP o s, !(v.k == 0#8), !cS f v s], ixK o), ([!cP o s, !(v.k == 0#8), !cS f v s], kO o < 64),
   ([!ltB .i64 s 8#64, addrD v, !cP o s, !(v.k == 0#8), !cS f v s], ixK o), ([!ltB .i64 s 8#64, addrD v, !cP o s, !(v.k == 0#8), !cS f v s], kO o < 64),
   ([addrD (slotAt f o).v, !addrD v, !cP o s, !(v.k == 0#8), !cS f v s], LoopGoal Try.prog (loopAt Try.prog 18 pSe) lpSe SeS.T (seS nilM o s v) 4 94 0),
   ([addrD (slotAt f o).v, !addrD v, !cP o s, !(v.k == 0#8), !cS f v s], ixK o), ([addrD (slotAt f o).v, !addrD v, !cP o s, !(v.k == 0#8), !cS f v s], kO o < 64),
   ([!addrD (slotAt f o).v, !addrD v, !cP o s, !(v.k == 0#8), !cS f v s], LoopGoal Try.prog (loopAt Try.prog 18 pSe) lpSe SeS.T (seS (slotAt f o) o s v) 4 94 0),
   ([!addrD (slotAt f o).v, !addrD v, !cP o s, !(v.k == 0#8), !cS f v s], ixK o), ([!addrD (slotAt f o).v, !addrD v, !cP o s, !(v.k == 0#8), !cS f v s], kO o < 64)]
theorem obSe_ok (f : Fra) (o s : W) (v : Val) : ∀ e ∈ obSe f o s v, (∀ g ∈ e.1, g = true) → e.2 := by
  intro e he hg
  simp only [obSe, List.mem_cons, List.not_mem_nil, or_false] at he
  rcases he with rfl | rfl | rfl | rfl | rfl | rfl | rfl | rfl | rfl | rfl | rfl
  · exact size_pos (not_cS (hg (!cS f v s) (by simp))).2.2
  all_goals
    have h := place_ok (not_cS (hg (!cS f v s) (by simp))).2.2 (not_cP (hg (!cP o s) (by simp)))
    first
      | exact kO_lt h
      | exact ⟨(qI_ix h).1, (qI_ix h).2.1⟩
      | exact goalSe _ (seS_inv h)
theorem b18 (f : Fra) (o s : W) (v : Val) : (fg (evalN Try.prog (tabOf ma6) hSe 5 18 [cFra.enc f, cI.enc o, cI.enc s, cVal.enc v])).map (·.2) = some (obSe f o s v) := by kernel_rfl
theorem kk18 : ConOk Try.prog 18 (con4 cFra cI cI cVal fun f o s v => pair (eFra (stDF f o s v)) (eI (stDE f o s v))) :=
  con4_ok rma6 (Λ := hSe) 5 (fun _ _ _ _ => rfl) (fun f o s v => Ev.fg2 (a18 f o s v) (b18 f o s v) (obSe_ok f o s v))
end Go.Rf
