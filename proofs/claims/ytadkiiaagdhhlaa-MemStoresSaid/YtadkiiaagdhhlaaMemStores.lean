/- Proved: the law MemStores answers true at every input: rows of stores into any frame come to the document's frames. No condition. -/
import Derived.Test.YtadkiiaagdhhlaaMas
import Derived.Test.YtadkiiaagdhhlaaMaK
set_option linter.unusedVariables false
set_option linter.unusedSimpArgs false
set_option maxRecDepth 100000
namespace Go.Rf
open Go.Proofs Go.Proofs.Ytadkiiaagdhhlaa
def sMSl : Sh := .agg (.cons (.int .u8) (.cons (.arr 8 (.int .u8)) (.cons sVal .nil)))
def sFra : Sh := .arr 64 sMSl
def mkMSl (x : sMSl.T) : MSl := ⟨x.1, x.2.1, mkVal x.2.2.1⟩
def mkFra (x : sFra.T) : Fra := fun i => mkMSl (x i)
theorem enc_Fra (x : sFra.T) : sFra.enc x = eFra (mkFra x) := by kernel_rfl
def zFra : Value := .agg ((List.range 64).flatMap (fun _ => ([.int .u8 0, .int .u8 0, .int .u8 0, .int .u8 0, .int .u8 0, .int .u8 0, .int .u8 0, .int .u8 0, .int .u8 0, .int .u8 0, .int .i64 0, .int .u64 0, .int .i64 0] : List Value))).toArray

theorem lift4 (os : Os) (started : os.Started) (H : Type) (enc : TypeId × Value → H) :
    ReturnsInHanded {} Try.checked os 4 .any (Rows.memStoresSpec.pre6 enc Try.prog Try.f4 [] false) (Rows.memStoresSpec.post enc Try.prog Try.f4 false true false false) :=
  law_liftS (C := Try.checked) (tb := 4) [sFra] sAct [] [29] 43 45 [] own started (by kernel_rfl) Try.func4
    (witZ (enc := enc) (C := Try.checked) [zFra, .slice none 0 0] 8 Try.func4 (by kernel_rfl) (by kernel_rfl) (by kernel_rfl) (by kernel_rfl) (by kernel_rfl) (by kernel_rfl) (by kernel_rfl))
    rfl (by kernel_rfl) (by kernel_rfl) (by kernel_rfl) (by kernel_rfl) rfl Try.underlying4 rfl
    (fun ds h => match ds, h with | [_, _], _ => rfl)
    (by kernel_rfl) (by kernel_rfl)
    (fun xs ys ao cap w => match xs, ys with
      | (x, ()), () => empS (l1 := [sFra]) (l2 := []) (xs := (x, ())) (ys := ()) rma9 (Λ := hSte ao cap) (n := 8) (args1 := [eFra (mkFra x)]) (args2 := []) (enc1 (enc_Fra x)) rfl (encs_ok (l := [sFra]) (ts := [29]) (by kernel_rfl) (x, ())) nil_ok
        (fl_two ((a4e ao cap (mkFra x)).trans (congrArg (fun b => some (eB b)) (lawSt_true _))) (b4e ao cap (mkFra x)) (obSte_ok ao cap _)))
    (fun xs ys D w hD => match xs, ys with
      | (x, ()), () => nonS (l1 := [sFra]) (l2 := []) (xs := (x, ())) (ys := ()) rma9 (Λ := hSt D) (n := 8) hD (arr_good _) (args1 := [eFra (mkFra x)]) (args2 := []) (enc1 (enc_Fra x)) rfl (encs_ok (l := [sFra]) (ts := [29]) (by kernel_rfl) (x, ())) nil_ok
        (fl_two ((a4 D (mkFra x)).trans (congrArg (fun b => some (eB b)) (lawSt_true _))) (b4 D (mkFra x)) (obSt_ok hD _)))

theorem memStores_row : Rows.MemStoresSaid :=
  OpenClaim.holds_of_wide 4 Try.f4 rfl rfl rfl rfl rfl rfl rfl ⟨rfl, rfl, rfl, rfl, rfl⟩ rfl rfl rfl rfl rfl (by kernel_rfl) Try.func4 (by kernel_rfl)
    (of_decide_eq_true (by kernel_rfl)) (by unfold Func.isWrapper; first | (rw [if_pos (by decide +kernel)]; kernel_rfl) | (rw [if_neg (by decide +kernel)]; exact ⟨rfl, rfl⟩))
    (fun os started H enc _ => lift4 os started H enc)
end Go.Rf

namespace Go.Proofs.Ytadkiiaagdhhlaa
theorem memStores_holds : Rows.MemStoresSaid := Go.Rf.memStores_row
end Go.Proofs.Ytadkiiaagdhhlaa
