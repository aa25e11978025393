/- Memory: the law MemKnown: its code and states. -/
import Derived.Test.YtadkiiaagdhhlaaMeXB
set_option linter.unusedVariables false
set_option linter.unusedSimpArgs false
set_option maxRecDepth 100000
namespace Go.Rf
open Go.Proofs

noncomputable def V0 : List Oper := opsM 10 [0]
noncomputable def V1 : List Oper := opsM 10 [1,0,0]
noncomputable def V2 : List Oper := opsM 10 [1,0,1,2,0]
noncomputable def V3 : List Oper := opsM 10 [1,1,0]
noncomputable def V4 : List Oper := opsM 10 [1, 1, 1, 0]
noncomputable def V5 : List Oper := opsM 10 [1, 1, 1, 1, 0]
noncomputable def V6 : List Oper := opsM 10 [1, 1, 1, 1, 1, 0]
noncomputable def V7 : List Oper := opsM 10 [1, 1, 1, 1, 1, 1, 0]
noncomputable def V8 : List Oper := opsM 10 [1, 1, 1, 1, 1, 1, 1, 0, 0]
noncomputable def V9 : List Oper := opsM 10 [1, 1, 1, 1, 1, 1, 1, 0, 1, 2, 0]
noncomputable def V10 : List Oper := opsM 10 [1, 1, 1, 1, 1, 1, 1, 1, 0]
noncomputable def V11 : List Oper := opsM 10 [1, 1, 1, 1, 1, 1, 1, 1, 1, 0]
noncomputable def V12 : List Oper := opsM 10 [1, 1, 1, 1, 1, 1, 1, 1, 1, 1, 0]
noncomputable def V13 : List Oper := opsM 10 [1, 1, 1, 1, 1, 1, 1, 1, 1, 1, 1, 0]
noncomputable def V14 : List Oper := opsM 10 [1, 1, 1, 1, 1, 1, 1, 1, 1, 1, 1, 1, 0, 0]
noncomputable def V15 : List Oper := opsM 10 [1, 1, 1, 1, 1, 1, 1, 1, 1, 1, 1, 1, 0, 1, 2, 0]
noncomputable def V17 : List Oper := opsM 10 [1, 1, 1, 1, 1, 1, 1, 1, 1, 1, 1, 1, 1, 1, 0]
noncomputable def V18 : List Oper := opsM 10 [1, 1, 1, 1, 1, 1, 1, 1, 1, 1, 1, 1, 1, 1, 1, 0]
noncomputable def V19 : List Oper := opsM 10 [1, 1, 1, 1, 1, 1, 1, 1, 1, 1, 1, 1, 1, 1, 1, 1, 0]
noncomputable def V20 : List Oper := opsM 10 [1, 1, 1, 1, 1, 1, 1, 1, 1, 1, 1, 1, 1, 1, 1, 1, 1, 0]
noncomputable def V16 : Code := codM 10 [1, 1, 1, 1, 1, 1, 1, 1, 1, 1, 1, 1, 1, 0]
noncomputable def V21 : Code := codM 10 [1, 1, 1, 1, 1, 1, 1, 1, 1, 1, 1, 1, 1, 1, 1, 1, 1, 1, 0]
theorem body10 : Try.f10.body = some (.seq (.region 0 V0.toArray false) (.seq (.seq (.region 1 V1.toArray false) (retIf 43 2 V2)) (.seq (.region 3 V3.toArray false) (.seq (.region 4 V4.toArray false) (.seq (.region 5 V5.toArray false) (.seq (.region 6 V6.toArray false) (.seq (.region 7 V7.toArray false) (.seq (.seq (.region 8 V8.toArray false) (retIf 79 9 V9)) (.seq (.region 10 V10.toArray false) (.seq (.region 11 V11.toArray false) (.seq (.region 12 V12.toArray false) (.seq (.region 13 V13.toArray false) (.seq (.seq (.region 14 V14.toArray false) (retIf 111 15 V15)) (.seq V16 (.seq (.region 17 V17.toArray false) (.seq (.region 18 V18.toArray false) (.seq (.region 19 V19.toArray false) (.seq (.region 20 V20.toArray false) (.seq V21 .ret))))))))))))))))))) := by kernel_rfl
noncomputable def c0k : St := outM (evalList cxM V0 (St.enter [] (fun _ => none) 0 169))
theorem ec0 : ∃ ob, evalList cxM V0 (St.enter [] (fun _ => none) 0 169) = some (c0k, ob) ∧ ob.holds := fl_two (L := []) (by kernel_rfl) (by kernel_rfl) (by simp)
noncomputable def c1k : St := outM (evalList cxM V1 c0k)
theorem ec1 : ∃ ob, evalList cxM V1 c0k = some (c1k, ob) ∧ ob.holds := fl_two (L := []) (by kernel_rfl) (by kernel_rfl) (by simp)
noncomputable def c3k : St := outM (evalList cxM V3 c1k)
theorem ec3 : ∃ ob, evalList cxM V3 c1k = some (c3k, ob) ∧ ob.holds := fl_two (L := []) (by kernel_rfl) (by kernel_rfl) (by simp)
noncomputable def c4k : St := outM (evalList cxM V4 c3k)
theorem ec4 : ∃ ob, evalList cxM V4 c3k = some (c4k, ob) ∧ ob.holds := fl_two (L := []) (by kernel_rfl) (by kernel_rfl) (by simp)
noncomputable def c5k : St := outM (evalList cxM V5 c4k)
theorem ec5 : ∃ ob, evalList cxM V5 c4k = some (c5k, ob) ∧ ob.holds := fl_two (L := []) (by kernel_rfl) (by kernel_rfl) (by simp)
noncomputable def c6k : St := outM (evalList cxM V6 c5k)
theorem ec6 : ∃ ob, evalList cxM V6 c5k = some (c6k, ob) ∧ ob.holds := fl_two (L := []) (by kernel_rfl) (by kernel_rfl) (by simp)
noncomputable def c7k : St := outM (evalList cxM V7 c6k)
theorem ec7 : ∃ ob, evalList cxM V7 c6k = some (c7k, ob) ∧ ob.holds := fl_two (L := []) (by kernel_rfl) (by kernel_rfl) (by simp)
noncomputable def c8k : St := outM (evalList cxM V8 c7k)
theorem ec8 : ∃ ob, evalList cxM V8 c7k = some (c8k, ob) ∧ ob.holds := fl_two (L := []) (by kernel_rfl) (by kernel_rfl) (by simp)
noncomputable def c10k : St := outM (evalList cxM V10 c8k)
theorem ec10 : ∃ ob, evalList cxM V10 c8k = some (c10k, ob) ∧ ob.holds := fl_two (L := []) (by kernel_rfl) (by kernel_rfl) (by simp)
noncomputable def c11k : St := outM (evalList cxM V11 c10k)
theorem ec11 : ∃ ob, evalList cxM V11 c10k = some (c11k, ob) ∧ ob.holds := fl_two (L := []) (by kernel_rfl) (by kernel_rfl) (by simp)
noncomputable def c12k : St := outM (evalList cxM V12 c11k)
theorem ec12 : ∃ ob, evalList cxM V12 c11k = some (c12k, ob) ∧ ob.holds := fl_two (L := []) (by kernel_rfl) (by kernel_rfl) (by simp)
noncomputable def c13k : St := outM (evalList cxM V13 c12k)
theorem ec13 : ∃ ob, evalList cxM V13 c12k = some (c13k, ob) ∧ ob.holds := fl_two (L := []) (by kernel_rfl) (by kernel_rfl) (by simp)
noncomputable def c14k : St := outM (evalList cxM V14 c13k)
theorem ec14 : ∃ ob, evalList cxM V14 c13k = some (c14k, ob) ∧ ob.holds := fl_two (L := []) (by kernel_rfl) (by kernel_rfl) (by simp)
noncomputable def c16k : St := outK (evalCode cxM (fun _ => none) V16 [] c14k)
theorem ec16 : ∃ ob, evalCode cxM (fun _ => none) V16 [] c14k = some (.norm c16k, ob) ∧ ob.holds := fl_two (L := []) (by kernel_rfl) (by kernel_rfl) (by simp)
noncomputable def c17k : St := outM (evalList cxM V17 c16k)
theorem ec17 : ∃ ob, evalList cxM V17 c16k = some (c17k, ob) ∧ ob.holds := fl_two (L := []) (by kernel_rfl) (by kernel_rfl) (by simp)
noncomputable def c18k : St := outM (evalList cxM V18 c17k)
theorem ec18 : ∃ ob, evalList cxM V18 c17k = some (c18k, ob) ∧ ob.holds := fl_two (L := []) (by kernel_rfl) (by kernel_rfl) (by simp)
end Go.Rf
