/- States: Begin, the awake test. -/
import Derived.Test.YtflnkcibjebdeaaSt21
set_option linter.unusedVariables false
set_option linter.unusedSimpArgs false
set_option maxRecDepth 100000
namespace Go.Rf
open Go.Proofs
theorem as_con0 {P : Program} {f : FuncId} {g g' : AV} (h : ConOk P f (con0 g)) (hp : pfT g' = true) (e : valT E0 g = valT E0 g') : ConOk P f (con0 g') :=
  ConOk.as h fun args r ob hK => by
    unfold con0 at hK ⊢
    split at hK <;> simp at hK
    obtain ⟨rfl, rfl⟩ := hK
    exact ⟨g, rfl, hp, e⟩
def rg1 : Reg := ⟨2#8, false, 0#64, nilC, 0#64, 0#64⟩
def rg10 (lo hi : W) : Reg := ⟨4#8, false, 0#64, nilC, lo, hi⟩
def begP : Sta := ⟨updR (updR (fun _ => nilR) 1 rg1) 10 (rg10 512#64 512#64), fun _ => nilS', 0#64⟩
def begD : Sta := ⟨updR (updR (updR (updR (fun _ => nilR) 1 rg1) 10 (rg10 0#64 0#64)) 10 (rg10 512#64 0#64)) 10 (rg10 512#64 512#64), fun _ => nilS', 0#64⟩
def beginS : Sta := ⟨fun j => if j = 10 then rg10 512#64 512#64 else if j = 1 then rg1 else nilR, fun _ => nilS', 0#64⟩
def vl1 : Val := ⟨2#8, 0#64, 0#64, 0#64⟩
def vl10 (o : W) : Val := ⟨4#8, 0#64, 0#64, o⟩
def updV (f : Nat → Val) (i : Nat) (v : Val) : Nat → Val := fun j => ⟨if j = i then v.k else (f j).k, if j = i then v.m else (f j).m, if j = i then v.n else (f j).n, if j = i then v.o else (f j).o⟩
def startV : Vw := ⟨updV (updV (fun _ => nilV) 1 vl1) 10 (vl10 512#64), fun _ => nilM, 60#64⟩
theorem kk13 : ConOk Try.prog 13 (con0 (eSta begP)) := con0_ok rsv10 (Λ := noHooks) 6 rfl (Ev.fl (g := true) (L := [1 < 11, 10 < 11]) (by kernel_rfl) (fun _ p hp => by
  simp only [List.mem_cons, List.not_mem_nil, or_false] at hp
  rcases hp with rfl | rfl <;> decide))
theorem kk14 : ConOk Try.prog 14 (con0 (eSta begD)) := con0_ok rsv10 (Λ := noHooks) 6 rfl (Ev.fl (g := true) (L := [1 < 11, 10 < 11, 10 < 11, 10 < 11]) (by kernel_rfl) (fun _ p hp => by
  simp only [List.mem_cons, List.not_mem_nil, or_false] at hp
  rcases hp with rfl | rfl | rfl | rfl <;> decide))
theorem k28 : ConOk Try.prog 28 (con0 (eVw startV)) := con0_ok rsv10 (Λ := noHooks) 6 rfl (Ev.fl (g := true) (L := [1 < 11, 10 < 11]) (by kernel_rfl) (fun _ p hp => by
  simp only [List.mem_cons, List.not_mem_nil, or_false] at hp
  rcases hp with rfl | rfl <;> decide))
theorem k13 : ConOk Try.prog 13 (con0 (eSta beginS)) := as_con0 kk13 rfl (sta_val (fun i hi => by simp only [begP, beginS, updR_eq]) (fun _ _ => rfl) rfl)
theorem k14 : ConOk Try.prog 14 (con0 (eSta beginS)) := as_con0 kk14 rfl (sta_val (fun i hi => by
  simp only [begD, beginS, updR_eq]
  by_cases h : i = 10 <;> simp [h]) (fun _ _ => rfl) rfl)
noncomputable def sv11 : List (FuncId × Con) := (13, con0 (eSta beginS)) :: (14, con0 (eSta beginS)) :: (28, con0 (eVw startV)) :: sv10
theorem rsv11 : TabOk Try.prog (tabOf sv11) := tabOf_cons (tabOf_cons (tabOf_cons rsv10 k28) k14) k13
theorem ev15 : Ev Try.prog (tabOf sv11) noHooks 6 15 [] (eB true) := by
  have h1 : (fl (evalN Try.prog (tabOf sv11) noHooks 6 15 [])).map (fun y => (y.1, y.2.2)) = some (eB true, [10 < 11, 0 < 11, 0 < 11, 0 < 11]) := by kernel_rfl
  cases e : fl (evalN Try.prog (tabOf sv11) noHooks 6 15 []) with
  | none => rw [e] at h1; cases h1
  | some x =>
    obtain ⟨r, g, L⟩ := x
    rw [e] at h1
    simp only [Option.map_some, Option.some.injEq, Prod.mk.injEq] at h1
    obtain ⟨rfl, rfl⟩ := h1
    refine Ev.fl e (fun _ p hp => ?_)
    simp only [List.mem_cons, List.not_mem_nil, or_false] at hp
    rcases hp with rfl | rfl | rfl | rfl <;> decide
theorem k15 : ConOk Try.prog 15 (con0 (eB true)) := con0_ok rsv11 (Λ := noHooks) 6 rfl ev15
noncomputable def sv12 : List (FuncId × Con) := (15, con0 (eB true)) :: sv11
theorem rsv12 : TabOk Try.prog (tabOf sv12) := tabOf_cons rsv11 k15
end Go.Rf
