/- Codes of structs with any number of fields. -/
import Derived.Test.YtpmbaddpcahnfaaRf20
set_option linter.unusedVariables false
set_option linter.unusedSimpArgs false
namespace Go.Rf

def FCod.nilR : FCod Unit where
  dec v := match v with
    | .nil => some fun _ => ()
    | _ => none
  enc _ := .nil
  pf _ := rfl
  dp _ := true
  spec v x h := by
    split at h <;> simp at h
    exact ⟨rfl, fun _ _ _ => rfl⟩
  bg _ _ := rfl
  loc _ _ _ _ _ _ := rfl

def FCod.consR {α β : Type} (ca : FCod α) (cb : FCod β) : FCod (α × β) where
  dec v := match v with
    | .cons a b => match ca.dec a, cb.dec b with
      | some x, some y => some fun ix => (x ix, y ix)
      | _, _ => none
    | _ => none
  enc g := .cons (ca.enc fun ix => (g ix).1) (cb.enc fun ix => (g ix).2)
  pf g := by simp [Rf.pf, ca.pf, cb.pf]
  dp d := ca.dp d && cb.dp d
  spec v x h := by
    split at h <;> try (simp at h; done)
    split at h <;> simp at h
    rename_i a b x1 y1 e1 e2
    subst h
    refine ⟨rfl, fun E ix hd => ?_⟩
    simp only [Bool.and_eq_true] at hd
    simp only [cells, (ca.spec _ _ e1).2 E ix hd.1, (cb.spec _ _ e2).2 E ix hd.2]
  bg _ _ := rfl
  loc E x y ix hd h := by
    simp only [Bool.and_eq_true] at hd
    simp only [cells]
    rw [ca.loc E _ (fun ix => (y ix).1) ix hd.1 (by simp only [h]), cb.loc E _ (fun ix => (y ix).2) ix hd.2 (by simp only [h])]

def FCod.aggR {ρ γ : Type} (r : FCod ρ) (mk : ρ → γ) (un : γ → ρ) (hu : ∀ x, un (mk x) = x) : FCod γ where
  dec v := match v with
    | .agg fs => match r.dec fs with
      | some x => some fun ix => mk (x ix)
      | none => none
    | _ => none
  enc g := .agg (r.enc fun ix => un (g ix))
  pf g := r.pf _
  dp := r.dp
  spec v x h := by
    split at h <;> try (simp at h; done)
    split at h <;> simp at h
    rename_i fs y e
    subst h
    refine ⟨rfl, fun E ix hd => ?_⟩
    simp only [cells, (r.spec _ _ e).2 E ix hd, hu]
  bg _ _ := rfl
  loc E x y ix hd h := by
    simp only [cells]
    exact r.loc E _ _ ix hd (by simp only [h])
end Go.Rf
