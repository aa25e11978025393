/- One operation: what it comes to on symbolic data, before memory is asked; and that the machine's operation comes to just that. -/
import Derived.Test.YtpmbaddpcahnfaaRf3
set_option linter.unusedVariables false
set_option linter.unusedSimpArgs false
namespace Go.Rf

theorem fold_put (off : Nat) : ∀ (l : List Value) (k : Nat) (cs : Array Value), off + k + l.length ≤ cs.size →
    (l.zipIdx k).foldl (fun cs x => cs.setIfInBounds (off + x.2) x.1) cs = (cs.toList.take (off + k) ++ l ++ cs.toList.drop (off + k + l.length)).toArray
  | [], k, cs, _ => by simp
  | v :: l, k, cs, h => by
    simp only [List.zipIdx_cons, List.foldl_cons]
    rw [fold_put off l (k + 1) _ (by simp at h ⊢; omega)]
    apply Array.ext'
    have := list_seg_step cs.toList (off + k) v l (by simp at h ⊢; omega)
    simp only [Array.toList_setIfInBounds]
    simpa [Nat.add_assoc] using this

theorem fill_cons (place : Nat → Option (Nat × Nat)) (cs : Array Value) (i : Nat) (v : Value) (rest : List (Nat × Value)) (off n : Nat) (hp : place i = some (off, n))
    (hn : v.cells.size = n) (pre mid post : List Value) (hc : cs.toList = pre ++ mid ++ post) (hl : pre.length = off) (hm : mid.length = n) :
    Instr.fill place cs ((i, v) :: rest) = Instr.fill place (pre ++ v.cells.toList ++ post).toArray rest := by
  have hs : cs.size = pre.length + mid.length + post.length := by
    rw [← Array.length_toList, hc]; simp; omega
  have hf : (v.cells.zipIdx.foldl (fun cs (c, j) => cs.setIfInBounds (off + j) c) cs) = (pre ++ v.cells.toList ++ post).toArray := by
    rw [← Array.foldl_toList, Array.toList_zipIdx]
    have := fold_put off v.cells.toList 0 cs (by simp [hs, hl, hn, hm])
    simp only [Nat.add_zero] at this
    rw [this, hc]
    congr 1
    have h1 : (pre ++ mid ++ post).take off = pre := by rw [← hl]; simp
    have h2 : (pre ++ mid ++ post).drop (off + v.cells.toList.length) = post := by
      have : off + v.cells.toList.length = (pre ++ mid).length := by simp [hl, hn, hm]
      rw [this, List.drop_left]
    rw [h1, h2]
  simp only [Instr.fill, hp]
  rw [if_neg (by simp [hn, hs, ← hl, hm]), hf]

def szT (P : Program) (T : TypeId) : Option Nat := (P.info? T).map (·.size)

/-- A struct or an array with parts put anew. -/
def putParts (P : Program) (d : TypeDesc) : AV → List (Nat × AV) → Option AV
  | z, [] => some z
  | z, (i, u) :: rest =>
    if sca u || big u then
      match d with
      | .struct fs => match fs[i]? with
        | some f => if szT P f.type == some (sz u) then match set [.fld i f.offset] z u with
          | some z' => putParts P d z' rest
          | none => none
          else none
        | none => none
      | .array n e => if i < n && szT P e == some (sz u) then match z with
        | .arr m b => if m == n then match set [.idx i (sz u)] (.arr m b) u with
          | some z' => putParts P d z' rest
          | none => none
          else none
        | _ => none
        else none
      | _ => none
    else none

def sizesOk (P : Program) (fs : Array Field) : Bool := (fs.toList.mapM (fun f => (P.info? f.type).map fun i => (f.offset, i.size))).isSome

def buildAV (P : Program) (T : TypeId) (parts : List (Nat × AV)) : Option AV :=
  match zeroAV P T, P.underlying T with
  | some z, some (.struct fs) => if sizesOk P fs && big z then putParts P (.struct fs) z parts else none
  | some z, some (.array n e) => if (P.info? e).isSome && big z then putParts P (.array n e) z parts else none
  | _, _ => none

theorem big_set {s : Stp} {p : List Stp} {z u z' : AV} (h : set (s :: p) z u = some z') : big z' = true := by
  cases s <;> cases z <;> simp only [set, reduceCtorEq] at h <;> (repeat' split at h) <;> simp only [Option.map_eq_some_iff, reduceCtorEq] at h
  · obtain ⟨_, _, rfl⟩ := h; rfl
  · obtain ⟨_, _, rfl⟩ := h; rfl

theorem putParts_fill {P : Program} (E : Env) (d : TypeDesc) (place : Nat → Option (Nat × Nat))
    (hpl : match d with
      | .struct fs => ∀ i f n, fs[i]? = some f → szT P f.type = some n → place i = some (f.offset, n)
      | .array n e => ∀ i s, szT P e = some s → place i = some (i * s, s)
      | _ => True) : ∀ (parts : List (Nat × AV)) (z r : AV), putParts P d z parts = some r → ok E z → (∀ x ∈ parts, ok E x.2) →
      Instr.fill place (cells E [] z).toArray (parts.map fun x => (x.1, val E x.2)) = some (cells E [] r).toArray ∧ ok E r ∧ (big z = true → big r = true)
  | [], z, r, h, hz, _ => by
    simp [putParts] at h
    subst h
    exact ⟨by simp [Instr.fill], hz, id⟩
  | (i, u) :: rest, z, r, h, hz, hps => by
    simp only [putParts] at h
    split at h <;> try (simp at h; done)
    rename_i hsb
    simp only [Bool.or_eq_true] at hsb
    have hcells := val_cells (E := E) hsb
    have hvs : (val E u).cells.size = sz u := by rw [hcells]; simp [length_cells]
    split at h <;> try (simp at h; done)
    · rename_i fs
      split at h <;> try (simp at h; done)
      rename_i f hf
      split at h <;> try (simp at h; done)
      rename_i hsz
      split at h <;> try (simp at h; done)
      rename_i z' hset
      simp at hsz
      have hb : getB [.fld i f.offset] z := by
        cases z <;> simp [getB]
        split <;> trivial
      obtain ⟨pre, mid, post, he, hl, hm, he'⟩ := set_cells E [.fld i f.offset] z u z' hset hb
      have ih := putParts_fill E _ place hpl rest z' r h (set_ok E _ _ _ _ hset hz (show ok E u from hps (i, u) List.mem_cons_self)) (fun x hx => hps x (by simp [hx]))
      refine ⟨?_, ih.2.1, fun _ => ih.2.2 (big_set hset)⟩
      rw [List.map_cons, fill_cons place _ i (val E u) _ f.offset (sz u) (hpl i f (sz u) hf hsz) hvs pre mid post (by simpa using he) (by simpa [offOf] using hl) hm]
      rw [hcells]
      simp only [List.toList_toArray]
      rw [← he']
      exact ih.1
    · rename_i n e
      split at h <;> try (simp at h; done)
      rename_i hi
      split at h <;> try (simp at h; done)
      rename_i m b
      split at h <;> try (simp at h; done)
      rename_i hmn
      split at h <;> try (simp at h; done)
      rename_i z' hset
      simp at hi hmn
      subst hmn
      obtain ⟨hi, hsz⟩ := hi
      have hb : getB [.idx i (sz u)] (.arr m b) := ⟨hi, by cases (inst i b) <;> trivial⟩
      obtain ⟨pre, mid, post, he, hl, hm, he'⟩ := set_cells E [.idx i (sz u)] (.arr m b) u z' hset hb
      have ih := putParts_fill E _ place hpl rest z' r h (set_ok E _ _ _ _ hset hz (show ok E u from hps (i, u) List.mem_cons_self)) (fun x hx => hps x (by simp [hx]))
      refine ⟨?_, ih.2.1, fun _ => ih.2.2 (big_set hset)⟩
      rw [List.map_cons, fill_cons place _ i (val E u) _ (i * sz u) (sz u) (hpl i _ hsz) hvs pre mid post (by simpa using he) (by simpa [offOf] using hl) hm]
      rw [hcells]
      simp only [List.toList_toArray]
      rw [← he']
      exact ih.1

theorem mapM_get {α β : Type} (f : α → Option β) : ∀ (l : List α) (r : List β), l.mapM f = some r → ∀ (i : Nat) (a : α), l[i]? = some a → r[i]? = f a
  | [], r, h, i, a, ha => by simp at ha
  | x :: l, r, h, i, a, ha => by
    simp only [List.mapM_cons, Option.bind_eq_bind, Option.pure_def] at h
    cases hx : f x with
    | none => simp [hx] at h
    | some y =>
      cases hl : l.mapM f with
      | none => simp [hx, hl] at h
      | some ys =>
        simp [hx, hl] at h
        subst h
        cases i with
        | zero => simp at ha; subst ha; simp [hx]
        | succ i => simp at ha ⊢; exact mapM_get f l ys hl i a ha

theorem buildAV_run {P : Program} {T : TypeId} {parts : List (Nat × AV)} {r : AV} (h : buildAV P T parts = some r) (E : Env) (hps : ∀ x ∈ parts, ok E x.2) (w : World) :
    (Instr.build T (parts.map fun x => (x.1, val E x.2)).toArray).run P w = .ok (val E r) w ∧ ok E r := by
  unfold buildAV at h
  split at h <;> try (simp at h; done)
  · rename_i z fs hz hu
    split at h <;> try (simp at h; done)
    rename_i hc
    simp only [Bool.and_eq_true] at hc
    obtain ⟨v, hv, hvc, hvo⟩ := zeroAV_spec hz
    obtain ⟨places, hpl⟩ := Option.isSome_iff_exists.1 hc.1
    have key := putParts_fill (P := P) E (.struct fs) (places.toArray[·]?) (by
      intro i f n hf hn
      have := mapM_get _ _ _ hpl i f (by simpa using hf)
      simp only [szT] at hn
      cases hi : P.info? f.type with
      | none => simp [hi] at hn
      | some inf =>
        simp [hi] at hn this
        simp [this, hn]) parts z r h (hvo E) hps
    have hbig := key.2.2 hc.2
    refine ⟨?_, key.2.1⟩
    rw [val_big hbig]
    refine run_build w T _ _ ?_
    unfold zeroAV at hz
    split at hz <;> try (simp at hz; done)
    rename_i z' inf _ hinf
    split at hz <;> try (simp at hz; done)
    rename_i v' hv'
    have hvv : v' = v := by
      have := hv w
      simp [zeroValue, typeInfo, hinf, hv'] at this
      exact this
    simp only [Program.built, hinf, hu, hv', hpl]
    rw [hvv, hvc E]
    exact key.1
  · rename_i z n e hz hu
    split at h <;> try (simp at h; done)
    rename_i hc
    simp only [Bool.and_eq_true] at hc
    obtain ⟨v, hv, hvc, hvo⟩ := zeroAV_spec hz
    obtain ⟨ie, hie⟩ := Option.isSome_iff_exists.1 hc.1
    have key := putParts_fill (P := P) E (.array n e) (fun i => some (i * ie.size, ie.size)) (by
      intro i s hs
      simp [szT, hie] at hs
      simp [hs]) parts z r h (hvo E) hps
    have hbig := key.2.2 hc.2
    refine ⟨?_, key.2.1⟩
    rw [val_big hbig]
    refine run_build w T _ _ ?_
    unfold zeroAV at hz
    split at hz <;> try (simp at hz; done)
    rename_i z' inf _ hinf
    split at hz <;> try (simp at hz; done)
    rename_i v' hv'
    have hvv : v' = v := by
      have := hv w
      simp [zeroValue, typeInfo, hinf, hv'] at this
      exact this
    simp only [Program.built, hinf, hu, hv', hie]
    rw [hvv, hvc E]
    exact key.1

end Go.Rf
