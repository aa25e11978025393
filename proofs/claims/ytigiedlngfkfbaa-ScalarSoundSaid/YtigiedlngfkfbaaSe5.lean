/- Scalars: what a condition tells, the document's, walked. -/
import Derived.Test.YtigiedlngfkfbaaSe4
set_option linter.unusedVariables false
set_option linter.unusedSimpArgs false
set_option maxRecDepth 100000
namespace Go.Rf
open Go.Proofs
def fitD (w : Bool) (x : W) : W := bif w then x else remB .u64 x 4294967296#64
def turnD (w : Bool) (x : W) : W := fitD w x ^^^ (1#64 <<< (amt .u64 ((bif w then 64#64 else 32#64) - 1#64)))
def clD (w : Bool) (a b : W) : List (W × Bool) := [(1#64, fitD w a == fitD w b), (2#64, ltB .u64 (fitD w b) (fitD w a)), (3#64, leB .u64 (fitD w b) (fitD w a)), (4#64, ltB .u64 0#64 (fitD w a &&& fitD w b)), (5#64, fitD w a != fitD w b),
  (6#64, ltB .u64 (turnD w b) (turnD w a)), (7#64, leB .u64 (turnD w b) (turnD w a)), (10#64, ltB .u64 (fitD w a) (fitD w b)), (11#64, leB .u64 (fitD w a) (fitD w b)), (12#64, ltB .u64 (turnD w a) (turnD w b)), (13#64, leB .u64 (turnD w a) (turnD w b))]
def clDE : List (W × W) := [(1#64, 0#64), (2#64, 0#64), (3#64, 0#64), (4#64, 0#64), (5#64, 0#64), (6#64, 0#64), (7#64, 0#64), (10#64, 0#64), (11#64, 0#64), (12#64, 0#64), (13#64, 0#64)]
def condDV (op : W) (w : Bool) (a b : W) : Bool := chain op (clD w a b) false
def condDE (op : W) : W := chain op clDE 20#64
theorem k35 : ConOk Try.prog 35 (con4 cI cBl cW cW fun op w a b => pair (eB (condDV op w a b)) (eI (condDE op))) :=
  con4_ok rsf3 (Λ := noHooks) 5 (fun _ _ _ _ => rfl) (fun op w a b => Ev.of (by kernel_rfl))
theorem inv_DE {op : W} (h : inv op = true) : condDE op = 20#64 := by
  obtain ⟨a1, a2, a3, a4, a5, a6, a7, a8, a9, a10, a11⟩ := inv_ne h
  unfold condDE clDE
  simp only [chain, a1, a2, a3, a4, a5, a6, a7, a8, a9, a10, a11, cond_false]
def con35i : Con
  | [a, b, c, d] => match cI.dec a, cBl.dec b, cW.dec c, cW.dec d with
    | some op, some w, some x, some y => some (.tup (.cons (eB (condDV op w x y)) (.cons (.lit .i64 20) .nil)), .pr (inv op = true))
    | _, _, _, _ => none
  | _ => none
theorem con35i_val (op : W) (w : Bool) (x y : W) (h : inv op = true) : valT E0 (pair (eB (condDV op w x y)) (eI (condDE op))) = valT E0 (.tup (.cons (eB (condDV op w x y)) (.cons (.lit .i64 20) .nil))) := by
  rw [inv_DE h]; rfl
theorem con35i_ok : ConOk Try.prog 35 con35i := by
  intro args r ob hK hob ha
  unfold con35i at hK
  split at hK <;> try (simp at hK; done)
  split at hK <;> simp at hK
  rename_i a b c d _ _ _ _ op w x y e1 e2 e3 e4
  obtain ⟨rfl, rfl⟩ := hK
  have hi : inv op = true := hob
  refine ⟨rfl, fun w' => ?_⟩
  have hcon : con4 cI cBl cW cW (fun op w a b => pair (eB (condDV op w a b)) (eI (condDE op))) [a, b, c, d] = some (pair (eB (condDV op w x y)) (eI (condDE op)), .tt) := by
    unfold con4
    simp only [e1, e2, e3, e4]
  have := (k35 [a, b, c, d] _ _ hcon trivial ha).2 w'
  rw [con35i_val op w x y hi] at this
  exact this
noncomputable def tbd : List (FuncId × Con) := (35, con35i) :: ta2
theorem rtbd : TabOk Try.prog (tabOf tbd) := tabOf_cons rta2 con35i_ok

noncomputable def mtD (a b : Sc) : Sc := Sc.mux (!mayC a || !mayC b) nilC (Sc.mux (!T.isM a.t b.t || !ynS (noMeetS a.s b.s)) nilC (setR (T.meetR a.t b.t) (Sp.mux (noMeetS a.s b.s) nilS (meetS a.s b.s))))
noncomputable def mtDB (a b : Sc) : Bool := bif !mayC a || !mayC b then false else bif !T.isM a.t b.t || !ynS (noMeetS a.s b.s) then false else setOk (T.meetR a.t b.t) (Sp.mux (noMeetS a.s b.s) nilS (meetS a.s b.s))
def one3 (x : Sc) (ok : Bool) (y : Sc) : R3 := R3.mux (!ok) R3.none ⟨x, y, true⟩
def mx64 : W := 18446744073709551615#64
noncomputable def eqD (a b : Sc) : R3 := one3 (mtD a b) (mtDB a b) (mtD a b)
noncomputable def neD (a b : Sc) : R3 := R3.mux (single b) (R3.mux (single a) (both3 (woD a b.s.lo) (woDB a b.s.lo) (woD b a.s.lo) (woDB b a.s.lo)) (one3 (woD a b.s.lo) (woDB a b.s.lo) b)) (R3.mux (single a) (one3 a (woDB b a.s.lo) (woD b a.s.lo)) (R3.keep a b))
noncomputable def gtD (a b : Sc) : R3 := R3.mux ((b.s.lo == mx64) || (a.s.hi == 0#64)) R3.none (both3 (wd a (b.s.lo + 1#64) mx64) (wdB a (b.s.lo + 1#64) mx64) (wd b 0#64 (a.s.hi - 1#64)) (wdB b 0#64 (a.s.hi - 1#64)))
noncomputable def geD (a b : Sc) : R3 := both3 (wd a b.s.lo mx64) (wdB a b.s.lo mx64) (wd b 0#64 a.s.hi) (wdB b 0#64 a.s.hi)
noncomputable def ltD (a b : Sc) : R3 := R3.mux ((a.s.lo == mx64) || (b.s.hi == 0#64)) R3.none (both3 (wd a 0#64 (b.s.hi - 1#64)) (wdB a 0#64 (b.s.hi - 1#64)) (wd b (a.s.lo + 1#64) mx64) (wdB b (a.s.lo + 1#64) mx64))
noncomputable def leD (a b : Sc) : R3 := both3 (wd a 0#64 b.s.hi) (wdB a 0#64 b.s.hi) (wd b a.s.lo mx64) (wdB b a.s.lo mx64)
def setD (a b : Sc) : R3 := one3 a (ltB .u64 0#64 ((a.t.v ||| a.t.m) &&& (b.t.v ||| b.t.m))) b
def nsTD (a b : Sc) : Tn := ⟨a.t.v, a.t.m - (a.t.m &&& b.s.lo)⟩
def nsQ (a b : Sc) : Bool := (a.t.v &&& b.t.v) == 0#64
noncomputable def nsD (a b : Sc) : R3 := R3.mux (nsQ a b && single b) (one3 (setR (nsTD a b) a.s) (setOk (nsTD a b) a.s) b) (one3 a (nsQ a b) b)
def sgD (w : Bool) (m : W) : Bool := (w && leB .u64 9223372036854775808#64 m) || (!w && leB .u64 2147483648#64 m)
noncomputable def refDm (m : W) (op : W) (w : Bool) (a b : Sc) : R3 := R3.mux (!w && leB .u64 4294967296#64 m) (R3.keep a b) (chain op [(1#64, eqD a b), (5#64, neD a b), (2#64, gtD a b), (3#64, geD a b), (10#64, ltD a b), (11#64, leD a b),
  (6#64, R3.mux (sgD w m) (R3.keep a b) (gtD a b)), (7#64, R3.mux (sgD w m) (R3.keep a b) (geD a b)), (12#64, R3.mux (sgD w m) (R3.keep a b) (ltD a b)), (13#64, R3.mux (sgD w m) (R3.keep a b) (leD a b)), (4#64, setD a b)] (nsD a b))
noncomputable def refD (op : W) (w : Bool) (a b : Sc) (h : Bool) : R3 := R3.mux (!mayC a || !mayC b) R3.none (R3.mux (ltB .u64 a.s.hi b.s.hi) (refDm b.s.hi (bif h then op else oppD op) w a b) (refDm a.s.hi (bif h then op else oppD op) w a b))
theorem r12_1t (w : Bool) (a b : Sc) : EvAt Try.prog 12 [val E0 (cI.enc 1#64), val E0 (cBl.enc w), val E0 (cSc.enc a), val E0 (cSc.enc b), val E0 (cBl.enc true)] (eR3 (refD 1#64 w a b true)) :=
  evAt (Γ := tabOf tb1) (Λ := noHooks) (n := 6) (l := [.lit .i64 1, eB w, eSc a, eSc b, .blit true]) rtb1 (by kernel_rfl) (by kernel_rfl) (Ev.of (by kernel_rfl))
theorem r12_1f (w : Bool) (a b : Sc) : EvAt Try.prog 12 [val E0 (cI.enc 1#64), val E0 (cBl.enc w), val E0 (cSc.enc a), val E0 (cSc.enc b), val E0 (cBl.enc false)] (eR3 (refD 1#64 w a b false)) :=
  evAt (Γ := tabOf tb1) (Λ := noHooks) (n := 6) (l := [.lit .i64 1, eB w, eSc a, eSc b, .blit false]) rtb1 (by kernel_rfl) (by kernel_rfl) (Ev.of (by kernel_rfl))
theorem r12_5t (w : Bool) (a b : Sc) : EvAt Try.prog 12 [val E0 (cI.enc 5#64), val E0 (cBl.enc w), val E0 (cSc.enc a), val E0 (cSc.enc b), val E0 (cBl.enc true)] (eR3 (refD 5#64 w a b true)) :=
  evAt (Γ := tabOf tb1) (Λ := noHooks) (n := 6) (l := [.lit .i64 5, eB w, eSc a, eSc b, .blit true]) rtb1 (by kernel_rfl) (by kernel_rfl) (Ev.of (by kernel_rfl))
theorem r12_5f (w : Bool) (a b : Sc) : EvAt Try.prog 12 [val E0 (cI.enc 5#64), val E0 (cBl.enc w), val E0 (cSc.enc a), val E0 (cSc.enc b), val E0 (cBl.enc false)] (eR3 (refD 5#64 w a b false)) :=
  evAt (Γ := tabOf tb1) (Λ := noHooks) (n := 6) (l := [.lit .i64 5, eB w, eSc a, eSc b, .blit false]) rtb1 (by kernel_rfl) (by kernel_rfl) (Ev.of (by kernel_rfl))
theorem r12_2t (w : Bool) (a b : Sc) : EvAt Try.prog 12 [val E0 (cI.enc 2#64), val E0 (cBl.enc w), val E0 (cSc.enc a), val E0 (cSc.enc b), val E0 (cBl.enc true)] (eR3 (refD 2#64 w a b true)) :=
  evAt (Γ := tabOf tb1) (Λ := noHooks) (n := 6) (l := [.lit .i64 2, eB w, eSc a, eSc b, .blit true]) rtb1 (by kernel_rfl) (by kernel_rfl) (Ev.of (by kernel_rfl))
theorem r12_2f (w : Bool) (a b : Sc) : EvAt Try.prog 12 [val E0 (cI.enc 2#64), val E0 (cBl.enc w), val E0 (cSc.enc a), val E0 (cSc.enc b), val E0 (cBl.enc false)] (eR3 (refD 2#64 w a b false)) :=
  evAt (Γ := tabOf tb1) (Λ := noHooks) (n := 6) (l := [.lit .i64 2, eB w, eSc a, eSc b, .blit false]) rtb1 (by kernel_rfl) (by kernel_rfl) (Ev.of (by kernel_rfl))
theorem r12_3t (w : Bool) (a b : Sc) : EvAt Try.prog 12 [val E0 (cI.enc 3#64), val E0 (cBl.enc w), val E0 (cSc.enc a), val E0 (cSc.enc b), val E0 (cBl.enc true)] (eR3 (refD 3#64 w a b true)) :=
  evAt (Γ := tabOf tb1) (Λ := noHooks) (n := 6) (l := [.lit .i64 3, eB w, eSc a, eSc b, .blit true]) rtb1 (by kernel_rfl) (by kernel_rfl) (Ev.of (by kernel_rfl))
theorem r12_3f (w : Bool) (a b : Sc) : EvAt Try.prog 12 [val E0 (cI.enc 3#64), val E0 (cBl.enc w), val E0 (cSc.enc a), val E0 (cSc.enc b), val E0 (cBl.enc false)] (eR3 (refD 3#64 w a b false)) :=
  evAt (Γ := tabOf tb1) (Λ := noHooks) (n := 6) (l := [.lit .i64 3, eB w, eSc a, eSc b, .blit false]) rtb1 (by kernel_rfl) (by kernel_rfl) (Ev.of (by kernel_rfl))
theorem r12_10t (w : Bool) (a b : Sc) : EvAt Try.prog 12 [val E0 (cI.enc 10#64), val E0 (cBl.enc w), val E0 (cSc.enc a), val E0 (cSc.enc b), val E0 (cBl.enc true)] (eR3 (refD 10#64 w a b true)) :=
  evAt (Γ := tabOf tb1) (Λ := noHooks) (n := 6) (l := [.lit .i64 10, eB w, eSc a, eSc b, .blit true]) rtb1 (by kernel_rfl) (by kernel_rfl) (Ev.of (by kernel_rfl))
theorem r12_10f (w : Bool) (a b : Sc) : EvAt Try.prog 12 [val E0 (cI.enc 10#64), val E0 (cBl.enc w), val E0 (cSc.enc a), val E0 (cSc.enc b), val E0 (cBl.enc false)] (eR3 (refD 10#64 w a b false)) :=
  evAt (Γ := tabOf tb1) (Λ := noHooks) (n := 6) (l := [.lit .i64 10, eB w, eSc a, eSc b, .blit false]) rtb1 (by kernel_rfl) (by kernel_rfl) (Ev.of (by kernel_rfl))
theorem r12_11t (w : Bool) (a b : Sc) : EvAt Try.prog 12 [val E0 (cI.enc 11#64), val E0 (cBl.enc w), val E0 (cSc.enc a), val E0 (cSc.enc b), val E0 (cBl.enc true)] (eR3 (refD 11#64 w a b true)) :=
  evAt (Γ := tabOf tb1) (Λ := noHooks) (n := 6) (l := [.lit .i64 11, eB w, eSc a, eSc b, .blit true]) rtb1 (by kernel_rfl) (by kernel_rfl) (Ev.of (by kernel_rfl))
theorem r12_11f (w : Bool) (a b : Sc) : EvAt Try.prog 12 [val E0 (cI.enc 11#64), val E0 (cBl.enc w), val E0 (cSc.enc a), val E0 (cSc.enc b), val E0 (cBl.enc false)] (eR3 (refD 11#64 w a b false)) :=
  evAt (Γ := tabOf tb1) (Λ := noHooks) (n := 6) (l := [.lit .i64 11, eB w, eSc a, eSc b, .blit false]) rtb1 (by kernel_rfl) (by kernel_rfl) (Ev.of (by kernel_rfl))
theorem r12_4t (w : Bool) (a b : Sc) : EvAt Try.prog 12 [val E0 (cI.enc 4#64), val E0 (cBl.enc w), val E0 (cSc.enc a), val E0 (cSc.enc b), val E0 (cBl.enc true)] (eR3 (refD 4#64 w a b true)) :=
  evAt (Γ := tabOf tb1) (Λ := noHooks) (n := 6) (l := [.lit .i64 4, eB w, eSc a, eSc b, .blit true]) rtb1 (by kernel_rfl) (by kernel_rfl) (Ev.of (by kernel_rfl))
theorem r12_4f (w : Bool) (a b : Sc) : EvAt Try.prog 12 [val E0 (cI.enc 4#64), val E0 (cBl.enc w), val E0 (cSc.enc a), val E0 (cSc.enc b), val E0 (cBl.enc false)] (eR3 (refD 4#64 w a b false)) :=
  evAt (Γ := tabOf tb1) (Λ := noHooks) (n := 6) (l := [.lit .i64 4, eB w, eSc a, eSc b, .blit false]) rtb1 (by kernel_rfl) (by kernel_rfl) (Ev.of (by kernel_rfl))
theorem r12_6t (w : Bool) (a b : Sc) : EvAt Try.prog 12 [val E0 (cI.enc 6#64), val E0 (cBl.enc w), val E0 (cSc.enc a), val E0 (cSc.enc b), val E0 (cBl.enc true)] (eR3 (refD 6#64 w a b true)) :=
  evAt (Γ := tabOf tb1) (Λ := noHooks) (n := 6) (l := [.lit .i64 6, eB w, eSc a, eSc b, .blit true]) rtb1 (by kernel_rfl) (by kernel_rfl) (Ev.of (by kernel_rfl))
theorem r12_6f (w : Bool) (a b : Sc) : EvAt Try.prog 12 [val E0 (cI.enc 6#64), val E0 (cBl.enc w), val E0 (cSc.enc a), val E0 (cSc.enc b), val E0 (cBl.enc false)] (eR3 (refD 6#64 w a b false)) :=
  evAt (Γ := tabOf tb1) (Λ := noHooks) (n := 6) (l := [.lit .i64 6, eB w, eSc a, eSc b, .blit false]) rtb1 (by kernel_rfl) (by kernel_rfl) (Ev.of (by kernel_rfl))
theorem r12_7t (w : Bool) (a b : Sc) : EvAt Try.prog 12 [val E0 (cI.enc 7#64), val E0 (cBl.enc w), val E0 (cSc.enc a), val E0 (cSc.enc b), val E0 (cBl.enc true)] (eR3 (refD 7#64 w a b true)) :=
  evAt (Γ := tabOf tb1) (Λ := noHooks) (n := 6) (l := [.lit .i64 7, eB w, eSc a, eSc b, .blit true]) rtb1 (by kernel_rfl) (by kernel_rfl) (Ev.of (by kernel_rfl))
theorem r12_7f (w : Bool) (a b : Sc) : EvAt Try.prog 12 [val E0 (cI.enc 7#64), val E0 (cBl.enc w), val E0 (cSc.enc a), val E0 (cSc.enc b), val E0 (cBl.enc false)] (eR3 (refD 7#64 w a b false)) :=
  evAt (Γ := tabOf tb1) (Λ := noHooks) (n := 6) (l := [.lit .i64 7, eB w, eSc a, eSc b, .blit false]) rtb1 (by kernel_rfl) (by kernel_rfl) (Ev.of (by kernel_rfl))
theorem r12_12t (w : Bool) (a b : Sc) : EvAt Try.prog 12 [val E0 (cI.enc 12#64), val E0 (cBl.enc w), val E0 (cSc.enc a), val E0 (cSc.enc b), val E0 (cBl.enc true)] (eR3 (refD 12#64 w a b true)) :=
  evAt (Γ := tabOf tb1) (Λ := noHooks) (n := 6) (l := [.lit .i64 12, eB w, eSc a, eSc b, .blit true]) rtb1 (by kernel_rfl) (by kernel_rfl) (Ev.of (by kernel_rfl))
theorem r12_12f (w : Bool) (a b : Sc) : EvAt Try.prog 12 [val E0 (cI.enc 12#64), val E0 (cBl.enc w), val E0 (cSc.enc a), val E0 (cSc.enc b), val E0 (cBl.enc false)] (eR3 (refD 12#64 w a b false)) :=
  evAt (Γ := tabOf tb1) (Λ := noHooks) (n := 6) (l := [.lit .i64 12, eB w, eSc a, eSc b, .blit false]) rtb1 (by kernel_rfl) (by kernel_rfl) (Ev.of (by kernel_rfl))
theorem r12_13t (w : Bool) (a b : Sc) : EvAt Try.prog 12 [val E0 (cI.enc 13#64), val E0 (cBl.enc w), val E0 (cSc.enc a), val E0 (cSc.enc b), val E0 (cBl.enc true)] (eR3 (refD 13#64 w a b true)) :=
  evAt (Γ := tabOf tb1) (Λ := noHooks) (n := 6) (l := [.lit .i64 13, eB w, eSc a, eSc b, .blit true]) rtb1 (by kernel_rfl) (by kernel_rfl) (Ev.of (by kernel_rfl))
theorem r12_13f (w : Bool) (a b : Sc) : EvAt Try.prog 12 [val E0 (cI.enc 13#64), val E0 (cBl.enc w), val E0 (cSc.enc a), val E0 (cSc.enc b), val E0 (cBl.enc false)] (eR3 (refD 13#64 w a b false)) :=
  evAt (Γ := tabOf tb1) (Λ := noHooks) (n := 6) (l := [.lit .i64 13, eB w, eSc a, eSc b, .blit false]) rtb1 (by kernel_rfl) (by kernel_rfl) (Ev.of (by kernel_rfl))
theorem r12_i (op : W) (w : Bool) (a b : Sc) (h : Bool) (hi : inv op = true) : EvAt Try.prog 12 [val E0 (cI.enc op), val E0 (cBl.enc w), val E0 (cSc.enc a), val E0 (cSc.enc b), val E0 (cBl.enc h)] (eR3 R3.none) :=
  evAt (Γ := tabOf tbd) (Λ := noHooks) (n := 6) (l := [eI op, eB w, eSc a, eSc b, eB h]) rtbd (by kernel_rfl) (by kernel_rfl) (ev_two (L := [inv op = true]) (by kernel_rfl) (by kernel_rfl) (fun p hp => by simp only [List.mem_singleton] at hp; subst hp; exact hi))
end Go.Rf
