/- Scalars: what a condition tells, walked. -/
import Derived.Test.YtigiedlngfkfbaaSe3
set_option linter.unusedVariables false
set_option linter.unusedSimpArgs false
set_option maxRecDepth 100000
namespace Go.Rf
open Go.Proofs
theorem evAt {P : Program} {f : FuncId} {Γ : Tab} {Λ : FuncId → Hook} {n : Nat} {l : List AV} {vs : List Value} {r : AV} (hΓ : TabOk P Γ) (hp : l.all pf = true) (hv : l.map (val E0) = vs) (h : Ev P Γ Λ n f l r) : EvAt P f vs r :=
  ⟨Γ, Λ, n, l, hΓ, fun v hv => List.all_eq_true.1 hp v hv, hv, h⟩
theorem refP_inv {op : W} (h : inv op = true) (w : Bool) (a b : Sc) (hh : Bool) : refP op w a b hh = R3.none := by
  unfold refP badR
  rw [inv_E h]
  rfl
theorem r11_1t (w : Bool) (a b : Sc) : EvAt Try.prog 11 [val E0 (cI.enc 1#64), val E0 (cBl.enc w), val E0 (cSc.enc a), val E0 (cSc.enc b), val E0 (cBl.enc true)] (eR3 (refP 1#64 w a b true)) :=
  evAt (Γ := tabOf tb1) (Λ := noHooks) (n := 6) (l := [.lit .i64 1, eB w, eSc a, eSc b, .blit true]) rtb1 (by kernel_rfl) (by kernel_rfl) (Ev.of (by kernel_rfl))
theorem r11_1f (w : Bool) (a b : Sc) : EvAt Try.prog 11 [val E0 (cI.enc 1#64), val E0 (cBl.enc w), val E0 (cSc.enc a), val E0 (cSc.enc b), val E0 (cBl.enc false)] (eR3 (refP 1#64 w a b false)) :=
  evAt (Γ := tabOf tb1) (Λ := noHooks) (n := 6) (l := [.lit .i64 1, eB w, eSc a, eSc b, .blit false]) rtb1 (by kernel_rfl) (by kernel_rfl) (Ev.of (by kernel_rfl))
theorem r11_5t (w : Bool) (a b : Sc) : EvAt Try.prog 11 [val E0 (cI.enc 5#64), val E0 (cBl.enc w), val E0 (cSc.enc a), val E0 (cSc.enc b), val E0 (cBl.enc true)] (eR3 (refP 5#64 w a b true)) :=
  evAt (Γ := tabOf tb1) (Λ := noHooks) (n := 6) (l := [.lit .i64 5, eB w, eSc a, eSc b, .blit true]) rtb1 (by kernel_rfl) (by kernel_rfl) (Ev.of (by kernel_rfl))
theorem r11_5f (w : Bool) (a b : Sc) : EvAt Try.prog 11 [val E0 (cI.enc 5#64), val E0 (cBl.enc w), val E0 (cSc.enc a), val E0 (cSc.enc b), val E0 (cBl.enc false)] (eR3 (refP 5#64 w a b false)) :=
  evAt (Γ := tabOf tb1) (Λ := noHooks) (n := 6) (l := [.lit .i64 5, eB w, eSc a, eSc b, .blit false]) rtb1 (by kernel_rfl) (by kernel_rfl) (Ev.of (by kernel_rfl))
theorem r11_2t (w : Bool) (a b : Sc) : EvAt Try.prog 11 [val E0 (cI.enc 2#64), val E0 (cBl.enc w), val E0 (cSc.enc a), val E0 (cSc.enc b), val E0 (cBl.enc true)] (eR3 (refP 2#64 w a b true)) :=
  evAt (Γ := tabOf tb1) (Λ := noHooks) (n := 6) (l := [.lit .i64 2, eB w, eSc a, eSc b, .blit true]) rtb1 (by kernel_rfl) (by kernel_rfl) (Ev.of (by kernel_rfl))
theorem r11_2f (w : Bool) (a b : Sc) : EvAt Try.prog 11 [val E0 (cI.enc 2#64), val E0 (cBl.enc w), val E0 (cSc.enc a), val E0 (cSc.enc b), val E0 (cBl.enc false)] (eR3 (refP 2#64 w a b false)) :=
  evAt (Γ := tabOf tb1) (Λ := noHooks) (n := 6) (l := [.lit .i64 2, eB w, eSc a, eSc b, .blit false]) rtb1 (by kernel_rfl) (by kernel_rfl) (Ev.of (by kernel_rfl))
theorem r11_3t (w : Bool) (a b : Sc) : EvAt Try.prog 11 [val E0 (cI.enc 3#64), val E0 (cBl.enc w), val E0 (cSc.enc a), val E0 (cSc.enc b), val E0 (cBl.enc true)] (eR3 (refP 3#64 w a b true)) :=
  evAt (Γ := tabOf tb1) (Λ := noHooks) (n := 6) (l := [.lit .i64 3, eB w, eSc a, eSc b, .blit true]) rtb1 (by kernel_rfl) (by kernel_rfl) (Ev.of (by kernel_rfl))
theorem r11_3f (w : Bool) (a b : Sc) : EvAt Try.prog 11 [val E0 (cI.enc 3#64), val E0 (cBl.enc w), val E0 (cSc.enc a), val E0 (cSc.enc b), val E0 (cBl.enc false)] (eR3 (refP 3#64 w a b false)) :=
  evAt (Γ := tabOf tb1) (Λ := noHooks) (n := 6) (l := [.lit .i64 3, eB w, eSc a, eSc b, .blit false]) rtb1 (by kernel_rfl) (by kernel_rfl) (Ev.of (by kernel_rfl))
theorem r11_10t (w : Bool) (a b : Sc) : EvAt Try.prog 11 [val E0 (cI.enc 10#64), val E0 (cBl.enc w), val E0 (cSc.enc a), val E0 (cSc.enc b), val E0 (cBl.enc true)] (eR3 (refP 10#64 w a b true)) :=
  evAt (Γ := tabOf tb1) (Λ := noHooks) (n := 6) (l := [.lit .i64 10, eB w, eSc a, eSc b, .blit true]) rtb1 (by kernel_rfl) (by kernel_rfl) (Ev.of (by kernel_rfl))
theorem r11_10f (w : Bool) (a b : Sc) : EvAt Try.prog 11 [val E0 (cI.enc 10#64), val E0 (cBl.enc w), val E0 (cSc.enc a), val E0 (cSc.enc b), val E0 (cBl.enc false)] (eR3 (refP 10#64 w a b false)) :=
  evAt (Γ := tabOf tb1) (Λ := noHooks) (n := 6) (l := [.lit .i64 10, eB w, eSc a, eSc b, .blit false]) rtb1 (by kernel_rfl) (by kernel_rfl) (Ev.of (by kernel_rfl))
theorem r11_11t (w : Bool) (a b : Sc) : EvAt Try.prog 11 [val E0 (cI.enc 11#64), val E0 (cBl.enc w), val E0 (cSc.enc a), val E0 (cSc.enc b), val E0 (cBl.enc true)] (eR3 (refP 11#64 w a b true)) :=
  evAt (Γ := tabOf tb1) (Λ := noHooks) (n := 6) (l := [.lit .i64 11, eB w, eSc a, eSc b, .blit true]) rtb1 (by kernel_rfl) (by kernel_rfl) (Ev.of (by kernel_rfl))
theorem r11_11f (w : Bool) (a b : Sc) : EvAt Try.prog 11 [val E0 (cI.enc 11#64), val E0 (cBl.enc w), val E0 (cSc.enc a), val E0 (cSc.enc b), val E0 (cBl.enc false)] (eR3 (refP 11#64 w a b false)) :=
  evAt (Γ := tabOf tb1) (Λ := noHooks) (n := 6) (l := [.lit .i64 11, eB w, eSc a, eSc b, .blit false]) rtb1 (by kernel_rfl) (by kernel_rfl) (Ev.of (by kernel_rfl))
theorem r11_4t (w : Bool) (a b : Sc) : EvAt Try.prog 11 [val E0 (cI.enc 4#64), val E0 (cBl.enc w), val E0 (cSc.enc a), val E0 (cSc.enc b), val E0 (cBl.enc true)] (eR3 (refP 4#64 w a b true)) :=
  evAt (Γ := tabOf tb1) (Λ := noHooks) (n := 6) (l := [.lit .i64 4, eB w, eSc a, eSc b, .blit true]) rtb1 (by kernel_rfl) (by kernel_rfl) (Ev.of (by kernel_rfl))
theorem r11_4f (w : Bool) (a b : Sc) : EvAt Try.prog 11 [val E0 (cI.enc 4#64), val E0 (cBl.enc w), val E0 (cSc.enc a), val E0 (cSc.enc b), val E0 (cBl.enc false)] (eR3 (refP 4#64 w a b false)) :=
  evAt (Γ := tabOf tb1) (Λ := noHooks) (n := 6) (l := [.lit .i64 4, eB w, eSc a, eSc b, .blit false]) rtb1 (by kernel_rfl) (by kernel_rfl) (Ev.of (by kernel_rfl))
theorem r11_6t (w : Bool) (a b : Sc) : EvAt Try.prog 11 [val E0 (cI.enc 6#64), val E0 (cBl.enc w), val E0 (cSc.enc a), val E0 (cSc.enc b), val E0 (cBl.enc true)] (eR3 (refP 6#64 w a b true)) :=
  evAt (Γ := tabOf tb1) (Λ := noHooks) (n := 6) (l := [.lit .i64 6, eB w, eSc a, eSc b, .blit true]) rtb1 (by kernel_rfl) (by kernel_rfl) (Ev.of (by kernel_rfl))
theorem r11_6f (w : Bool) (a b : Sc) : EvAt Try.prog 11 [val E0 (cI.enc 6#64), val E0 (cBl.enc w), val E0 (cSc.enc a), val E0 (cSc.enc b), val E0 (cBl.enc false)] (eR3 (refP 6#64 w a b false)) :=
  evAt (Γ := tabOf tb1) (Λ := noHooks) (n := 6) (l := [.lit .i64 6, eB w, eSc a, eSc b, .blit false]) rtb1 (by kernel_rfl) (by kernel_rfl) (Ev.of (by kernel_rfl))
theorem r11_7t (w : Bool) (a b : Sc) : EvAt Try.prog 11 [val E0 (cI.enc 7#64), val E0 (cBl.enc w), val E0 (cSc.enc a), val E0 (cSc.enc b), val E0 (cBl.enc true)] (eR3 (refP 7#64 w a b true)) :=
  evAt (Γ := tabOf tb1) (Λ := noHooks) (n := 6) (l := [.lit .i64 7, eB w, eSc a, eSc b, .blit true]) rtb1 (by kernel_rfl) (by kernel_rfl) (Ev.of (by kernel_rfl))
theorem r11_7f (w : Bool) (a b : Sc) : EvAt Try.prog 11 [val E0 (cI.enc 7#64), val E0 (cBl.enc w), val E0 (cSc.enc a), val E0 (cSc.enc b), val E0 (cBl.enc false)] (eR3 (refP 7#64 w a b false)) :=
  evAt (Γ := tabOf tb1) (Λ := noHooks) (n := 6) (l := [.lit .i64 7, eB w, eSc a, eSc b, .blit false]) rtb1 (by kernel_rfl) (by kernel_rfl) (Ev.of (by kernel_rfl))
theorem r11_12t (w : Bool) (a b : Sc) : EvAt Try.prog 11 [val E0 (cI.enc 12#64), val E0 (cBl.enc w), val E0 (cSc.enc a), val E0 (cSc.enc b), val E0 (cBl.enc true)] (eR3 (refP 12#64 w a b true)) :=
  evAt (Γ := tabOf tb1) (Λ := noHooks) (n := 6) (l := [.lit .i64 12, eB w, eSc a, eSc b, .blit true]) rtb1 (by kernel_rfl) (by kernel_rfl) (Ev.of (by kernel_rfl))
theorem r11_12f (w : Bool) (a b : Sc) : EvAt Try.prog 11 [val E0 (cI.enc 12#64), val E0 (cBl.enc w), val E0 (cSc.enc a), val E0 (cSc.enc b), val E0 (cBl.enc false)] (eR3 (refP 12#64 w a b false)) :=
  evAt (Γ := tabOf tb1) (Λ := noHooks) (n := 6) (l := [.lit .i64 12, eB w, eSc a, eSc b, .blit false]) rtb1 (by kernel_rfl) (by kernel_rfl) (Ev.of (by kernel_rfl))
theorem r11_13t (w : Bool) (a b : Sc) : EvAt Try.prog 11 [val E0 (cI.enc 13#64), val E0 (cBl.enc w), val E0 (cSc.enc a), val E0 (cSc.enc b), val E0 (cBl.enc true)] (eR3 (refP 13#64 w a b true)) :=
  evAt (Γ := tabOf tb1) (Λ := noHooks) (n := 6) (l := [.lit .i64 13, eB w, eSc a, eSc b, .blit true]) rtb1 (by kernel_rfl) (by kernel_rfl) (Ev.of (by kernel_rfl))
theorem r11_13f (w : Bool) (a b : Sc) : EvAt Try.prog 11 [val E0 (cI.enc 13#64), val E0 (cBl.enc w), val E0 (cSc.enc a), val E0 (cSc.enc b), val E0 (cBl.enc false)] (eR3 (refP 13#64 w a b false)) :=
  evAt (Γ := tabOf tb1) (Λ := noHooks) (n := 6) (l := [.lit .i64 13, eB w, eSc a, eSc b, .blit false]) rtb1 (by kernel_rfl) (by kernel_rfl) (Ev.of (by kernel_rfl))
theorem r11_i (op : W) (w : Bool) (a b : Sc) (h : Bool) (hi : inv op = true) : EvAt Try.prog 11 [val E0 (cI.enc op), val E0 (cBl.enc w), val E0 (cSc.enc a), val E0 (cSc.enc b), val E0 (cBl.enc h)] (eR3 R3.none) :=
  evAt (Γ := tabOf tbi) (Λ := noHooks) (n := 6) (l := [eI op, eB w, eSc a, eSc b, eB h]) rtbi (by kernel_rfl) (by kernel_rfl) (ev_two (L := [inv op = true]) (by kernel_rfl) (by kernel_rfl) (fun p hp => by simp only [List.mem_singleton] at hp; subst hp; exact hi))
theorem r11_all (op : W) (w : Bool) (a b : Sc) (h : Bool) : EvAt Try.prog 11 [val E0 (cI.enc op), val E0 (cBl.enc w), val E0 (cSc.enc a), val E0 (cSc.enc b), val E0 (cBl.enc h)] (eR3 (refP op w a b h)) := by
  rcases inv_cases op with rfl | rfl | rfl | rfl | rfl | rfl | rfl | rfl | rfl | rfl | rfl | hi
  · cases h
    · exact r11_1f w a b
    · exact r11_1t w a b
  · cases h
    · exact r11_5f w a b
    · exact r11_5t w a b
  · cases h
    · exact r11_2f w a b
    · exact r11_2t w a b
  · cases h
    · exact r11_3f w a b
    · exact r11_3t w a b
  · cases h
    · exact r11_10f w a b
    · exact r11_10t w a b
  · cases h
    · exact r11_11f w a b
    · exact r11_11t w a b
  · cases h
    · exact r11_4f w a b
    · exact r11_4t w a b
  · cases h
    · exact r11_6f w a b
    · exact r11_6t w a b
  · cases h
    · exact r11_7f w a b
    · exact r11_7t w a b
  · cases h
    · exact r11_12f w a b
    · exact r11_12t w a b
  · cases h
    · exact r11_13f w a b
    · exact r11_13t w a b
  · rw [refP_inv hi]; exact r11_i op w a b h hi
theorem k11 : ConOk Try.prog 11 (con5 cI cBl cSc cSc cBl fun op w a b h => eR3 (refP op w a b h)) :=
  con5_ok (fun _ _ _ _ _ => rfl) r11_all
end Go.Rf
