/- Scalars: a condition that holds or does not keeps what there is. -/
import Derived.Test.YtigiedlngfkfbaaSf3
set_option linter.unusedVariables false
set_option linter.unusedSimpArgs false
set_option maxRecDepth 100000
namespace Go.Rf
theorem ltU_pos {z : W} : ltB .u64 0#64 z = true → z ≠ 0#64 := by
  rw [ltU, decide_eq_true_eq]; rintro h rfl; simp at h
theorem ltU_neg {z : W} : ltB .u64 0#64 z = false → z = 0#64 := by
  rw [ltU, decide_eq_false_iff_not]; intro h; apply BitVec.eq_of_toNat_eq; simp at h ⊢; omega
theorem tells_start {k : W} {w : Bool} {a b : Sc} (h : Bool) (hE : condPE k w = 0#64) (ha : mayC a = true) (hb : mayC b = true) {P : W → W → Prop} (hr : wideR w a b = false → Tells a b (refG (bif h then k else notP k) w a b) P) : Tells a b (refP k w a b h) P := by
  unfold refP
  have : badR k w a b = false := by unfold badR; rw [hE, ha, hb]; rfl
  rw [this, mux_f]
  exact tells_mux (tells_keep ha hb _) hr

theorem tells_1t {w : Bool} {a b : Sc} (ha : mayC a = true) (hb : mayC b = true) : Tells a b (refP 1#64 w a b true) (fun x y => condDV 1#64 w x y = true) := by
  refine tells_start true (by cases w <;> decide) ha hb fun hw => ?_
  have hp := plainC hw
  have hG : refG (bif true then 1#64 else notP 1#64) w a b = eqG a b := by unfold refG; rfl
  rw [hG]
  exact (tells_eq ha hb).mono fun x y mx my hc => by
    have h1 : (fitD w x == fitD w y) = true := hc
    exact by rw [hp.fa x mx, hp.fb y my] at h1; simpa using h1
theorem tells_1f {w : Bool} {a b : Sc} (ha : mayC a = true) (hb : mayC b = true) : Tells a b (refP 1#64 w a b false) (fun x y => condDV 1#64 w x y = false) := by
  refine tells_start false (by cases w <;> decide) ha hb fun hw => ?_
  have hp := plainC hw
  have hG : refG (bif false then 1#64 else notP 1#64) w a b = neG a b := by unfold refG; rfl
  rw [hG]
  exact (tells_ne ha hb).mono fun x y mx my hc => by
    have h1 : (fitD w x == fitD w y) = false := hc
    exact by rw [hp.fa x mx, hp.fb y my] at h1; simpa using h1
theorem tells_5t {w : Bool} {a b : Sc} (ha : mayC a = true) (hb : mayC b = true) : Tells a b (refP 5#64 w a b true) (fun x y => condDV 5#64 w x y = true) := by
  refine tells_start true (by cases w <;> decide) ha hb fun hw => ?_
  have hp := plainC hw
  have hG : refG (bif true then 5#64 else notP 5#64) w a b = neG a b := by unfold refG; rfl
  rw [hG]
  exact (tells_ne ha hb).mono fun x y mx my hc => by
    have h1 : (fitD w x != fitD w y) = true := hc
    exact by rw [hp.fa x mx, hp.fb y my] at h1; simpa using h1
theorem tells_5f {w : Bool} {a b : Sc} (ha : mayC a = true) (hb : mayC b = true) : Tells a b (refP 5#64 w a b false) (fun x y => condDV 5#64 w x y = false) := by
  refine tells_start false (by cases w <;> decide) ha hb fun hw => ?_
  have hp := plainC hw
  have hG : refG (bif false then 5#64 else notP 5#64) w a b = eqG a b := by unfold refG; rfl
  rw [hG]
  exact (tells_eq ha hb).mono fun x y mx my hc => by
    have h1 : (fitD w x != fitD w y) = false := hc
    exact by rw [hp.fa x mx, hp.fb y my] at h1; simpa using h1
theorem tells_2t {w : Bool} {a b : Sc} (ha : mayC a = true) (hb : mayC b = true) : Tells a b (refP 2#64 w a b true) (fun x y => condDV 2#64 w x y = true) := by
  refine tells_start true (by cases w <;> decide) ha hb fun hw => ?_
  have hp := plainC hw
  have hG : refG (bif true then 2#64 else notP 2#64) w a b = gtG a b := by unfold refG; rfl
  rw [hG]
  exact (tells_gt ha hb).mono fun x y mx my hc => by
    have h1 : ltB .u64 (fitD w y) (fitD w x) = true := hc
    exact by rw [hp.fa x mx, hp.fb y my, ltU, decide_eq_true_eq] at h1; omega
theorem tells_2f {w : Bool} {a b : Sc} (ha : mayC a = true) (hb : mayC b = true) : Tells a b (refP 2#64 w a b false) (fun x y => condDV 2#64 w x y = false) := by
  refine tells_start false (by cases w <;> decide) ha hb fun hw => ?_
  have hp := plainC hw
  have hG : refG (bif false then 2#64 else notP 2#64) w a b = leG a b := by unfold refG; rfl
  rw [hG]
  exact (tells_le ha hb).mono fun x y mx my hc => by
    have h1 : ltB .u64 (fitD w y) (fitD w x) = false := hc
    exact by rw [hp.fa x mx, hp.fb y my, ltU, decide_eq_false_iff_not] at h1; omega
theorem tells_3t {w : Bool} {a b : Sc} (ha : mayC a = true) (hb : mayC b = true) : Tells a b (refP 3#64 w a b true) (fun x y => condDV 3#64 w x y = true) := by
  refine tells_start true (by cases w <;> decide) ha hb fun hw => ?_
  have hp := plainC hw
  have hG : refG (bif true then 3#64 else notP 3#64) w a b = geG a b := by unfold refG; rfl
  rw [hG]
  exact (tells_ge ha hb).mono fun x y mx my hc => by
    have h1 : leB .u64 (fitD w y) (fitD w x) = true := hc
    exact by rw [hp.fa x mx, hp.fb y my, leU, decide_eq_true_eq] at h1; omega
theorem tells_3f {w : Bool} {a b : Sc} (ha : mayC a = true) (hb : mayC b = true) : Tells a b (refP 3#64 w a b false) (fun x y => condDV 3#64 w x y = false) := by
  refine tells_start false (by cases w <;> decide) ha hb fun hw => ?_
  have hp := plainC hw
  have hG : refG (bif false then 3#64 else notP 3#64) w a b = ltG a b := by unfold refG; rfl
  rw [hG]
  exact (tells_lt ha hb).mono fun x y mx my hc => by
    have h1 : leB .u64 (fitD w y) (fitD w x) = false := hc
    exact by rw [hp.fa x mx, hp.fb y my, leU, decide_eq_false_iff_not] at h1; omega
theorem tells_10t {w : Bool} {a b : Sc} (ha : mayC a = true) (hb : mayC b = true) : Tells a b (refP 10#64 w a b true) (fun x y => condDV 10#64 w x y = true) := by
  refine tells_start true (by cases w <;> decide) ha hb fun hw => ?_
  have hp := plainC hw
  have hG : refG (bif true then 10#64 else notP 10#64) w a b = ltG a b := by unfold refG; rfl
  rw [hG]
  exact (tells_lt ha hb).mono fun x y mx my hc => by
    have h1 : ltB .u64 (fitD w x) (fitD w y) = true := hc
    exact by rw [hp.fa x mx, hp.fb y my, ltU, decide_eq_true_eq] at h1; omega
theorem tells_10f {w : Bool} {a b : Sc} (ha : mayC a = true) (hb : mayC b = true) : Tells a b (refP 10#64 w a b false) (fun x y => condDV 10#64 w x y = false) := by
  refine tells_start false (by cases w <;> decide) ha hb fun hw => ?_
  have hp := plainC hw
  have hG : refG (bif false then 10#64 else notP 10#64) w a b = geG a b := by unfold refG; rfl
  rw [hG]
  exact (tells_ge ha hb).mono fun x y mx my hc => by
    have h1 : ltB .u64 (fitD w x) (fitD w y) = false := hc
    exact by rw [hp.fa x mx, hp.fb y my, ltU, decide_eq_false_iff_not] at h1; omega
theorem tells_11t {w : Bool} {a b : Sc} (ha : mayC a = true) (hb : mayC b = true) : Tells a b (refP 11#64 w a b true) (fun x y => condDV 11#64 w x y = true) := by
  refine tells_start true (by cases w <;> decide) ha hb fun hw => ?_
  have hp := plainC hw
  have hG : refG (bif true then 11#64 else notP 11#64) w a b = leG a b := by unfold refG; rfl
  rw [hG]
  exact (tells_le ha hb).mono fun x y mx my hc => by
    have h1 : leB .u64 (fitD w x) (fitD w y) = true := hc
    exact by rw [hp.fa x mx, hp.fb y my, leU, decide_eq_true_eq] at h1; omega
theorem tells_11f {w : Bool} {a b : Sc} (ha : mayC a = true) (hb : mayC b = true) : Tells a b (refP 11#64 w a b false) (fun x y => condDV 11#64 w x y = false) := by
  refine tells_start false (by cases w <;> decide) ha hb fun hw => ?_
  have hp := plainC hw
  have hG : refG (bif false then 11#64 else notP 11#64) w a b = gtG a b := by unfold refG; rfl
  rw [hG]
  exact (tells_gt ha hb).mono fun x y mx my hc => by
    have h1 : leB .u64 (fitD w x) (fitD w y) = false := hc
    exact by rw [hp.fa x mx, hp.fb y my, leU, decide_eq_false_iff_not] at h1; omega
theorem tells_4t {w : Bool} {a b : Sc} (ha : mayC a = true) (hb : mayC b = true) : Tells a b (refP 4#64 w a b true) (fun x y => condDV 4#64 w x y = true) := by
  refine tells_start true (by cases w <;> decide) ha hb fun hw => ?_
  have hp := plainC hw
  have hG : refG (bif true then 4#64 else notP 4#64) w a b = setG a b := by unfold refG; rfl
  rw [hG]
  exact (tells_set ha hb).mono fun x y mx my hc => by
    have h1 : ltB .u64 0#64 (fitD w x &&& fitD w y) = true := hc
    exact by rw [hp.fa x mx, hp.fb y my] at h1; exact ltU_pos h1
theorem tells_4f {w : Bool} {a b : Sc} (ha : mayC a = true) (hb : mayC b = true) : Tells a b (refP 4#64 w a b false) (fun x y => condDV 4#64 w x y = false) := by
  refine tells_start false (by cases w <;> decide) ha hb fun hw => ?_
  have hp := plainC hw
  have hG : refG (bif false then 4#64 else notP 4#64) w a b = nsG a b := by unfold refG; rfl
  rw [hG]
  exact (tells_ns ha hb).mono fun x y mx my hc => by
    have h1 : ltB .u64 0#64 (fitD w x &&& fitD w y) = false := hc
    exact by rw [hp.fa x mx, hp.fb y my] at h1; exact ltU_neg h1
theorem tells_6t {w : Bool} {a b : Sc} (ha : mayC a = true) (hb : mayC b = true) : Tells a b (refP 6#64 w a b true) (fun x y => condDV 6#64 w x y = true) := by
  refine tells_start true (by cases w <;> decide) ha hb fun hw => ?_
  have hp := plainC hw
  have hG : refG (bif true then 6#64 else notP 6#64) w a b = R3.mux (signR w a b) (R3.keep a b) (gtG a b) := by unfold refG; rfl
  rw [hG]
  refine tells_mux (tells_keep ha hb _) fun hs => ?_
  exact (tells_gt ha hb).mono fun x y mx my hc => by
    have h1 : ltB .u64 (turnD w y) (turnD w x) = true := hc
    exact by rw [ltU, decide_eq_true_eq, (signC hw hs).fa x mx, (signC hw hs).fb y my] at h1; omega
theorem tells_6f {w : Bool} {a b : Sc} (ha : mayC a = true) (hb : mayC b = true) : Tells a b (refP 6#64 w a b false) (fun x y => condDV 6#64 w x y = false) := by
  refine tells_start false (by cases w <;> decide) ha hb fun hw => ?_
  have hp := plainC hw
  have hG : refG (bif false then 6#64 else notP 6#64) w a b = R3.mux (signR w a b) (R3.keep a b) (leG a b) := by unfold refG; rfl
  rw [hG]
  refine tells_mux (tells_keep ha hb _) fun hs => ?_
  exact (tells_le ha hb).mono fun x y mx my hc => by
    have h1 : ltB .u64 (turnD w y) (turnD w x) = false := hc
    exact by rw [ltU, decide_eq_false_iff_not, (signC hw hs).fa x mx, (signC hw hs).fb y my] at h1; omega
theorem tells_7t {w : Bool} {a b : Sc} (ha : mayC a = true) (hb : mayC b = true) : Tells a b (refP 7#64 w a b true) (fun x y => condDV 7#64 w x y = true) := by
  refine tells_start true (by cases w <;> decide) ha hb fun hw => ?_
  have hp := plainC hw
  have hG : refG (bif true then 7#64 else notP 7#64) w a b = R3.mux (signR w a b) (R3.keep a b) (geG a b) := by unfold refG; rfl
  rw [hG]
  refine tells_mux (tells_keep ha hb _) fun hs => ?_
  exact (tells_ge ha hb).mono fun x y mx my hc => by
    have h1 : leB .u64 (turnD w y) (turnD w x) = true := hc
    exact by rw [leU, decide_eq_true_eq, (signC hw hs).fa x mx, (signC hw hs).fb y my] at h1; omega
theorem tells_7f {w : Bool} {a b : Sc} (ha : mayC a = true) (hb : mayC b = true) : Tells a b (refP 7#64 w a b false) (fun x y => condDV 7#64 w x y = false) := by
  refine tells_start false (by cases w <;> decide) ha hb fun hw => ?_
  have hp := plainC hw
  have hG : refG (bif false then 7#64 else notP 7#64) w a b = R3.mux (signR w a b) (R3.keep a b) (ltG a b) := by unfold refG; rfl
  rw [hG]
  refine tells_mux (tells_keep ha hb _) fun hs => ?_
  exact (tells_lt ha hb).mono fun x y mx my hc => by
    have h1 : leB .u64 (turnD w y) (turnD w x) = false := hc
    exact by rw [leU, decide_eq_false_iff_not, (signC hw hs).fa x mx, (signC hw hs).fb y my] at h1; omega
theorem tells_12t {w : Bool} {a b : Sc} (ha : mayC a = true) (hb : mayC b = true) : Tells a b (refP 12#64 w a b true) (fun x y => condDV 12#64 w x y = true) := by
  refine tells_start true (by cases w <;> decide) ha hb fun hw => ?_
  have hp := plainC hw
  have hG : refG (bif true then 12#64 else notP 12#64) w a b = R3.mux (signR w a b) (R3.keep a b) (ltG a b) := by unfold refG; rfl
  rw [hG]
  refine tells_mux (tells_keep ha hb _) fun hs => ?_
  exact (tells_lt ha hb).mono fun x y mx my hc => by
    have h1 : ltB .u64 (turnD w x) (turnD w y) = true := hc
    exact by rw [ltU, decide_eq_true_eq, (signC hw hs).fa x mx, (signC hw hs).fb y my] at h1; omega
theorem tells_12f {w : Bool} {a b : Sc} (ha : mayC a = true) (hb : mayC b = true) : Tells a b (refP 12#64 w a b false) (fun x y => condDV 12#64 w x y = false) := by
  refine tells_start false (by cases w <;> decide) ha hb fun hw => ?_
  have hp := plainC hw
  have hG : refG (bif false then 12#64 else notP 12#64) w a b = R3.mux (signR w a b) (R3.keep a b) (geG a b) := by unfold refG; rfl
  rw [hG]
  refine tells_mux (tells_keep ha hb _) fun hs => ?_
  exact (tells_ge ha hb).mono fun x y mx my hc => by
    have h1 : ltB .u64 (turnD w x) (turnD w y) = false := hc
    exact by rw [ltU, decide_eq_false_iff_not, (signC hw hs).fa x mx, (signC hw hs).fb y my] at h1; omega
theorem tells_13t {w : Bool} {a b : Sc} (ha : mayC a = true) (hb : mayC b = true) : Tells a b (refP 13#64 w a b true) (fun x y => condDV 13#64 w x y = true) := by
  refine tells_start true (by cases w <;> decide) ha hb fun hw => ?_
  have hp := plainC hw
  have hG : refG (bif true then 13#64 else notP 13#64) w a b = R3.mux (signR w a b) (R3.keep a b) (leG a b) := by unfold refG; rfl
  rw [hG]
  refine tells_mux (tells_keep ha hb _) fun hs => ?_
  exact (tells_le ha hb).mono fun x y mx my hc => by
    have h1 : leB .u64 (turnD w x) (turnD w y) = true := hc
    exact by rw [leU, decide_eq_true_eq, (signC hw hs).fa x mx, (signC hw hs).fb y my] at h1; omega
theorem tells_13f {w : Bool} {a b : Sc} (ha : mayC a = true) (hb : mayC b = true) : Tells a b (refP 13#64 w a b false) (fun x y => condDV 13#64 w x y = false) := by
  refine tells_start false (by cases w <;> decide) ha hb fun hw => ?_
  have hp := plainC hw
  have hG : refG (bif false then 13#64 else notP 13#64) w a b = R3.mux (signR w a b) (R3.keep a b) (gtG a b) := by unfold refG; rfl
  rw [hG]
  refine tells_mux (tells_keep ha hb _) fun hs => ?_
  exact (tells_gt ha hb).mono fun x y mx my hc => by
    have h1 : leB .u64 (turnD w x) (turnD w y) = false := hc
    exact by rw [leU, decide_eq_false_iff_not, (signC hw hs).fa x mx, (signC hw hs).fb y my] at h1; omega
theorem tells_all {op : W} (hi : inv op = false) {w : Bool} {a b : Sc} (ha : mayC a = true) (hb : mayC b = true) (h : Bool) : Tells a b (refP op w a b h) (fun x y => condDV op w x y = h) := by
  rcases inv_cases op with rfl | rfl | rfl | rfl | rfl | rfl | rfl | rfl | rfl | rfl | rfl | hi'
  · cases h
    · exact tells_1f ha hb
    · exact tells_1t ha hb
  · cases h
    · exact tells_5f ha hb
    · exact tells_5t ha hb
  · cases h
    · exact tells_2f ha hb
    · exact tells_2t ha hb
  · cases h
    · exact tells_3f ha hb
    · exact tells_3t ha hb
  · cases h
    · exact tells_10f ha hb
    · exact tells_10t ha hb
  · cases h
    · exact tells_11f ha hb
    · exact tells_11t ha hb
  · cases h
    · exact tells_4f ha hb
    · exact tells_4t ha hb
  · cases h
    · exact tells_6f ha hb
    · exact tells_6t ha hb
  · cases h
    · exact tells_7f ha hb
    · exact tells_7t ha hb
  · cases h
    · exact tells_12f ha hb
    · exact tells_12t ha hb
  · cases h
    · exact tells_13f ha hb
    · exact tells_13t ha hb
  · rw [hi] at hi'; cases hi'
end Go.Rf
