/-
  No cell of these rows narrows 'for every input' (looked for: loops, veiled, ifaces, maps, wideKeys, modest, calm, conditions, laid).
  DERIVED. THE GIVEN ROWS OF THIS SEAT. 11 by the template 'for every input the law returns true; each argument reads behind the call as it read before'; 0 by the template 'total and deterministic' (their statements: YtkfgohhmicfnhaaTotals.lean).
  GIVEN WITH THE SEED: the statements are not yours to turn. If you find one false, say at which input.
  Laid BY PROGRAM, IN A SANDBOX (cutbox-rows.mjs): the forced cells as the released guide's own fill.sh prints them over the translation 042fe8f3f0bc91c8… (all of the seat's roots in one cut). By AI agents, Wed Nov 11 2026. No macro, syntax, notation, axiom, sorry.
-/
import Derived.Test.YtkfgohhmicfnhaaChecked
import GoSem.Claim
import GoSem.ClaimJoined
import GoSem.ClaimMapViews
import Derived.JoinedTies
import Derived.KernelRfl
namespace Go.Proofs.Ytkfgohhmicfnhaa
/- THE CELL 'sum', in the pinned program and in every row, IS THE sha256 OF THE DUMP (.gsa) THAT YtkfgohhmicfnhaaProg.lean LOADS. Nothing in Lean hashes anything: it is a label: what it is worth is what the hold of that sum in a sandbox is worth. -/
noncomputable def Try.pinned : Pinned := { name := "ytkfgohhmicfnhaa", sum := "042fe8f3f0bc91c83afd7dbec01fa52b691530be6df917a4b44b6782984b4734", checked := Try.checked }
namespace Rows
def none {H : Type} : Left H := { results := [], args := [] }

/-- 'stockadelaw09.TnumUndoes': WHATEVER THE INPUT: true; the input reads as it did. -/
def tnumUndoesSpec : ChangeSpec := { name := "tnumUndoes", fn := fun _ => fun
  | [d1, d2, d3] => { results := [.lit (.bool true)], args := [d1, d2, d3] }
  | _ => none }
def tnumUndoesRow : OpenClaim := { program := "ytkfgohhmicfnhaa", sum := "042fe8f3f0bc91c83afd7dbec01fa52b691530be6df917a4b44b6782984b4734", func := "stockade/stockadelaw09.TnumUndoes", spec := "tnumUndoes", unfollowed := true, recurses := true, apart := false }
def TnumUndoesSaid : Prop := tnumUndoesRow.holds Try.pinned (OpenSpec.ofChange tnumUndoesSpec)

/-- ITS FALSE NEIGHBOUR: 'it returns false'. Refute it at one input. -/
def tnumUndoesWrong : ChangeSpec := { name := "tnumUndoes", fn := fun _ => fun
  | [d1, d2, d3] => { results := [.lit (.bool false)], args := [d1, d2, d3] }
  | _ => none }
def TnumUndoesWrongFalsely : Prop := tnumUndoesRow.holds Try.pinned (OpenSpec.ofChange tnumUndoesWrong)

/-- 'stockadelaw09.TnumSums': WHATEVER THE INPUT: true; the input reads as it did. -/
def tnumSumsSpec : ChangeSpec := { name := "tnumSums", fn := fun _ => fun
  | [d1, d2] => { results := [.lit (.bool true)], args := [d1, d2] }
  | _ => none }
def tnumSumsRow : OpenClaim := { program := "ytkfgohhmicfnhaa", sum := "042fe8f3f0bc91c83afd7dbec01fa52b691530be6df917a4b44b6782984b4734", func := "stockade/stockadelaw09.TnumSums", spec := "tnumSums", unfollowed := true, recurses := true, apart := false }
def TnumSumsSaid : Prop := tnumSumsRow.holds Try.pinned (OpenSpec.ofChange tnumSumsSpec)

/-- ITS FALSE NEIGHBOUR: 'it returns false'. Refute it at one input. -/
def tnumSumsWrong : ChangeSpec := { name := "tnumSums", fn := fun _ => fun
  | [d1, d2] => { results := [.lit (.bool false)], args := [d1, d2] }
  | _ => none }
def TnumSumsWrongFalsely : Prop := tnumSumsRow.holds Try.pinned (OpenSpec.ofChange tnumSumsWrong)

/-- 'stockadelaw09.TnumSound': WHATEVER THE INPUT: true; the input reads as it did. -/
def tnumSoundSpec : ChangeSpec := { name := "tnumSound", fn := fun _ => fun
  | [d1, d2, d3] => { results := [.lit (.bool true)], args := [d1, d2, d3] }
  | _ => none }
def tnumSoundRow : OpenClaim := { program := "ytkfgohhmicfnhaa", sum := "042fe8f3f0bc91c83afd7dbec01fa52b691530be6df917a4b44b6782984b4734", func := "stockade/stockadelaw09.TnumSound", spec := "tnumSound", unfollowed := true, recurses := true, apart := false }
def TnumSoundSaid : Prop := tnumSoundRow.holds Try.pinned (OpenSpec.ofChange tnumSoundSpec)

/-- ITS FALSE NEIGHBOUR: 'it returns false'. Refute it at one input. -/
def tnumSoundWrong : ChangeSpec := { name := "tnumSound", fn := fun _ => fun
  | [d1, d2, d3] => { results := [.lit (.bool false)], args := [d1, d2, d3] }
  | _ => none }
def TnumSoundWrongFalsely : Prop := tnumSoundRow.holds Try.pinned (OpenSpec.ofChange tnumSoundWrong)

/-- 'stockadelaw09.TnumBest': WHATEVER THE INPUT: true; the input reads as it did. -/
def tnumBestSpec : ChangeSpec := { name := "tnumBest", fn := fun _ => fun
  | [d1, d2] => { results := [.lit (.bool true)], args := [d1, d2] }
  | _ => none }
def tnumBestRow : OpenClaim := { program := "ytkfgohhmicfnhaa", sum := "042fe8f3f0bc91c83afd7dbec01fa52b691530be6df917a4b44b6782984b4734", func := "stockade/stockadelaw09.TnumBest", spec := "tnumBest", unfollowed := true, recurses := true, apart := false }
def TnumBestSaid : Prop := tnumBestRow.holds Try.pinned (OpenSpec.ofChange tnumBestSpec)

/-- ITS FALSE NEIGHBOUR: 'it returns false'. Refute it at one input. -/
def tnumBestWrong : ChangeSpec := { name := "tnumBest", fn := fun _ => fun
  | [d1, d2] => { results := [.lit (.bool false)], args := [d1, d2] }
  | _ => none }
def TnumBestWrongFalsely : Prop := tnumBestRow.holds Try.pinned (OpenSpec.ofChange tnumBestWrong)

/-- 'stockadelaw09.TnumShifts': WHATEVER THE INPUT: true; the input reads as it did. -/
def tnumShiftsSpec : ChangeSpec := { name := "tnumShifts", fn := fun _ => fun
  | [d1, d2, d3] => { results := [.lit (.bool true)], args := [d1, d2, d3] }
  | _ => none }
def tnumShiftsRow : OpenClaim := { program := "ytkfgohhmicfnhaa", sum := "042fe8f3f0bc91c83afd7dbec01fa52b691530be6df917a4b44b6782984b4734", func := "stockade/stockadelaw09.TnumShifts", spec := "tnumShifts", unfollowed := true, recurses := true, apart := false }
def TnumShiftsSaid : Prop := tnumShiftsRow.holds Try.pinned (OpenSpec.ofChange tnumShiftsSpec)

/-- ITS FALSE NEIGHBOUR: 'it returns false'. Refute it at one input. -/
def tnumShiftsWrong : ChangeSpec := { name := "tnumShifts", fn := fun _ => fun
  | [d1, d2, d3] => { results := [.lit (.bool false)], args := [d1, d2, d3] }
  | _ => none }
def TnumShiftsWrongFalsely : Prop := tnumShiftsRow.holds Try.pinned (OpenSpec.ofChange tnumShiftsWrong)

/-- 'stockadelaw09.TnumRanges': WHATEVER THE INPUT: true; the input reads as it did. -/
def tnumRangesSpec : ChangeSpec := { name := "tnumRanges", fn := fun _ => fun
  | [d1, d2] => { results := [.lit (.bool true)], args := [d1, d2] }
  | _ => none }
def tnumRangesRow : OpenClaim := { program := "ytkfgohhmicfnhaa", sum := "042fe8f3f0bc91c83afd7dbec01fa52b691530be6df917a4b44b6782984b4734", func := "stockade/stockadelaw09.TnumRanges", spec := "tnumRanges", unfollowed := true, recurses := true, apart := false }
def TnumRangesSaid : Prop := tnumRangesRow.holds Try.pinned (OpenSpec.ofChange tnumRangesSpec)

/-- ITS FALSE NEIGHBOUR: 'it returns false'. Refute it at one input. -/
def tnumRangesWrong : ChangeSpec := { name := "tnumRanges", fn := fun _ => fun
  | [d1, d2] => { results := [.lit (.bool false)], args := [d1, d2] }
  | _ => none }
def TnumRangesWrongFalsely : Prop := tnumRangesRow.holds Try.pinned (OpenSpec.ofChange tnumRangesWrong)

/-- 'stockadelaw09.TnumHolds': WHATEVER THE INPUT: true; the input reads as it did. -/
def tnumHoldsSpec : ChangeSpec := { name := "tnumHolds", fn := fun _ => fun
  | [d1, d2, d3] => { results := [.lit (.bool true)], args := [d1, d2, d3] }
  | _ => none }
def tnumHoldsRow : OpenClaim := { program := "ytkfgohhmicfnhaa", sum := "042fe8f3f0bc91c83afd7dbec01fa52b691530be6df917a4b44b6782984b4734", func := "stockade/stockadelaw09.TnumHolds", spec := "tnumHolds", unfollowed := true, recurses := true, apart := false }
def TnumHoldsSaid : Prop := tnumHoldsRow.holds Try.pinned (OpenSpec.ofChange tnumHoldsSpec)

/-- ITS FALSE NEIGHBOUR: 'it returns false'. Refute it at one input. -/
def tnumHoldsWrong : ChangeSpec := { name := "tnumHolds", fn := fun _ => fun
  | [d1, d2, d3] => { results := [.lit (.bool false)], args := [d1, d2, d3] }
  | _ => none }
def TnumHoldsWrongFalsely : Prop := tnumHoldsRow.holds Try.pinned (OpenSpec.ofChange tnumHoldsWrong)

/-- 'stockadelaw09.TnumSets': WHATEVER THE INPUT: true; the input reads as it did. -/
def tnumSetsSpec : ChangeSpec := { name := "tnumSets", fn := fun _ => fun
  | [d1, d2, d3] => { results := [.lit (.bool true)], args := [d1, d2, d3] }
  | _ => none }
def tnumSetsRow : OpenClaim := { program := "ytkfgohhmicfnhaa", sum := "042fe8f3f0bc91c83afd7dbec01fa52b691530be6df917a4b44b6782984b4734", func := "stockade/stockadelaw09.TnumSets", spec := "tnumSets", unfollowed := true, recurses := true, apart := false }
def TnumSetsSaid : Prop := tnumSetsRow.holds Try.pinned (OpenSpec.ofChange tnumSetsSpec)

/-- ITS FALSE NEIGHBOUR: 'it returns false'. Refute it at one input. -/
def tnumSetsWrong : ChangeSpec := { name := "tnumSets", fn := fun _ => fun
  | [d1, d2, d3] => { results := [.lit (.bool false)], args := [d1, d2, d3] }
  | _ => none }
def TnumSetsWrongFalsely : Prop := tnumSetsRow.holds Try.pinned (OpenSpec.ofChange tnumSetsWrong)

/-- 'stockadelaw09.TnumOrder': WHATEVER THE INPUT: true; the input reads as it did. -/
def tnumOrderSpec : ChangeSpec := { name := "tnumOrder", fn := fun _ => fun
  | [d1, d2, d3] => { results := [.lit (.bool true)], args := [d1, d2, d3] }
  | _ => none }
def tnumOrderRow : OpenClaim := { program := "ytkfgohhmicfnhaa", sum := "042fe8f3f0bc91c83afd7dbec01fa52b691530be6df917a4b44b6782984b4734", func := "stockade/stockadelaw09.TnumOrder", spec := "tnumOrder", unfollowed := true, recurses := true, apart := false }
def TnumOrderSaid : Prop := tnumOrderRow.holds Try.pinned (OpenSpec.ofChange tnumOrderSpec)

/-- ITS FALSE NEIGHBOUR: 'it returns false'. Refute it at one input. -/
def tnumOrderWrong : ChangeSpec := { name := "tnumOrder", fn := fun _ => fun
  | [d1, d2, d3] => { results := [.lit (.bool false)], args := [d1, d2, d3] }
  | _ => none }
def TnumOrderWrongFalsely : Prop := tnumOrderRow.holds Try.pinned (OpenSpec.ofChange tnumOrderWrong)

/-- 'stockadelaw09.TnumMoves': WHATEVER THE INPUT: true; the input reads as it did. -/
def tnumMovesSpec : ChangeSpec := { name := "tnumMoves", fn := fun _ => fun
  | [d1, d2, d3] => { results := [.lit (.bool true)], args := [d1, d2, d3] }
  | _ => none }
def tnumMovesRow : OpenClaim := { program := "ytkfgohhmicfnhaa", sum := "042fe8f3f0bc91c83afd7dbec01fa52b691530be6df917a4b44b6782984b4734", func := "stockade/stockadelaw09.TnumMoves", spec := "tnumMoves", unfollowed := true, recurses := true, apart := false }
def TnumMovesSaid : Prop := tnumMovesRow.holds Try.pinned (OpenSpec.ofChange tnumMovesSpec)

/-- ITS FALSE NEIGHBOUR: 'it returns false'. Refute it at one input. -/
def tnumMovesWrong : ChangeSpec := { name := "tnumMoves", fn := fun _ => fun
  | [d1, d2, d3] => { results := [.lit (.bool false)], args := [d1, d2, d3] }
  | _ => none }
def TnumMovesWrongFalsely : Prop := tnumMovesRow.holds Try.pinned (OpenSpec.ofChange tnumMovesWrong)

/-- 'stockadelaw09.TnumKnown': WHATEVER THE INPUT: true; the input reads as it did. -/
def tnumKnownSpec : ChangeSpec := { name := "tnumKnown", fn := fun _ => fun
  | [] => { results := [.lit (.bool true)], args := [] }
  | _ => none }
def tnumKnownRow : OpenClaim := { program := "ytkfgohhmicfnhaa", sum := "042fe8f3f0bc91c83afd7dbec01fa52b691530be6df917a4b44b6782984b4734", func := "stockade/stockadelaw09.TnumKnown", spec := "tnumKnown", unfollowed := true, recurses := true, apart := false }
def TnumKnownSaid : Prop := tnumKnownRow.holds Try.pinned (OpenSpec.ofChange tnumKnownSpec)

/-- ITS FALSE NEIGHBOUR: 'it returns false'. Refute it at one input. -/
def tnumKnownWrong : ChangeSpec := { name := "tnumKnown", fn := fun _ => fun
  | [] => { results := [.lit (.bool false)], args := [] }
  | _ => none }
def TnumKnownWrongFalsely : Prop := tnumKnownRow.holds Try.pinned (OpenSpec.ofChange tnumKnownWrong)

/- THE SECOND FORM. 'bulk': how many values and letters a reading holds, each counted each time it is reached (what is shared counts as often as it is met; a slice's spare places count too). A statement '..UptoSaid' is the law's where the arguments, and the package variables that the reading takes, are together of bulk at most 1048576: NARROWER than '..Said'. Prove '..Said' where nothing that the law and all that it calls make is longer than what came in: it says more and counts as full. Else prove '..UptoSaid'. A law counts once. -/
mutual
def uptoBulk {H : Type} : DataW H → Nat
  | .lit (.string bytes) => bytes.length + 1
  | .lit _ => 1
  | .nil => 1
  | .ptr d => uptoBulk d + 1
  | .slice elems spare => uptoBulkAll elems + uptoBulkAll spare + 1
  | .agg parts => uptoBulkAll parts + 1
  | .iface _ d => uptoBulk d + 1
  | .map entries => uptoBulkEntries entries + 1
  | .held _ => 1
def uptoBulkAll {H : Type} : List (DataW H) → Nat
  | [] => 0
  | d :: r => uptoBulk d + uptoBulkAll r
def uptoBulkEntries {H : Type} : List (Lit × DataW H) → Nat
  | [] => 0
  | x :: r => uptoBulkEntry x + uptoBulkEntries r
def uptoBulkEntry {H : Type} : Lit × DataW H → Nat
  | (.string bytes, d) => bytes.length + uptoBulk d + 1
  | (_, d) => uptoBulk d + 1
 end
def uptoSmall : (H : Type) → List (DataW H) → Bool := fun _ ds => decide (uptoBulkAll ds ≤ 1048576)
def OpenSpec.upto (s : _root_.Go.ChangeSpec) : _root_.Go.OpenSpec := { _root_.Go.OpenSpec.ofChange s with cond := some uptoSmall }

/-- 'stockadelaw09.TnumUndoes', WHERE WHAT IT READS IS OF BULK AT MOST 1048576: true; the input reads as it did. -/
def tnumUndoesUptoRow : OpenClaim := { program := "ytkfgohhmicfnhaa", sum := "042fe8f3f0bc91c83afd7dbec01fa52b691530be6df917a4b44b6782984b4734", func := "stockade/stockadelaw09.TnumUndoes", spec := "tnumUndoes", unfollowed := true, recurses := true, apart := false, narrowed := true }
def TnumUndoesUptoSaid : Prop := tnumUndoesUptoRow.holds Try.pinned (OpenSpec.upto tnumUndoesSpec)

/-- 'stockadelaw09.TnumSums', WHERE WHAT IT READS IS OF BULK AT MOST 1048576: true; the input reads as it did. -/
def tnumSumsUptoRow : OpenClaim := { program := "ytkfgohhmicfnhaa", sum := "042fe8f3f0bc91c83afd7dbec01fa52b691530be6df917a4b44b6782984b4734", func := "stockade/stockadelaw09.TnumSums", spec := "tnumSums", unfollowed := true, recurses := true, apart := false, narrowed := true }
def TnumSumsUptoSaid : Prop := tnumSumsUptoRow.holds Try.pinned (OpenSpec.upto tnumSumsSpec)

/-- 'stockadelaw09.TnumSound', WHERE WHAT IT READS IS OF BULK AT MOST 1048576: true; the input reads as it did. -/
def tnumSoundUptoRow : OpenClaim := { program := "ytkfgohhmicfnhaa", sum := "042fe8f3f0bc91c83afd7dbec01fa52b691530be6df917a4b44b6782984b4734", func := "stockade/stockadelaw09.TnumSound", spec := "tnumSound", unfollowed := true, recurses := true, apart := false, narrowed := true }
def TnumSoundUptoSaid : Prop := tnumSoundUptoRow.holds Try.pinned (OpenSpec.upto tnumSoundSpec)

/-- 'stockadelaw09.TnumBest', WHERE WHAT IT READS IS OF BULK AT MOST 1048576: true; the input reads as it did. -/
def tnumBestUptoRow : OpenClaim := { program := "ytkfgohhmicfnhaa", sum := "042fe8f3f0bc91c83afd7dbec01fa52b691530be6df917a4b44b6782984b4734", func := "stockade/stockadelaw09.TnumBest", spec := "tnumBest", unfollowed := true, recurses := true, apart := false, narrowed := true }
def TnumBestUptoSaid : Prop := tnumBestUptoRow.holds Try.pinned (OpenSpec.upto tnumBestSpec)

/-- 'stockadelaw09.TnumShifts', WHERE WHAT IT READS IS OF BULK AT MOST 1048576: true; the input reads as it did. -/
def tnumShiftsUptoRow : OpenClaim := { program := "ytkfgohhmicfnhaa", sum := "042fe8f3f0bc91c83afd7dbec01fa52b691530be6df917a4b44b6782984b4734", func := "stockade/stockadelaw09.TnumShifts", spec := "tnumShifts", unfollowed := true, recurses := true, apart := false, narrowed := true }
def TnumShiftsUptoSaid : Prop := tnumShiftsUptoRow.holds Try.pinned (OpenSpec.upto tnumShiftsSpec)

/-- 'stockadelaw09.TnumRanges', WHERE WHAT IT READS IS OF BULK AT MOST 1048576: true; the input reads as it did. -/
def tnumRangesUptoRow : OpenClaim := { program := "ytkfgohhmicfnhaa", sum := "042fe8f3f0bc91c83afd7dbec01fa52b691530be6df917a4b44b6782984b4734", func := "stockade/stockadelaw09.TnumRanges", spec := "tnumRanges", unfollowed := true, recurses := true, apart := false, narrowed := true }
def TnumRangesUptoSaid : Prop := tnumRangesUptoRow.holds Try.pinned (OpenSpec.upto tnumRangesSpec)

/-- 'stockadelaw09.TnumHolds', WHERE WHAT IT READS IS OF BULK AT MOST 1048576: true; the input reads as it did. -/
def tnumHoldsUptoRow : OpenClaim := { program := "ytkfgohhmicfnhaa", sum := "042fe8f3f0bc91c83afd7dbec01fa52b691530be6df917a4b44b6782984b4734", func := "stockade/stockadelaw09.TnumHolds", spec := "tnumHolds", unfollowed := true, recurses := true, apart := false, narrowed := true }
def TnumHoldsUptoSaid : Prop := tnumHoldsUptoRow.holds Try.pinned (OpenSpec.upto tnumHoldsSpec)

/-- 'stockadelaw09.TnumSets', WHERE WHAT IT READS IS OF BULK AT MOST 1048576: true; the input reads as it did. -/
def tnumSetsUptoRow : OpenClaim := { program := "ytkfgohhmicfnhaa", sum := "042fe8f3f0bc91c83afd7dbec01fa52b691530be6df917a4b44b6782984b4734", func := "stockade/stockadelaw09.TnumSets", spec := "tnumSets", unfollowed := true, recurses := true, apart := false, narrowed := true }
def TnumSetsUptoSaid : Prop := tnumSetsUptoRow.holds Try.pinned (OpenSpec.upto tnumSetsSpec)

/-- 'stockadelaw09.TnumOrder', WHERE WHAT IT READS IS OF BULK AT MOST 1048576: true; the input reads as it did. -/
def tnumOrderUptoRow : OpenClaim := { program := "ytkfgohhmicfnhaa", sum := "042fe8f3f0bc91c83afd7dbec01fa52b691530be6df917a4b44b6782984b4734", func := "stockade/stockadelaw09.TnumOrder", spec := "tnumOrder", unfollowed := true, recurses := true, apart := false, narrowed := true }
def TnumOrderUptoSaid : Prop := tnumOrderUptoRow.holds Try.pinned (OpenSpec.upto tnumOrderSpec)

/-- 'stockadelaw09.TnumMoves', WHERE WHAT IT READS IS OF BULK AT MOST 1048576: true; the input reads as it did. -/
def tnumMovesUptoRow : OpenClaim := { program := "ytkfgohhmicfnhaa", sum := "042fe8f3f0bc91c83afd7dbec01fa52b691530be6df917a4b44b6782984b4734", func := "stockade/stockadelaw09.TnumMoves", spec := "tnumMoves", unfollowed := true, recurses := true, apart := false, narrowed := true }
def TnumMovesUptoSaid : Prop := tnumMovesUptoRow.holds Try.pinned (OpenSpec.upto tnumMovesSpec)

/-- 'stockadelaw09.TnumKnown', WHERE WHAT IT READS IS OF BULK AT MOST 1048576: true; the input reads as it did. -/
def tnumKnownUptoRow : OpenClaim := { program := "ytkfgohhmicfnhaa", sum := "042fe8f3f0bc91c83afd7dbec01fa52b691530be6df917a4b44b6782984b4734", func := "stockade/stockadelaw09.TnumKnown", spec := "tnumKnown", unfollowed := true, recurses := true, apart := false, narrowed := true }
def TnumKnownUptoSaid : Prop := tnumKnownUptoRow.holds Try.pinned (OpenSpec.upto tnumKnownSpec)

end Rows
end Go.Proofs.Ytkfgohhmicfnhaa
