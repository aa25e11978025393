/-
  No cell of these rows narrows 'for every input' (looked for: loops, veiled, ifaces, maps, wideKeys, modest, calm, conditions, laid).
  DERIVED. THE GIVEN ROWS OF THIS SEAT. 8 by the template 'for every input the law returns true; each argument reads behind the call as it read before'; 0 by the template 'total and deterministic' (their statements: YtflnkcibjebdeaaTotals.lean).
  GIVEN WITH THE SEED: the statements are not yours to turn. If you find one false, say at which input.
  Laid BY PROGRAM, IN A SANDBOX (cutbox-rows.mjs): the forced cells as the released guide's own fill.sh prints them over the translation 3ab4231dfd37a542… (all of the seat's roots in one cut). By AI agents, Wed Nov 11 2026. No macro, syntax, notation, axiom, sorry.
-/
import Derived.Test.YtflnkcibjebdeaaChecked
import GoSem.Claim
import GoSem.ClaimJoined
import GoSem.ClaimMapViews
import Derived.JoinedTies
import Derived.KernelRfl
namespace Go.Proofs.Ytflnkcibjebdeaa
/- THE CELL 'sum', in the pinned program and in every row, IS THE sha256 OF THE DUMP (.gsa) THAT YtflnkcibjebdeaaProg.lean LOADS. Nothing in Lean hashes anything: it is a label: what it is worth is what the hold of that sum in a sandbox is worth. -/
noncomputable def Try.pinned : Pinned := { name := "ytflnkcibjebdeaa", sum := "3ab4231dfd37a5425f27196abced87b08424e4c2769130035ed36bef6d34f87f", checked := Try.checked }
namespace Rows
def none {H : Type} : Left H := { results := [], args := [] }

/-- 'stockadelaw12.StateMay': WHATEVER THE INPUT: true; the input reads as it did. -/
def stateMaySpec : ChangeSpec := { name := "stateMay", fn := fun _ => fun
  | [d] => { results := [.lit (.bool true)], args := [d] }
  | _ => none }
def stateMayRow : OpenClaim := { program := "ytflnkcibjebdeaa", sum := "3ab4231dfd37a5425f27196abced87b08424e4c2769130035ed36bef6d34f87f", func := "stockade/stockadelaw12.StateMay", spec := "stateMay", unfollowed := true, recurses := true, apart := false }
def StateMaySaid : Prop := stateMayRow.holds Try.pinned (OpenSpec.ofChange stateMaySpec)

/-- ITS FALSE NEIGHBOUR: 'it returns false'. Refute it at one input. -/
def stateMayWrong : ChangeSpec := { name := "stateMay", fn := fun _ => fun
  | [d] => { results := [.lit (.bool false)], args := [d] }
  | _ => none }
def StateMayWrongFalsely : Prop := stateMayRow.holds Try.pinned (OpenSpec.ofChange stateMayWrong)

/-- 'stockadelaw12.StateHolds': WHATEVER THE INPUT: true; the input reads as it did. -/
def stateHoldsSpec : ChangeSpec := { name := "stateHolds", fn := fun _ => fun
  | [d1, d2] => { results := [.lit (.bool true)], args := [d1, d2] }
  | _ => none }
def stateHoldsRow : OpenClaim := { program := "ytflnkcibjebdeaa", sum := "3ab4231dfd37a5425f27196abced87b08424e4c2769130035ed36bef6d34f87f", func := "stockade/stockadelaw12.StateHolds", spec := "stateHolds", unfollowed := true, recurses := true, apart := false }
def StateHoldsSaid : Prop := stateHoldsRow.holds Try.pinned (OpenSpec.ofChange stateHoldsSpec)

/-- ITS FALSE NEIGHBOUR: 'it returns false'. Refute it at one input. -/
def stateHoldsWrong : ChangeSpec := { name := "stateHolds", fn := fun _ => fun
  | [d1, d2] => { results := [.lit (.bool false)], args := [d1, d2] }
  | _ => none }
def StateHoldsWrongFalsely : Prop := stateHoldsRow.holds Try.pinned (OpenSpec.ofChange stateHoldsWrong)

/-- 'stockadelaw12.StateIn': WHATEVER THE INPUT: true; the input reads as it did. -/
def stateInSpec : ChangeSpec := { name := "stateIn", fn := fun _ => fun
  | [d1, d2] => { results := [.lit (.bool true)], args := [d1, d2] }
  | _ => none }
def stateInRow : OpenClaim := { program := "ytflnkcibjebdeaa", sum := "3ab4231dfd37a5425f27196abced87b08424e4c2769130035ed36bef6d34f87f", func := "stockade/stockadelaw12.StateIn", spec := "stateIn", unfollowed := true, recurses := true, apart := false }
def StateInSaid : Prop := stateInRow.holds Try.pinned (OpenSpec.ofChange stateInSpec)

/-- ITS FALSE NEIGHBOUR: 'it returns false'. Refute it at one input. -/
def stateInWrong : ChangeSpec := { name := "stateIn", fn := fun _ => fun
  | [d1, d2] => { results := [.lit (.bool false)], args := [d1, d2] }
  | _ => none }
def StateInWrongFalsely : Prop := stateInRow.holds Try.pinned (OpenSpec.ofChange stateInWrong)

/-- 'stockadelaw12.StateJoin': WHATEVER THE INPUT: true; the input reads as it did. -/
def stateJoinSpec : ChangeSpec := { name := "stateJoin", fn := fun _ => fun
  | [d1, d2] => { results := [.lit (.bool true)], args := [d1, d2] }
  | _ => none }
def stateJoinRow : OpenClaim := { program := "ytflnkcibjebdeaa", sum := "3ab4231dfd37a5425f27196abced87b08424e4c2769130035ed36bef6d34f87f", func := "stockade/stockadelaw12.StateJoin", spec := "stateJoin", unfollowed := true, recurses := true, apart := false }
def StateJoinSaid : Prop := stateJoinRow.holds Try.pinned (OpenSpec.ofChange stateJoinSpec)

/-- ITS FALSE NEIGHBOUR: 'it returns false'. Refute it at one input. -/
def stateJoinWrong : ChangeSpec := { name := "stateJoin", fn := fun _ => fun
  | [d1, d2] => { results := [.lit (.bool false)], args := [d1, d2] }
  | _ => none }
def StateJoinWrongFalsely : Prop := stateJoinRow.holds Try.pinned (OpenSpec.ofChange stateJoinWrong)

/-- 'stockadelaw12.StateSound': WHATEVER THE INPUT: true; the input reads as it did. -/
def stateSoundSpec : ChangeSpec := { name := "stateSound", fn := fun _ => fun
  | [d1, d2, d3] => { results := [.lit (.bool true)], args := [d1, d2, d3] }
  | _ => none }
def stateSoundRow : OpenClaim := { program := "ytflnkcibjebdeaa", sum := "3ab4231dfd37a5425f27196abced87b08424e4c2769130035ed36bef6d34f87f", func := "stockade/stockadelaw12.StateSound", spec := "stateSound", unfollowed := true, recurses := true, apart := false }
def StateSoundSaid : Prop := stateSoundRow.holds Try.pinned (OpenSpec.ofChange stateSoundSpec)

/-- ITS FALSE NEIGHBOUR: 'it returns false'. Refute it at one input. -/
def stateSoundWrong : ChangeSpec := { name := "stateSound", fn := fun _ => fun
  | [d1, d2, d3] => { results := [.lit (.bool false)], args := [d1, d2, d3] }
  | _ => none }
def StateSoundWrongFalsely : Prop := stateSoundRow.holds Try.pinned (OpenSpec.ofChange stateSoundWrong)

/-- 'stockadelaw12.StateOrder': WHATEVER THE INPUT: true; the input reads as it did. -/
def stateOrderSpec : ChangeSpec := { name := "stateOrder", fn := fun _ => fun
  | [d1, d2, d3] => { results := [.lit (.bool true)], args := [d1, d2, d3] }
  | _ => none }
def stateOrderRow : OpenClaim := { program := "ytflnkcibjebdeaa", sum := "3ab4231dfd37a5425f27196abced87b08424e4c2769130035ed36bef6d34f87f", func := "stockade/stockadelaw12.StateOrder", spec := "stateOrder", unfollowed := true, recurses := true, apart := false }
def StateOrderSaid : Prop := stateOrderRow.holds Try.pinned (OpenSpec.ofChange stateOrderSpec)

/-- ITS FALSE NEIGHBOUR: 'it returns false'. Refute it at one input. -/
def stateOrderWrong : ChangeSpec := { name := "stateOrder", fn := fun _ => fun
  | [d1, d2, d3] => { results := [.lit (.bool false)], args := [d1, d2, d3] }
  | _ => none }
def StateOrderWrongFalsely : Prop := stateOrderRow.holds Try.pinned (OpenSpec.ofChange stateOrderWrong)

/-- 'stockadelaw12.StateBegin': WHATEVER THE INPUT: true; the input reads as it did. -/
def stateBeginSpec : ChangeSpec := { name := "stateBegin", fn := fun _ => fun
  | [d] => { results := [.lit (.bool true)], args := [d] }
  | _ => none }
def stateBeginRow : OpenClaim := { program := "ytflnkcibjebdeaa", sum := "3ab4231dfd37a5425f27196abced87b08424e4c2769130035ed36bef6d34f87f", func := "stockade/stockadelaw12.StateBegin", spec := "stateBegin", unfollowed := true, recurses := true, apart := false }
def StateBeginSaid : Prop := stateBeginRow.holds Try.pinned (OpenSpec.ofChange stateBeginSpec)

/-- ITS FALSE NEIGHBOUR: 'it returns false'. Refute it at one input. -/
def stateBeginWrong : ChangeSpec := { name := "stateBegin", fn := fun _ => fun
  | [d] => { results := [.lit (.bool false)], args := [d] }
  | _ => none }
def StateBeginWrongFalsely : Prop := stateBeginRow.holds Try.pinned (OpenSpec.ofChange stateBeginWrong)

/-- 'stockadelaw12.StateKnown': WHATEVER THE INPUT: true; the input reads as it did. -/
def stateKnownSpec : ChangeSpec := { name := "stateKnown", fn := fun _ => fun
  | [] => { results := [.lit (.bool true)], args := [] }
  | _ => none }
def stateKnownRow : OpenClaim := { program := "ytflnkcibjebdeaa", sum := "3ab4231dfd37a5425f27196abced87b08424e4c2769130035ed36bef6d34f87f", func := "stockade/stockadelaw12.StateKnown", spec := "stateKnown", unfollowed := true, recurses := true, apart := false }
def StateKnownSaid : Prop := stateKnownRow.holds Try.pinned (OpenSpec.ofChange stateKnownSpec)

/-- ITS FALSE NEIGHBOUR: 'it returns false'. Refute it at one input. -/
def stateKnownWrong : ChangeSpec := { name := "stateKnown", fn := fun _ => fun
  | [] => { results := [.lit (.bool false)], args := [] }
  | _ => none }
def StateKnownWrongFalsely : Prop := stateKnownRow.holds Try.pinned (OpenSpec.ofChange stateKnownWrong)

/- THE SECOND FORM. 'bulk': how many values and letters a reading holds, each counted each time it is reached (what is shared counts as often as it is met; a slice's spare places count too). A statement '..UptoSaid' is the law's where the arguments, and the package variables that the reading takes, are together of bulk at most 1048576: NARROWER than '..Said'. Prove '..Said' where nothing that the law and all that it calls make is longer than what came in: it says more and counts as full. Else prove '..UptoSaid'. A law counts once. -/
mutual
def uptoBulk {H : Type} : DataW H → Nat
  | .lit (.string bytes) => bytes.length + 1
  | .lit _ => 1
  | .nil => 1
  | .ptr d => uptoBulk d + 1
  | .slice elems spare => uptoBulkAll elems + uptoBulkAll spare + 1
  | .agg parts => uptoBulkAll parts + 1
  | .iface _ d => uptoBulk d + 1
  | .map entries => uptoBulkEntries entries + 1
  | .held _ => 1
def uptoBulkAll {H : Type} : List (DataW H) → Nat
  | [] => 0
  | d :: r => uptoBulk d + uptoBulkAll r
def uptoBulkEntries {H : Type} : List (Lit × DataW H) → Nat
  | [] => 0
  | x :: r => uptoBulkEntry x + uptoBulkEntries r
def uptoBulkEntry {H : Type} : Lit × DataW H → Nat
  | (.string bytes, d) => bytes.length + uptoBulk d + 1
  | (_, d) => uptoBulk d + 1
 end
def uptoSmall : (H : Type) → List (DataW H) → Bool := fun _ ds => decide (uptoBulkAll ds ≤ 1048576)
def OpenSpec.upto (s : _root_.Go.ChangeSpec) : _root_.Go.OpenSpec := { _root_.Go.OpenSpec.ofChange s with cond := some uptoSmall }

/-- 'stockadelaw12.StateMay', WHERE WHAT IT READS IS OF BULK AT MOST 1048576: true; the input reads as it did. -/
def stateMayUptoRow : OpenClaim := { program := "ytflnkcibjebdeaa", sum := "3ab4231dfd37a5425f27196abced87b08424e4c2769130035ed36bef6d34f87f", func := "stockade/stockadelaw12.StateMay", spec := "stateMay", unfollowed := true, recurses := true, apart := false, narrowed := true }
def StateMayUptoSaid : Prop := stateMayUptoRow.holds Try.pinned (OpenSpec.upto stateMaySpec)

/-- 'stockadelaw12.StateHolds', WHERE WHAT IT READS IS OF BULK AT MOST 1048576: true; the input reads as it did. -/
def stateHoldsUptoRow : OpenClaim := { program := "ytflnkcibjebdeaa", sum := "3ab4231dfd37a5425f27196abced87b08424e4c2769130035ed36bef6d34f87f", func := "stockade/stockadelaw12.StateHolds", spec := "stateHolds", unfollowed := true, recurses := true, apart := false, narrowed := true }
def StateHoldsUptoSaid : Prop := stateHoldsUptoRow.holds Try.pinned (OpenSpec.upto stateHoldsSpec)

/-- 'stockadelaw12.StateIn', WHERE WHAT IT READS IS OF BULK AT MOST 1048576: true; the input reads as it did. -/
def stateInUptoRow : OpenClaim := { program := "ytflnkcibjebdeaa", sum := "3ab4231dfd37a5425f27196abced87b08424e4c2769130035ed36bef6d34f87f", func := "stockade/stockadelaw12.StateIn", spec := "stateIn", unfollowed := true, recurses := true, apart := false, narrowed := true }
def StateInUptoSaid : Prop := stateInUptoRow.holds Try.pinned (OpenSpec.upto stateInSpec)

/-- 'stockadelaw12.StateJoin', WHERE WHAT IT READS IS OF BULK AT MOST 1048576: true; the input reads as it did. -/
def stateJoinUptoRow : OpenClaim := { program := "ytflnkcibjebdeaa", sum := "3ab4231dfd37a5425f27196abced87b08424e4c2769130035ed36bef6d34f87f", func := "stockade/stockadelaw12.StateJoin", spec := "stateJoin", unfollowed := true, recurses := true, apart := false, narrowed := true }
def StateJoinUptoSaid : Prop := stateJoinUptoRow.holds Try.pinned (OpenSpec.upto stateJoinSpec)

/-- 'stockadelaw12.StateSound', WHERE WHAT IT READS IS OF BULK AT MOST 1048576: true; the input reads as it did. -/
def stateSoundUptoRow : OpenClaim := { program := "ytflnkcibjebdeaa", sum := "3ab4231dfd37a5425f27196abced87b08424e4c2769130035ed36bef6d34f87f", func := "stockade/stockadelaw12.StateSound", spec := "stateSound", unfollowed := true, recurses := true, apart := false, narrowed := true }
def StateSoundUptoSaid : Prop := stateSoundUptoRow.holds Try.pinned (OpenSpec.upto stateSoundSpec)

/-- 'stockadelaw12.StateOrder', WHERE WHAT IT READS IS OF BULK AT MOST 1048576: true; the input reads as it did. -/
def stateOrderUptoRow : OpenClaim := { program := "ytflnkcibjebdeaa", sum := "3ab4231dfd37a5425f27196abced87b08424e4c2769130035ed36bef6d34f87f", func := "stockade/stockadelaw12.StateOrder", spec := "stateOrder", unfollowed := true, recurses := true, apart := false, narrowed := true }
def StateOrderUptoSaid : Prop := stateOrderUptoRow.holds Try.pinned (OpenSpec.upto stateOrderSpec)

/-- 'stockadelaw12.StateBegin', WHERE WHAT IT READS IS OF BULK AT MOST 1048576: true; the input reads as it did. -/
def stateBeginUptoRow : OpenClaim := { program := "ytflnkcibjebdeaa", sum := "3ab4231dfd37a5425f27196abced87b08424e4c2769130035ed36bef6d34f87f", func := "stockade/stockadelaw12.StateBegin", spec := "stateBegin", unfollowed := true, recurses := true, apart := false, narrowed := true }
def StateBeginUptoSaid : Prop := stateBeginUptoRow.holds Try.pinned (OpenSpec.upto stateBeginSpec)

/-- 'stockadelaw12.StateKnown', WHERE WHAT IT READS IS OF BULK AT MOST 1048576: true; the input reads as it did. -/
def stateKnownUptoRow : OpenClaim := { program := "ytflnkcibjebdeaa", sum := "3ab4231dfd37a5425f27196abced87b08424e4c2769130035ed36bef6d34f87f", func := "stockade/stockadelaw12.StateKnown", spec := "stateKnown", unfollowed := true, recurses := true, apart := false, narrowed := true }
def StateKnownUptoSaid : Prop := stateKnownUptoRow.holds Try.pinned (OpenSpec.upto stateKnownSpec)

end Rows
end Go.Proofs.Ytflnkcibjebdeaa
