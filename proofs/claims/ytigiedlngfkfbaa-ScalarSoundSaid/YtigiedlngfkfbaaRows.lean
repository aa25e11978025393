/-
  No cell of these rows narrows 'for every input' (looked for: loops, veiled, ifaces, maps, wideKeys, modest, calm, conditions, laid).
  DERIVED. THE GIVEN ROWS OF THIS SEAT. 7 by the template 'for every input the law returns true; each argument reads behind the call as it read before'; 0 by the template 'total and deterministic' (their statements: YtigiedlngfkfbaaTotals.lean).
  GIVEN WITH THE SEED: the statements are not yours to turn. If you find one false, say at which input.
  Laid BY PROGRAM, IN A SANDBOX (cutbox-rows.mjs): the forced cells as the released guide's own fill.sh prints them over the translation 6bbc6639583fbcb5… (all of the seat's roots in one cut). By AI agents, Wed Nov 11 2026. No macro, syntax, notation, axiom, sorry.
-/
import Derived.Test.YtigiedlngfkfbaaChecked
import GoSem.Claim
import GoSem.ClaimJoined
import GoSem.ClaimMapViews
import Derived.JoinedTies
import Derived.KernelRfl
namespace Go.Proofs.Ytigiedlngfkfbaa
/- THE CELL 'sum', in the pinned program and in every row, IS THE sha256 OF THE DUMP (.gsa) THAT YtigiedlngfkfbaaProg.lean LOADS. Nothing in Lean hashes anything: it is a label: what it is worth is what the hold of that sum in a sandbox is worth. -/
noncomputable def Try.pinned : Pinned := { name := "ytigiedlngfkfbaa", sum := "6bbc6639583fbcb5c7f5327e9127386a512f60ea92a667ffa7221e6c865b43b5", checked := Try.checked }
namespace Rows
def none {H : Type} : Left H := { results := [], args := [] }

/-- 'stockadelaw11.ScalarRefines': WHATEVER THE INPUT: true; the input reads as it did. -/
def scalarRefinesSpec : ChangeSpec := { name := "scalarRefines", fn := fun _ => fun
  | [d1, d2] => { results := [.lit (.bool true)], args := [d1, d2] }
  | _ => none }
def scalarRefinesRow : OpenClaim := { program := "ytigiedlngfkfbaa", sum := "6bbc6639583fbcb5c7f5327e9127386a512f60ea92a667ffa7221e6c865b43b5", func := "stockade/stockadelaw11.ScalarRefines", spec := "scalarRefines", inPlace := ["math/bits.Add64", "math/bits.Sub64"], unfollowed := true, recurses := true, apart := false }
def ScalarRefinesSaid : Prop := scalarRefinesRow.holds Try.pinned (OpenSpec.ofChange scalarRefinesSpec)

/-- ITS FALSE NEIGHBOUR: 'it returns false'. Refute it at one input. -/
def scalarRefinesWrong : ChangeSpec := { name := "scalarRefines", fn := fun _ => fun
  | [d1, d2] => { results := [.lit (.bool false)], args := [d1, d2] }
  | _ => none }
def ScalarRefinesWrongFalsely : Prop := scalarRefinesRow.holds Try.pinned (OpenSpec.ofChange scalarRefinesWrong)

/-- 'stockadelaw11.ScalarSettles': WHATEVER THE INPUT: true; the input reads as it did. -/
def scalarSettlesSpec : ChangeSpec := { name := "scalarSettles", fn := fun _ => fun
  | [d1, d2, d3] => { results := [.lit (.bool true)], args := [d1, d2, d3] }
  | _ => none }
def scalarSettlesRow : OpenClaim := { program := "ytigiedlngfkfbaa", sum := "6bbc6639583fbcb5c7f5327e9127386a512f60ea92a667ffa7221e6c865b43b5", func := "stockade/stockadelaw11.ScalarSettles", spec := "scalarSettles", inPlace := ["math/bits.Add64", "math/bits.Sub64"], unfollowed := true, recurses := true, apart := false }
def ScalarSettlesSaid : Prop := scalarSettlesRow.holds Try.pinned (OpenSpec.ofChange scalarSettlesSpec)

/-- ITS FALSE NEIGHBOUR: 'it returns false'. Refute it at one input. -/
def scalarSettlesWrong : ChangeSpec := { name := "scalarSettles", fn := fun _ => fun
  | [d1, d2, d3] => { results := [.lit (.bool false)], args := [d1, d2, d3] }
  | _ => none }
def ScalarSettlesWrongFalsely : Prop := scalarSettlesRow.holds Try.pinned (OpenSpec.ofChange scalarSettlesWrong)

/-- 'stockadelaw11.ScalarKeeps': WHATEVER THE INPUT: true; the input reads as it did. -/
def scalarKeepsSpec : ChangeSpec := { name := "scalarKeeps", fn := fun _ => fun
  | [d1, d2, d3] => { results := [.lit (.bool true)], args := [d1, d2, d3] }
  | _ => none }
def scalarKeepsRow : OpenClaim := { program := "ytigiedlngfkfbaa", sum := "6bbc6639583fbcb5c7f5327e9127386a512f60ea92a667ffa7221e6c865b43b5", func := "stockade/stockadelaw11.ScalarKeeps", spec := "scalarKeeps", inPlace := ["math/bits.Add64", "math/bits.Sub64"], unfollowed := true, recurses := true, apart := false }
def ScalarKeepsSaid : Prop := scalarKeepsRow.holds Try.pinned (OpenSpec.ofChange scalarKeepsSpec)

/-- ITS FALSE NEIGHBOUR: 'it returns false'. Refute it at one input. -/
def scalarKeepsWrong : ChangeSpec := { name := "scalarKeeps", fn := fun _ => fun
  | [d1, d2, d3] => { results := [.lit (.bool false)], args := [d1, d2, d3] }
  | _ => none }
def ScalarKeepsWrongFalsely : Prop := scalarKeepsRow.holds Try.pinned (OpenSpec.ofChange scalarKeepsWrong)

/-- 'stockadelaw11.ScalarSwaps': WHATEVER THE INPUT: true; the input reads as it did. -/
def scalarSwapsSpec : ChangeSpec := { name := "scalarSwaps", fn := fun _ => fun
  | [d1, d2] => { results := [.lit (.bool true)], args := [d1, d2] }
  | _ => none }
def scalarSwapsRow : OpenClaim := { program := "ytigiedlngfkfbaa", sum := "6bbc6639583fbcb5c7f5327e9127386a512f60ea92a667ffa7221e6c865b43b5", func := "stockade/stockadelaw11.ScalarSwaps", spec := "scalarSwaps", inPlace := ["math/bits.Add64", "math/bits.Sub64"], unfollowed := true, recurses := true, apart := false }
def ScalarSwapsSaid : Prop := scalarSwapsRow.holds Try.pinned (OpenSpec.ofChange scalarSwapsSpec)

/-- ITS FALSE NEIGHBOUR: 'it returns false'. Refute it at one input. -/
def scalarSwapsWrong : ChangeSpec := { name := "scalarSwaps", fn := fun _ => fun
  | [d1, d2] => { results := [.lit (.bool false)], args := [d1, d2] }
  | _ => none }
def ScalarSwapsWrongFalsely : Prop := scalarSwapsRow.holds Try.pinned (OpenSpec.ofChange scalarSwapsWrong)

/-- 'stockadelaw11.ScalarKnown': WHATEVER THE INPUT: true; the input reads as it did. -/
def scalarKnownSpec : ChangeSpec := { name := "scalarKnown", fn := fun _ => fun
  | [] => { results := [.lit (.bool true)], args := [] }
  | _ => none }
def scalarKnownRow : OpenClaim := { program := "ytigiedlngfkfbaa", sum := "6bbc6639583fbcb5c7f5327e9127386a512f60ea92a667ffa7221e6c865b43b5", func := "stockade/stockadelaw11.ScalarKnown", spec := "scalarKnown", inPlace := ["math/bits.Add64", "math/bits.Sub64"], unfollowed := true, recurses := true, apart := false }
def ScalarKnownSaid : Prop := scalarKnownRow.holds Try.pinned (OpenSpec.ofChange scalarKnownSpec)

/-- ITS FALSE NEIGHBOUR: 'it returns false'. Refute it at one input. -/
def scalarKnownWrong : ChangeSpec := { name := "scalarKnown", fn := fun _ => fun
  | [] => { results := [.lit (.bool false)], args := [] }
  | _ => none }
def ScalarKnownWrongFalsely : Prop := scalarKnownRow.holds Try.pinned (OpenSpec.ofChange scalarKnownWrong)

/-- 'stockadelaw11.ScalarSound': WHATEVER THE INPUT: true; the input reads as it did. -/
def scalarSoundSpec : ChangeSpec := { name := "scalarSound", fn := fun _ => fun
  | [d1, d2, d3] => { results := [.lit (.bool true)], args := [d1, d2, d3] }
  | _ => none }
def scalarSoundRow : OpenClaim := { program := "ytigiedlngfkfbaa", sum := "6bbc6639583fbcb5c7f5327e9127386a512f60ea92a667ffa7221e6c865b43b5", func := "stockade/stockadelaw11.ScalarSound", spec := "scalarSound", inPlace := ["math/bits.Add64", "math/bits.Sub64"], unfollowed := true, recurses := true, apart := false }
def ScalarSoundSaid : Prop := scalarSoundRow.holds Try.pinned (OpenSpec.ofChange scalarSoundSpec)

/-- ITS FALSE NEIGHBOUR: 'it returns false'. Refute it at one input. -/
def scalarSoundWrong : ChangeSpec := { name := "scalarSound", fn := fun _ => fun
  | [d1, d2, d3] => { results := [.lit (.bool false)], args := [d1, d2, d3] }
  | _ => none }
def ScalarSoundWrongFalsely : Prop := scalarSoundRow.holds Try.pinned (OpenSpec.ofChange scalarSoundWrong)

/-- 'stockadelaw11.ScalarOrder': WHATEVER THE INPUT: true; the input reads as it did. -/
def scalarOrderSpec : ChangeSpec := { name := "scalarOrder", fn := fun _ => fun
  | [d1, d2, d3] => { results := [.lit (.bool true)], args := [d1, d2, d3] }
  | _ => none }
def scalarOrderRow : OpenClaim := { program := "ytigiedlngfkfbaa", sum := "6bbc6639583fbcb5c7f5327e9127386a512f60ea92a667ffa7221e6c865b43b5", func := "stockade/stockadelaw11.ScalarOrder", spec := "scalarOrder", inPlace := ["math/bits.Add64", "math/bits.Sub64"], unfollowed := true, recurses := true, apart := false }
def ScalarOrderSaid : Prop := scalarOrderRow.holds Try.pinned (OpenSpec.ofChange scalarOrderSpec)

/-- ITS FALSE NEIGHBOUR: 'it returns false'. Refute it at one input. -/
def scalarOrderWrong : ChangeSpec := { name := "scalarOrder", fn := fun _ => fun
  | [d1, d2, d3] => { results := [.lit (.bool false)], args := [d1, d2, d3] }
  | _ => none }
def ScalarOrderWrongFalsely : Prop := scalarOrderRow.holds Try.pinned (OpenSpec.ofChange scalarOrderWrong)

/- THE SECOND FORM. 'bulk': how many values and letters a reading holds, each counted each time it is reached (what is shared counts as often as it is met; a slice's spare places count too). A statement '..UptoSaid' is the law's where the arguments, and the package variables that the reading takes, are together of bulk at most 1048576: NARROWER than '..Said'. Prove '..Said' where nothing that the law and all that it calls make is longer than what came in: it says more and counts as full. Else prove '..UptoSaid'. A law counts once. -/
mutual
def uptoBulk {H : Type} : DataW H → Nat
  | .lit (.string bytes) => bytes.length + 1
  | .lit _ => 1
  | .nil => 1
  | .ptr d => uptoBulk d + 1
  | .slice elems spare => uptoBulkAll elems + uptoBulkAll spare + 1
  | .agg parts => uptoBulkAll parts + 1
  | .iface _ d => uptoBulk d + 1
  | .map entries => uptoBulkEntries entries + 1
  | .held _ => 1
def uptoBulkAll {H : Type} : List (DataW H) → Nat
  | [] => 0
  | d :: r => uptoBulk d + uptoBulkAll r
def uptoBulkEntries {H : Type} : List (Lit × DataW H) → Nat
  | [] => 0
  | x :: r => uptoBulkEntry x + uptoBulkEntries r
def uptoBulkEntry {H : Type} : Lit × DataW H → Nat
  | (.string bytes, d) => bytes.length + uptoBulk d + 1
  | (_, d) => uptoBulk d + 1
 end
def uptoSmall : (H : Type) → List (DataW H) → Bool := fun _ ds => decide (uptoBulkAll ds ≤ 1048576)
def OpenSpec.upto (s : _root_.Go.ChangeSpec) : _root_.Go.OpenSpec := { _root_.Go.OpenSpec.ofChange s with cond := some uptoSmall }

/-- 'stockadelaw11.ScalarRefines', WHERE WHAT IT READS IS OF BULK AT MOST 1048576: true; the input reads as it did. -/
def scalarRefinesUptoRow : OpenClaim := { program := "ytigiedlngfkfbaa", sum := "6bbc6639583fbcb5c7f5327e9127386a512f60ea92a667ffa7221e6c865b43b5", func := "stockade/stockadelaw11.ScalarRefines", spec := "scalarRefines", inPlace := ["math/bits.Add64", "math/bits.Sub64"], unfollowed := true, recurses := true, apart := false, narrowed := true }
def ScalarRefinesUptoSaid : Prop := scalarRefinesUptoRow.holds Try.pinned (OpenSpec.upto scalarRefinesSpec)

/-- 'stockadelaw11.ScalarSettles', WHERE WHAT IT READS IS OF BULK AT MOST 1048576: true; the input reads as it did. -/
def scalarSettlesUptoRow : OpenClaim := { program := "ytigiedlngfkfbaa", sum := "6bbc6639583fbcb5c7f5327e9127386a512f60ea92a667ffa7221e6c865b43b5", func := "stockade/stockadelaw11.ScalarSettles", spec := "scalarSettles", inPlace := ["math/bits.Add64", "math/bits.Sub64"], unfollowed := true, recurses := true, apart := false, narrowed := true }
def ScalarSettlesUptoSaid : Prop := scalarSettlesUptoRow.holds Try.pinned (OpenSpec.upto scalarSettlesSpec)

/-- 'stockadelaw11.ScalarKeeps', WHERE WHAT IT READS IS OF BULK AT MOST 1048576: true; the input reads as it did. -/
def scalarKeepsUptoRow : OpenClaim := { program := "ytigiedlngfkfbaa", sum := "6bbc6639583fbcb5c7f5327e9127386a512f60ea92a667ffa7221e6c865b43b5", func := "stockade/stockadelaw11.ScalarKeeps", spec := "scalarKeeps", inPlace := ["math/bits.Add64", "math/bits.Sub64"], unfollowed := true, recurses := true, apart := false, narrowed := true }
def ScalarKeepsUptoSaid : Prop := scalarKeepsUptoRow.holds Try.pinned (OpenSpec.upto scalarKeepsSpec)

/-- 'stockadelaw11.ScalarSwaps', WHERE WHAT IT READS IS OF BULK AT MOST 1048576: true; the input reads as it did. -/
def scalarSwapsUptoRow : OpenClaim := { program := "ytigiedlngfkfbaa", sum := "6bbc6639583fbcb5c7f5327e9127386a512f60ea92a667ffa7221e6c865b43b5", func := "stockade/stockadelaw11.ScalarSwaps", spec := "scalarSwaps", inPlace := ["math/bits.Add64", "math/bits.Sub64"], unfollowed := true, recurses := true, apart := false, narrowed := true }
def ScalarSwapsUptoSaid : Prop := scalarSwapsUptoRow.holds Try.pinned (OpenSpec.upto scalarSwapsSpec)

/-- 'stockadelaw11.ScalarKnown', WHERE WHAT IT READS IS OF BULK AT MOST 1048576: true; the input reads as it did. -/
def scalarKnownUptoRow : OpenClaim := { program := "ytigiedlngfkfbaa", sum := "6bbc6639583fbcb5c7f5327e9127386a512f60ea92a667ffa7221e6c865b43b5", func := "stockade/stockadelaw11.ScalarKnown", spec := "scalarKnown", inPlace := ["math/bits.Add64", "math/bits.Sub64"], unfollowed := true, recurses := true, apart := false, narrowed := true }
def ScalarKnownUptoSaid : Prop := scalarKnownUptoRow.holds Try.pinned (OpenSpec.upto scalarKnownSpec)

/-- 'stockadelaw11.ScalarSound', WHERE WHAT IT READS IS OF BULK AT MOST 1048576: true; the input reads as it did. -/
def scalarSoundUptoRow : OpenClaim := { program := "ytigiedlngfkfbaa", sum := "6bbc6639583fbcb5c7f5327e9127386a512f60ea92a667ffa7221e6c865b43b5", func := "stockade/stockadelaw11.ScalarSound", spec := "scalarSound", inPlace := ["math/bits.Add64", "math/bits.Sub64"], unfollowed := true, recurses := true, apart := false, narrowed := true }
def ScalarSoundUptoSaid : Prop := scalarSoundUptoRow.holds Try.pinned (OpenSpec.upto scalarSoundSpec)

/-- 'stockadelaw11.ScalarOrder', WHERE WHAT IT READS IS OF BULK AT MOST 1048576: true; the input reads as it did. -/
def scalarOrderUptoRow : OpenClaim := { program := "ytigiedlngfkfbaa", sum := "6bbc6639583fbcb5c7f5327e9127386a512f60ea92a667ffa7221e6c865b43b5", func := "stockade/stockadelaw11.ScalarOrder", spec := "scalarOrder", inPlace := ["math/bits.Add64", "math/bits.Sub64"], unfollowed := true, recurses := true, apart := false, narrowed := true }
def ScalarOrderUptoSaid : Prop := scalarOrderUptoRow.holds Try.pinned (OpenSpec.upto scalarOrderSpec)

end Rows
end Go.Proofs.Ytigiedlngfkfbaa
