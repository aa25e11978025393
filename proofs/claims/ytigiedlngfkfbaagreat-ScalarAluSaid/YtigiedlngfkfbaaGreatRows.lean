/-
  No cell of these rows narrows 'for every input' (looked for: loops, veiled, ifaces, maps, wideKeys, modest, calm, conditions, laid).
  DERIVED. THE GIVEN ROWS OF THIS SEAT. 2 by the template 'for every input the law returns true; each argument reads behind the call as it read before'; 0 by the template 'total and deterministic' (their statements: YtigiedlngfkfbaaGreatTotals.lean).
  GIVEN WITH THE SEED: the statements are not yours to turn. If you find one false, say at which input.
  Laid BY PROGRAM, IN A SANDBOX (cutbox-rows.mjs): the forced cells as the released guide's own fill.sh prints them over the translation c8027b85448e8dd1… (all of the seat's roots in one cut). By AI agents, Wed Nov 11 2026. No macro, syntax, notation, axiom, sorry.
-/
import Derived.Test.YtigiedlngfkfbaaGreatChecked
import GoSem.Claim
import GoSem.ClaimJoined
import GoSem.ClaimMapViews
import Derived.JoinedTies
import Derived.KernelRfl
namespace Go.Proofs.YtigiedlngfkfbaaGreat
/- THE CELL 'sum', in the pinned program and in every row, IS THE sha256 OF THE DUMP (.gsa) THAT YtigiedlngfkfbaaGreatProg.lean LOADS. Nothing in Lean hashes anything: it is a label: what it is worth is what the hold of that sum in a sandbox is worth. -/
noncomputable def Tryz.pinned : Pinned := { name := "ytigiedlngfkfbaagreat", sum := "c8027b85448e8dd1edcd51a5744480ebfa48c7fadfd7aa909c8b3448859f3b73", checked := Tryz.checked }
namespace Rows
def none {H : Type} : Left H := { results := [], args := [] }

/-- 'stockadelaw11.ScalarAlu': WHATEVER THE INPUT: true; the input reads as it did. -/
def scalarAluSpec : ChangeSpec := { name := "scalarAlu", fn := fun _ => fun
  | [d] => { results := [.lit (.bool true)], args := [d] }
  | _ => none }
def scalarAluRow : OpenClaim := { program := "ytigiedlngfkfbaagreat", sum := "c8027b85448e8dd1edcd51a5744480ebfa48c7fadfd7aa909c8b3448859f3b73", func := "stockade/stockadelaw11.ScalarAlu", spec := "scalarAlu", inPlace := ["math/bits.Add64", "math/bits.Sub64"], unfollowed := true, recurses := true, apart := false }
def ScalarAluSaid : Prop := scalarAluRow.holds Tryz.pinned (OpenSpec.ofChange scalarAluSpec)

/-- ITS FALSE NEIGHBOUR: 'it returns false'. Refute it at one input. -/
def scalarAluWrong : ChangeSpec := { name := "scalarAlu", fn := fun _ => fun
  | [d] => { results := [.lit (.bool false)], args := [d] }
  | _ => none }
def ScalarAluWrongFalsely : Prop := scalarAluRow.holds Tryz.pinned (OpenSpec.ofChange scalarAluWrong)

/-- 'stockadelaw11.ScalarSets': WHATEVER THE INPUT: true; the input reads as it did. -/
def scalarSetsSpec : ChangeSpec := { name := "scalarSets", fn := fun _ => fun
  | [d1, d2, d3] => { results := [.lit (.bool true)], args := [d1, d2, d3] }
  | _ => none }
def scalarSetsRow : OpenClaim := { program := "ytigiedlngfkfbaagreat", sum := "c8027b85448e8dd1edcd51a5744480ebfa48c7fadfd7aa909c8b3448859f3b73", func := "stockade/stockadelaw11.ScalarSets", spec := "scalarSets", inPlace := ["math/bits.Add64", "math/bits.Sub64"], unfollowed := true, recurses := true, apart := false }
def ScalarSetsSaid : Prop := scalarSetsRow.holds Tryz.pinned (OpenSpec.ofChange scalarSetsSpec)

/-- ITS FALSE NEIGHBOUR: 'it returns false'. Refute it at one input. -/
def scalarSetsWrong : ChangeSpec := { name := "scalarSets", fn := fun _ => fun
  | [d1, d2, d3] => { results := [.lit (.bool false)], args := [d1, d2, d3] }
  | _ => none }
def ScalarSetsWrongFalsely : Prop := scalarSetsRow.holds Tryz.pinned (OpenSpec.ofChange scalarSetsWrong)

/- THE SECOND FORM. 'bulk': how many values and letters a reading holds, each counted each time it is reached (what is shared counts as often as it is met; a slice's spare places count too). A statement '..UptoSaid' is the law's where the arguments, and the package variables that the reading takes, are together of bulk at most 1048576: NARROWER than '..Said'. Prove '..Said' where nothing that the law and all that it calls make is longer than what came in: it says more and counts as full. Else prove '..UptoSaid'. A law counts once. -/
mutual
def uptoBulk {H : Type} : DataW H → Nat
  | .lit (.string bytes) => bytes.length + 1
  | .lit _ => 1
  | .nil => 1
  | .ptr d => uptoBulk d + 1
  | .slice elems spare => uptoBulkAll elems + uptoBulkAll spare + 1
  | .agg parts => uptoBulkAll parts + 1
  | .iface _ d => uptoBulk d + 1
  | .map entries => uptoBulkEntries entries + 1
  | .held _ => 1
def uptoBulkAll {H : Type} : List (DataW H) → Nat
  | [] => 0
  | d :: r => uptoBulk d + uptoBulkAll r
def uptoBulkEntries {H : Type} : List (Lit × DataW H) → Nat
  | [] => 0
  | x :: r => uptoBulkEntry x + uptoBulkEntries r
def uptoBulkEntry {H : Type} : Lit × DataW H → Nat
  | (.string bytes, d) => bytes.length + uptoBulk d + 1
  | (_, d) => uptoBulk d + 1
 end
def uptoSmall : (H : Type) → List (DataW H) → Bool := fun _ ds => decide (uptoBulkAll ds ≤ 1048576)
def OpenSpec.upto (s : _root_.Go.ChangeSpec) : _root_.Go.OpenSpec := { _root_.Go.OpenSpec.ofChange s with cond := some uptoSmall }

/-- 'stockadelaw11.ScalarAlu', WHERE WHAT IT READS IS OF BULK AT MOST 1048576: true; the input reads as it did. -/
def scalarAluUptoRow : OpenClaim := { program := "ytigiedlngfkfbaagreat", sum := "c8027b85448e8dd1edcd51a5744480ebfa48c7fadfd7aa909c8b3448859f3b73", func := "stockade/stockadelaw11.ScalarAlu", spec := "scalarAlu", inPlace := ["math/bits.Add64", "math/bits.Sub64"], unfollowed := true, recurses := true, apart := false, narrowed := true }
def ScalarAluUptoSaid : Prop := scalarAluUptoRow.holds Tryz.pinned (OpenSpec.upto scalarAluSpec)

/-- 'stockadelaw11.ScalarSets', WHERE WHAT IT READS IS OF BULK AT MOST 1048576: true; the input reads as it did. -/
def scalarSetsUptoRow : OpenClaim := { program := "ytigiedlngfkfbaagreat", sum := "c8027b85448e8dd1edcd51a5744480ebfa48c7fadfd7aa909c8b3448859f3b73", func := "stockade/stockadelaw11.ScalarSets", spec := "scalarSets", inPlace := ["math/bits.Add64", "math/bits.Sub64"], unfollowed := true, recurses := true, apart := false, narrowed := true }
def ScalarSetsUptoSaid : Prop := scalarSetsUptoRow.holds Tryz.pinned (OpenSpec.upto scalarSetsSpec)

end Rows
end Go.Proofs.YtigiedlngfkfbaaGreat
