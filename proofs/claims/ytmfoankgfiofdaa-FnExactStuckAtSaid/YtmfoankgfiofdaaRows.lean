/-
  No cell of these rows narrows 'for every input' (looked for: loops, veiled, ifaces, maps, wideKeys, modest, calm, conditions, laid).
  DERIVED. THE GIVEN ROWS OF THIS SEAT. 8 by the template 'for every input the law returns true; each argument reads behind the call as it read before'; 0 by the template 'total and deterministic' (their statements: YtmfoankgfiofdaaTotals.lean).
  GIVEN WITH THE SEED: the statements are not yours to turn. If you find one false, say at which input.
  Laid BY PROGRAM, IN A SANDBOX (cutbox-rows.mjs): the forced cells as the released guide's own fill.sh prints them over the translation 3c5af0cf5b6e8983… (all of the seat's roots in one cut). By AI agents, Wed Nov 11 2026. No macro, syntax, notation, axiom, sorry.
-/
import Derived.Test.YtmfoankgfiofdaaChecked
import GoSem.Claim
import GoSem.ClaimJoined
import GoSem.ClaimMapViews
import Derived.JoinedTies
import Derived.KernelRfl
namespace Go.Proofs.Ytmfoankgfiofdaa
/- THE CELL 'sum', in the pinned program and in every row, IS THE sha256 OF THE DUMP (.gsa) THAT YtmfoankgfiofdaaProg.lean LOADS. Nothing in Lean hashes anything: it is a label: what it is worth is what the hold of that sum in a sandbox is worth. -/
noncomputable def Try.pinned : Pinned := { name := "ytmfoankgfiofdaa", sum := "3c5af0cf5b6e89834f3d32e0e98dd3cc36090c844c7f4bd7ab3504451628ce44", checked := Try.checked }
namespace Rows
def none {H : Type} : Left H := { results := [], args := [] }

/-- 'laws.FnExactBestBreaks': WHATEVER THE INPUT: true; the input reads as it did. -/
def fnExactBestBreaksSpec : ChangeSpec := { name := "fnExactBestBreaks", fn := fun _ => fun
  | [d1, d2, d3] => { results := [.lit (.bool true)], args := [d1, d2, d3] }
  | _ => none }
def fnExactBestBreaksRow : OpenClaim := { program := "ytmfoankgfiofdaa", sum := "3c5af0cf5b6e89834f3d32e0e98dd3cc36090c844c7f4bd7ab3504451628ce44", func := "loop.example/g01054/laws.FnExactBestBreaks", spec := "fnExactBestBreaks", recurses := true, apart := false }
def FnExactBestBreaksSaid : Prop := fnExactBestBreaksRow.holds Try.pinned (OpenSpec.ofChange fnExactBestBreaksSpec)

/-- ITS FALSE NEIGHBOUR: 'it returns false'. Refute it at one input. -/
def fnExactBestBreaksWrong : ChangeSpec := { name := "fnExactBestBreaks", fn := fun _ => fun
  | [d1, d2, d3] => { results := [.lit (.bool false)], args := [d1, d2, d3] }
  | _ => none }
def FnExactBestBreaksWrongFalsely : Prop := fnExactBestBreaksRow.holds Try.pinned (OpenSpec.ofChange fnExactBestBreaksWrong)

/-- 'laws.FnExactBestWithLines': WHATEVER THE INPUT: true; the input reads as it did. -/
def fnExactBestWithLinesSpec : ChangeSpec := { name := "fnExactBestWithLines", fn := fun _ => fun
  | [d1, d2, d3, d4] => { results := [.lit (.bool true)], args := [d1, d2, d3, d4] }
  | _ => none }
def fnExactBestWithLinesRow : OpenClaim := { program := "ytmfoankgfiofdaa", sum := "3c5af0cf5b6e89834f3d32e0e98dd3cc36090c844c7f4bd7ab3504451628ce44", func := "loop.example/g01054/laws.FnExactBestWithLines", spec := "fnExactBestWithLines", recurses := true, apart := false }
def FnExactBestWithLinesSaid : Prop := fnExactBestWithLinesRow.holds Try.pinned (OpenSpec.ofChange fnExactBestWithLinesSpec)

/-- ITS FALSE NEIGHBOUR: 'it returns false'. Refute it at one input. -/
def fnExactBestWithLinesWrong : ChangeSpec := { name := "fnExactBestWithLines", fn := fun _ => fun
  | [d1, d2, d3, d4] => { results := [.lit (.bool false)], args := [d1, d2, d3, d4] }
  | _ => none }
def FnExactBestWithLinesWrongFalsely : Prop := fnExactBestWithLinesRow.holds Try.pinned (OpenSpec.ofChange fnExactBestWithLinesWrong)

/-- 'laws.FnExactCostOfBreaks': WHATEVER THE INPUT: true; the input reads as it did. -/
def fnExactCostOfBreaksSpec : ChangeSpec := { name := "fnExactCostOfBreaks", fn := fun _ => fun
  | [d1, d2, d3, d4] => { results := [.lit (.bool true)], args := [d1, d2, d3, d4] }
  | _ => none }
def fnExactCostOfBreaksRow : OpenClaim := { program := "ytmfoankgfiofdaa", sum := "3c5af0cf5b6e89834f3d32e0e98dd3cc36090c844c7f4bd7ab3504451628ce44", func := "loop.example/g01054/laws.FnExactCostOfBreaks", spec := "fnExactCostOfBreaks", apart := false }
def FnExactCostOfBreaksSaid : Prop := fnExactCostOfBreaksRow.holds Try.pinned (OpenSpec.ofChange fnExactCostOfBreaksSpec)

/-- ITS FALSE NEIGHBOUR: 'it returns false'. Refute it at one input. -/
def fnExactCostOfBreaksWrong : ChangeSpec := { name := "fnExactCostOfBreaks", fn := fun _ => fun
  | [d1, d2, d3, d4] => { results := [.lit (.bool false)], args := [d1, d2, d3, d4] }
  | _ => none }
def FnExactCostOfBreaksWrongFalsely : Prop := fnExactCostOfBreaksRow.holds Try.pinned (OpenSpec.ofChange fnExactCostOfBreaksWrong)

/-- 'laws.FnExactCountBreaks': WHATEVER THE INPUT: true; the input reads as it did. -/
def fnExactCountBreaksSpec : ChangeSpec := { name := "fnExactCountBreaks", fn := fun _ => fun
  | [d1, d2, d3] => { results := [.lit (.bool true)], args := [d1, d2, d3] }
  | _ => none }
def fnExactCountBreaksRow : OpenClaim := { program := "ytmfoankgfiofdaa", sum := "3c5af0cf5b6e89834f3d32e0e98dd3cc36090c844c7f4bd7ab3504451628ce44", func := "loop.example/g01054/laws.FnExactCountBreaks", spec := "fnExactCountBreaks", apart := false }
def FnExactCountBreaksSaid : Prop := fnExactCountBreaksRow.holds Try.pinned (OpenSpec.ofChange fnExactCountBreaksSpec)

/-- ITS FALSE NEIGHBOUR: 'it returns false'. Refute it at one input. -/
def fnExactCountBreaksWrong : ChangeSpec := { name := "fnExactCountBreaks", fn := fun _ => fun
  | [d1, d2, d3] => { results := [.lit (.bool false)], args := [d1, d2, d3] }
  | _ => none }
def FnExactCountBreaksWrongFalsely : Prop := fnExactCountBreaksRow.holds Try.pinned (OpenSpec.ofChange fnExactCountBreaksWrong)

/-- 'laws.FnExactFewestLines': WHATEVER THE INPUT: true; the input reads as it did. -/
def fnExactFewestLinesSpec : ChangeSpec := { name := "fnExactFewestLines", fn := fun _ => fun
  | [d1, d2, d3] => { results := [.lit (.bool true)], args := [d1, d2, d3] }
  | _ => none }
def fnExactFewestLinesRow : OpenClaim := { program := "ytmfoankgfiofdaa", sum := "3c5af0cf5b6e89834f3d32e0e98dd3cc36090c844c7f4bd7ab3504451628ce44", func := "loop.example/g01054/laws.FnExactFewestLines", spec := "fnExactFewestLines", recurses := true, apart := false }
def FnExactFewestLinesSaid : Prop := fnExactFewestLinesRow.holds Try.pinned (OpenSpec.ofChange fnExactFewestLinesSpec)

/-- ITS FALSE NEIGHBOUR: 'it returns false'. Refute it at one input. -/
def fnExactFewestLinesWrong : ChangeSpec := { name := "fnExactFewestLines", fn := fun _ => fun
  | [d1, d2, d3] => { results := [.lit (.bool false)], args := [d1, d2, d3] }
  | _ => none }
def FnExactFewestLinesWrongFalsely : Prop := fnExactFewestLinesRow.holds Try.pinned (OpenSpec.ofChange fnExactFewestLinesWrong)

/-- 'laws.FnExactGreedyBreaks': WHATEVER THE INPUT: true; the input reads as it did. -/
def fnExactGreedyBreaksSpec : ChangeSpec := { name := "fnExactGreedyBreaks", fn := fun _ => fun
  | [d1, d2, d3] => { results := [.lit (.bool true)], args := [d1, d2, d3] }
  | _ => none }
def fnExactGreedyBreaksRow : OpenClaim := { program := "ytmfoankgfiofdaa", sum := "3c5af0cf5b6e89834f3d32e0e98dd3cc36090c844c7f4bd7ab3504451628ce44", func := "loop.example/g01054/laws.FnExactGreedyBreaks", spec := "fnExactGreedyBreaks", apart := false }
def FnExactGreedyBreaksSaid : Prop := fnExactGreedyBreaksRow.holds Try.pinned (OpenSpec.ofChange fnExactGreedyBreaksSpec)

/-- ITS FALSE NEIGHBOUR: 'it returns false'. Refute it at one input. -/
def fnExactGreedyBreaksWrong : ChangeSpec := { name := "fnExactGreedyBreaks", fn := fun _ => fun
  | [d1, d2, d3] => { results := [.lit (.bool false)], args := [d1, d2, d3] }
  | _ => none }
def FnExactGreedyBreaksWrongFalsely : Prop := fnExactGreedyBreaksRow.holds Try.pinned (OpenSpec.ofChange fnExactGreedyBreaksWrong)

/-- 'laws.FnExactLinesOfBreaks': WHATEVER THE INPUT: true; the input reads as it did. -/
def fnExactLinesOfBreaksSpec : ChangeSpec := { name := "fnExactLinesOfBreaks", fn := fun _ => fun
  | [d1, d2] => { results := [.lit (.bool true)], args := [d1, d2] }
  | _ => none }
def fnExactLinesOfBreaksRow : OpenClaim := { program := "ytmfoankgfiofdaa", sum := "3c5af0cf5b6e89834f3d32e0e98dd3cc36090c844c7f4bd7ab3504451628ce44", func := "loop.example/g01054/laws.FnExactLinesOfBreaks", spec := "fnExactLinesOfBreaks", apart := false }
def FnExactLinesOfBreaksSaid : Prop := fnExactLinesOfBreaksRow.holds Try.pinned (OpenSpec.ofChange fnExactLinesOfBreaksSpec)

/-- ITS FALSE NEIGHBOUR: 'it returns false'. Refute it at one input. -/
def fnExactLinesOfBreaksWrong : ChangeSpec := { name := "fnExactLinesOfBreaks", fn := fun _ => fun
  | [d1, d2] => { results := [.lit (.bool false)], args := [d1, d2] }
  | _ => none }
def FnExactLinesOfBreaksWrongFalsely : Prop := fnExactLinesOfBreaksRow.holds Try.pinned (OpenSpec.ofChange fnExactLinesOfBreaksWrong)

/-- 'laws.FnExactStuckAt': WHATEVER THE INPUT: true; the input reads as it did. -/
def fnExactStuckAtSpec : ChangeSpec := { name := "fnExactStuckAt", fn := fun _ => fun
  | [d1, d2, d3] => { results := [.lit (.bool true)], args := [d1, d2, d3] }
  | _ => none }
def fnExactStuckAtRow : OpenClaim := { program := "ytmfoankgfiofdaa", sum := "3c5af0cf5b6e89834f3d32e0e98dd3cc36090c844c7f4bd7ab3504451628ce44", func := "loop.example/g01054/laws.FnExactStuckAt", spec := "fnExactStuckAt", recurses := true, apart := false }
def FnExactStuckAtSaid : Prop := fnExactStuckAtRow.holds Try.pinned (OpenSpec.ofChange fnExactStuckAtSpec)

/-- ITS FALSE NEIGHBOUR: 'it returns false'. Refute it at one input. -/
def fnExactStuckAtWrong : ChangeSpec := { name := "fnExactStuckAt", fn := fun _ => fun
  | [d1, d2, d3] => { results := [.lit (.bool false)], args := [d1, d2, d3] }
  | _ => none }
def FnExactStuckAtWrongFalsely : Prop := fnExactStuckAtRow.holds Try.pinned (OpenSpec.ofChange fnExactStuckAtWrong)

/- THE SECOND FORM. 'bulk': how many values and letters a reading holds, each counted each time it is reached (what is shared counts as often as it is met; a slice's spare places count too). A statement '..UptoSaid' is the law's where the arguments, and the package variables that the reading takes, are together of bulk at most 1048576: NARROWER than '..Said'. Prove '..Said' where nothing that the law and all that it calls make is longer than what came in: it says more and counts as full. Else prove '..UptoSaid'. A law counts once. -/
mutual
def uptoBulk {H : Type} : DataW H → Nat
  | .lit (.string bytes) => bytes.length + 1
  | .lit _ => 1
  | .nil => 1
  | .ptr d => uptoBulk d + 1
  | .slice elems spare => uptoBulkAll elems + uptoBulkAll spare + 1
  | .agg parts => uptoBulkAll parts + 1
  | .iface _ d => uptoBulk d + 1
  | .map entries => uptoBulkEntries entries + 1
  | .held _ => 1
def uptoBulkAll {H : Type} : List (DataW H) → Nat
  | [] => 0
  | d :: r => uptoBulk d + uptoBulkAll r
def uptoBulkEntries {H : Type} : List (Lit × DataW H) → Nat
  | [] => 0
  | x :: r => uptoBulkEntry x + uptoBulkEntries r
def uptoBulkEntry {H : Type} : Lit × DataW H → Nat
  | (.string bytes, d) => bytes.length + uptoBulk d + 1
  | (_, d) => uptoBulk d + 1
 end
def uptoSmall : (H : Type) → List (DataW H) → Bool := fun _ ds => decide (uptoBulkAll ds ≤ 1048576)
def OpenSpec.upto (s : _root_.Go.ChangeSpec) : _root_.Go.OpenSpec := { _root_.Go.OpenSpec.ofChange s with cond := some uptoSmall }

/-- 'laws.FnExactBestBreaks', WHERE WHAT IT READS IS OF BULK AT MOST 1048576: true; the input reads as it did. -/
def fnExactBestBreaksUptoRow : OpenClaim := { program := "ytmfoankgfiofdaa", sum := "3c5af0cf5b6e89834f3d32e0e98dd3cc36090c844c7f4bd7ab3504451628ce44", func := "loop.example/g01054/laws.FnExactBestBreaks", spec := "fnExactBestBreaks", recurses := true, apart := false, narrowed := true }
def FnExactBestBreaksUptoSaid : Prop := fnExactBestBreaksUptoRow.holds Try.pinned (OpenSpec.upto fnExactBestBreaksSpec)

/-- 'laws.FnExactBestWithLines', WHERE WHAT IT READS IS OF BULK AT MOST 1048576: true; the input reads as it did. -/
def fnExactBestWithLinesUptoRow : OpenClaim := { program := "ytmfoankgfiofdaa", sum := "3c5af0cf5b6e89834f3d32e0e98dd3cc36090c844c7f4bd7ab3504451628ce44", func := "loop.example/g01054/laws.FnExactBestWithLines", spec := "fnExactBestWithLines", recurses := true, apart := false, narrowed := true }
def FnExactBestWithLinesUptoSaid : Prop := fnExactBestWithLinesUptoRow.holds Try.pinned (OpenSpec.upto fnExactBestWithLinesSpec)

/-- 'laws.FnExactCostOfBreaks', WHERE WHAT IT READS IS OF BULK AT MOST 1048576: true; the input reads as it did. -/
def fnExactCostOfBreaksUptoRow : OpenClaim := { program := "ytmfoankgfiofdaa", sum := "3c5af0cf5b6e89834f3d32e0e98dd3cc36090c844c7f4bd7ab3504451628ce44", func := "loop.example/g01054/laws.FnExactCostOfBreaks", spec := "fnExactCostOfBreaks", apart := false, narrowed := true }
def FnExactCostOfBreaksUptoSaid : Prop := fnExactCostOfBreaksUptoRow.holds Try.pinned (OpenSpec.upto fnExactCostOfBreaksSpec)

/-- 'laws.FnExactCountBreaks', WHERE WHAT IT READS IS OF BULK AT MOST 1048576: true; the input reads as it did. -/
def fnExactCountBreaksUptoRow : OpenClaim := { program := "ytmfoankgfiofdaa", sum := "3c5af0cf5b6e89834f3d32e0e98dd3cc36090c844c7f4bd7ab3504451628ce44", func := "loop.example/g01054/laws.FnExactCountBreaks", spec := "fnExactCountBreaks", apart := false, narrowed := true }
def FnExactCountBreaksUptoSaid : Prop := fnExactCountBreaksUptoRow.holds Try.pinned (OpenSpec.upto fnExactCountBreaksSpec)

/-- 'laws.FnExactFewestLines', WHERE WHAT IT READS IS OF BULK AT MOST 1048576: true; the input reads as it did. -/
def fnExactFewestLinesUptoRow : OpenClaim := { program := "ytmfoankgfiofdaa", sum := "3c5af0cf5b6e89834f3d32e0e98dd3cc36090c844c7f4bd7ab3504451628ce44", func := "loop.example/g01054/laws.FnExactFewestLines", spec := "fnExactFewestLines", recurses := true, apart := false, narrowed := true }
def FnExactFewestLinesUptoSaid : Prop := fnExactFewestLinesUptoRow.holds Try.pinned (OpenSpec.upto fnExactFewestLinesSpec)

/-- 'laws.FnExactGreedyBreaks', WHERE WHAT IT READS IS OF BULK AT MOST 1048576: true; the input reads as it did. -/
def fnExactGreedyBreaksUptoRow : OpenClaim := { program := "ytmfoankgfiofdaa", sum := "3c5af0cf5b6e89834f3d32e0e98dd3cc36090c844c7f4bd7ab3504451628ce44", func := "loop.example/g01054/laws.FnExactGreedyBreaks", spec := "fnExactGreedyBreaks", apart := false, narrowed := true }
def FnExactGreedyBreaksUptoSaid : Prop := fnExactGreedyBreaksUptoRow.holds Try.pinned (OpenSpec.upto fnExactGreedyBreaksSpec)

/-- 'laws.FnExactLinesOfBreaks', WHERE WHAT IT READS IS OF BULK AT MOST 1048576: true; the input reads as it did. -/
def fnExactLinesOfBreaksUptoRow : OpenClaim := { program := "ytmfoankgfiofdaa", sum := "3c5af0cf5b6e89834f3d32e0e98dd3cc36090c844c7f4bd7ab3504451628ce44", func := "loop.example/g01054/laws.FnExactLinesOfBreaks", spec := "fnExactLinesOfBreaks", apart := false, narrowed := true }
def FnExactLinesOfBreaksUptoSaid : Prop := fnExactLinesOfBreaksUptoRow.holds Try.pinned (OpenSpec.upto fnExactLinesOfBreaksSpec)

/-- 'laws.FnExactStuckAt', WHERE WHAT IT READS IS OF BULK AT MOST 1048576: true; the input reads as it did. -/
def fnExactStuckAtUptoRow : OpenClaim := { program := "ytmfoankgfiofdaa", sum := "3c5af0cf5b6e89834f3d32e0e98dd3cc36090c844c7f4bd7ab3504451628ce44", func := "loop.example/g01054/laws.FnExactStuckAt", spec := "fnExactStuckAt", recurses := true, apart := false, narrowed := true }
def FnExactStuckAtUptoSaid : Prop := fnExactStuckAtUptoRow.holds Try.pinned (OpenSpec.upto fnExactStuckAtSpec)

end Rows
end Go.Proofs.Ytmfoankgfiofdaa
