/-
  No cell of these rows narrows 'for every input' (looked for: loops, veiled, ifaces, maps, wideKeys, modest, calm, conditions, laid).
  DERIVED. THE GIVEN ROWS OF THIS SEAT. 12 by the template 'for every input the law returns true; each argument reads behind the call as it read before'; 0 by the template 'total and deterministic' (their statements: YtnhddepmhelgiaaTotals.lean).
  GIVEN WITH THE SEED: the statements are not yours to turn. If you find one false, say at which input.
  Laid BY PROGRAM, IN A SANDBOX (cutbox-rows.mjs): the forced cells as the released guide's own fill.sh prints them over the translation fcebafee5c55a245… (all of the seat's roots in one cut). By AI agents, Wed Nov 11 2026. No macro, syntax, notation, axiom, sorry.
-/
import Derived.Test.YtnhddepmhelgiaaChecked
import GoSem.Claim
import GoSem.ClaimJoined
import GoSem.ClaimMapViews
import Derived.JoinedTies
import Derived.KernelRfl
namespace Go.Proofs.Ytnhddepmhelgiaa
/- THE CELL 'sum', in the pinned program and in every row, IS THE sha256 OF THE DUMP (.gsa) THAT YtnhddepmhelgiaaProg.lean LOADS. Nothing in Lean hashes anything: it is a label: what it is worth is what the hold of that sum in a sandbox is worth. -/
noncomputable def Try.pinned : Pinned := { name := "ytnhddepmhelgiaa", sum := "fcebafee5c55a2456ae4cbb557302db3d1aaa84af05da05536c65d3196719154", checked := Try.checked }
namespace Rows
def none {H : Type} : Left H := { results := [], args := [] }

/-- 'laws.FnExactAreParallel': WHATEVER THE INPUT: true; the input reads as it did. -/
def fnExactAreParallelSpec : ChangeSpec := { name := "fnExactAreParallel", fn := fun _ => fun
  | [d] => { results := [.lit (.bool true)], args := [d] }
  | _ => none }
def fnExactAreParallelRow : OpenClaim := { program := "ytnhddepmhelgiaa", sum := "fcebafee5c55a2456ae4cbb557302db3d1aaa84af05da05536c65d3196719154", func := "loop.example/g01054/laws.FnExactAreParallel", spec := "fnExactAreParallel", apart := false }
def FnExactAreParallelSaid : Prop := fnExactAreParallelRow.holds Try.pinned (OpenSpec.ofChange fnExactAreParallelSpec)

/-- ITS FALSE NEIGHBOUR: 'it returns false'. Refute it at one input. -/
def fnExactAreParallelWrong : ChangeSpec := { name := "fnExactAreParallel", fn := fun _ => fun
  | [d] => { results := [.lit (.bool false)], args := [d] }
  | _ => none }
def FnExactAreParallelWrongFalsely : Prop := fnExactAreParallelRow.holds Try.pinned (OpenSpec.ofChange fnExactAreParallelWrong)

/-- 'laws.FnExactBestJoin': WHATEVER THE INPUT: true; the input reads as it did. -/
def fnExactBestJoinSpec : ChangeSpec := { name := "fnExactBestJoin", fn := fun _ => fun
  | [d] => { results := [.lit (.bool true)], args := [d] }
  | _ => none }
def fnExactBestJoinRow : OpenClaim := { program := "ytnhddepmhelgiaa", sum := "fcebafee5c55a2456ae4cbb557302db3d1aaa84af05da05536c65d3196719154", func := "loop.example/g01054/laws.FnExactBestJoin", spec := "fnExactBestJoin", apart := false }
def FnExactBestJoinSaid : Prop := fnExactBestJoinRow.holds Try.pinned (OpenSpec.ofChange fnExactBestJoinSpec)

/-- ITS FALSE NEIGHBOUR: 'it returns false'. Refute it at one input. -/
def fnExactBestJoinWrong : ChangeSpec := { name := "fnExactBestJoin", fn := fun _ => fun
  | [d] => { results := [.lit (.bool false)], args := [d] }
  | _ => none }
def FnExactBestJoinWrongFalsely : Prop := fnExactBestJoinRow.holds Try.pinned (OpenSpec.ofChange fnExactBestJoinWrong)

/-- 'laws.FnExactBlanksOf': WHATEVER THE INPUT: true; the input reads as it did. -/
def fnExactBlanksOfSpec : ChangeSpec := { name := "fnExactBlanksOf", fn := fun _ => fun
  | [d] => { results := [.lit (.bool true)], args := [d] }
  | _ => none }
def fnExactBlanksOfRow : OpenClaim := { program := "ytnhddepmhelgiaa", sum := "fcebafee5c55a2456ae4cbb557302db3d1aaa84af05da05536c65d3196719154", func := "loop.example/g01054/laws.FnExactBlanksOf", spec := "fnExactBlanksOf", apart := false }
def FnExactBlanksOfSaid : Prop := fnExactBlanksOfRow.holds Try.pinned (OpenSpec.ofChange fnExactBlanksOfSpec)

/-- ITS FALSE NEIGHBOUR: 'it returns false'. Refute it at one input. -/
def fnExactBlanksOfWrong : ChangeSpec := { name := "fnExactBlanksOf", fn := fun _ => fun
  | [d] => { results := [.lit (.bool false)], args := [d] }
  | _ => none }
def FnExactBlanksOfWrongFalsely : Prop := fnExactBlanksOfRow.holds Try.pinned (OpenSpec.ofChange fnExactBlanksOfWrong)

/-- 'laws.FnExactEvenBreaks': WHATEVER THE INPUT: true; the input reads as it did. -/
def fnExactEvenBreaksSpec : ChangeSpec := { name := "fnExactEvenBreaks", fn := fun _ => fun
  | [d1, d2] => { results := [.lit (.bool true)], args := [d1, d2] }
  | _ => none }
def fnExactEvenBreaksRow : OpenClaim := { program := "ytnhddepmhelgiaa", sum := "fcebafee5c55a2456ae4cbb557302db3d1aaa84af05da05536c65d3196719154", func := "loop.example/g01054/laws.FnExactEvenBreaks", spec := "fnExactEvenBreaks", unfollowed := true, recurses := true, apart := false }
def FnExactEvenBreaksSaid : Prop := fnExactEvenBreaksRow.holds Try.pinned (OpenSpec.ofChange fnExactEvenBreaksSpec)

/-- ITS FALSE NEIGHBOUR: 'it returns false'. Refute it at one input. -/
def fnExactEvenBreaksWrong : ChangeSpec := { name := "fnExactEvenBreaks", fn := fun _ => fun
  | [d1, d2] => { results := [.lit (.bool false)], args := [d1, d2] }
  | _ => none }
def FnExactEvenBreaksWrongFalsely : Prop := fnExactEvenBreaksRow.holds Try.pinned (OpenSpec.ofChange fnExactEvenBreaksWrong)

/-- 'laws.FnExactJoinRows': WHATEVER THE INPUT: true; the input reads as it did. -/
def fnExactJoinRowsSpec : ChangeSpec := { name := "fnExactJoinRows", fn := fun _ => fun
  | [d1, d2] => { results := [.lit (.bool true)], args := [d1, d2] }
  | _ => none }
def fnExactJoinRowsRow : OpenClaim := { program := "ytnhddepmhelgiaa", sum := "fcebafee5c55a2456ae4cbb557302db3d1aaa84af05da05536c65d3196719154", func := "loop.example/g01054/laws.FnExactJoinRows", spec := "fnExactJoinRows", apart := false }
def FnExactJoinRowsSaid : Prop := fnExactJoinRowsRow.holds Try.pinned (OpenSpec.ofChange fnExactJoinRowsSpec)

/-- ITS FALSE NEIGHBOUR: 'it returns false'. Refute it at one input. -/
def fnExactJoinRowsWrong : ChangeSpec := { name := "fnExactJoinRows", fn := fun _ => fun
  | [d1, d2] => { results := [.lit (.bool false)], args := [d1, d2] }
  | _ => none }
def FnExactJoinRowsWrongFalsely : Prop := fnExactJoinRowsRow.holds Try.pinned (OpenSpec.ofChange fnExactJoinRowsWrong)

/-- 'laws.FnExactLeaveMarks': WHATEVER THE INPUT: true; the input reads as it did. -/
def fnExactLeaveMarksSpec : ChangeSpec := { name := "fnExactLeaveMarks", fn := fun _ => fun
  | [d1, d2] => { results := [.lit (.bool true)], args := [d1, d2] }
  | _ => none }
def fnExactLeaveMarksRow : OpenClaim := { program := "ytnhddepmhelgiaa", sum := "fcebafee5c55a2456ae4cbb557302db3d1aaa84af05da05536c65d3196719154", func := "loop.example/g01054/laws.FnExactLeaveMarks", spec := "fnExactLeaveMarks", unfollowed := true, recurses := true, apart := false }
def FnExactLeaveMarksSaid : Prop := fnExactLeaveMarksRow.holds Try.pinned (OpenSpec.ofChange fnExactLeaveMarksSpec)

/-- ITS FALSE NEIGHBOUR: 'it returns false'. Refute it at one input. -/
def fnExactLeaveMarksWrong : ChangeSpec := { name := "fnExactLeaveMarks", fn := fun _ => fun
  | [d1, d2] => { results := [.lit (.bool false)], args := [d1, d2] }
  | _ => none }
def FnExactLeaveMarksWrongFalsely : Prop := fnExactLeaveMarksRow.holds Try.pinned (OpenSpec.ofChange fnExactLeaveMarksWrong)

/-- 'laws.FnExactMostBlank': WHATEVER THE INPUT: true; the input reads as it did. -/
def fnExactMostBlankSpec : ChangeSpec := { name := "fnExactMostBlank", fn := fun _ => fun
  | [d] => { results := [.lit (.bool true)], args := [d] }
  | _ => none }
def fnExactMostBlankRow : OpenClaim := { program := "ytnhddepmhelgiaa", sum := "fcebafee5c55a2456ae4cbb557302db3d1aaa84af05da05536c65d3196719154", func := "loop.example/g01054/laws.FnExactMostBlank", spec := "fnExactMostBlank", apart := false }
def FnExactMostBlankSaid : Prop := fnExactMostBlankRow.holds Try.pinned (OpenSpec.ofChange fnExactMostBlankSpec)

/-- ITS FALSE NEIGHBOUR: 'it returns false'. Refute it at one input. -/
def fnExactMostBlankWrong : ChangeSpec := { name := "fnExactMostBlank", fn := fun _ => fun
  | [d] => { results := [.lit (.bool false)], args := [d] }
  | _ => none }
def FnExactMostBlankWrongFalsely : Prop := fnExactMostBlankRow.holds Try.pinned (OpenSpec.ofChange fnExactMostBlankWrong)

/-- 'laws.FnExactPageBreaks': WHATEVER THE INPUT: true; the input reads as it did. -/
def fnExactPageBreaksSpec : ChangeSpec := { name := "fnExactPageBreaks", fn := fun _ => fun
  | [d1, d2] => { results := [.lit (.bool true)], args := [d1, d2] }
  | _ => none }
def fnExactPageBreaksRow : OpenClaim := { program := "ytnhddepmhelgiaa", sum := "fcebafee5c55a2456ae4cbb557302db3d1aaa84af05da05536c65d3196719154", func := "loop.example/g01054/laws.FnExactPageBreaks", spec := "fnExactPageBreaks", apart := false }
def FnExactPageBreaksSaid : Prop := fnExactPageBreaksRow.holds Try.pinned (OpenSpec.ofChange fnExactPageBreaksSpec)

/-- ITS FALSE NEIGHBOUR: 'it returns false'. Refute it at one input. -/
def fnExactPageBreaksWrong : ChangeSpec := { name := "fnExactPageBreaks", fn := fun _ => fun
  | [d1, d2] => { results := [.lit (.bool false)], args := [d1, d2] }
  | _ => none }
def FnExactPageBreaksWrongFalsely : Prop := fnExactPageBreaksRow.holds Try.pinned (OpenSpec.ofChange fnExactPageBreaksWrong)

/-- 'laws.FnExactRowHeights': WHATEVER THE INPUT: true; the input reads as it did. -/
def fnExactRowHeightsSpec : ChangeSpec := { name := "fnExactRowHeights", fn := fun _ => fun
  | [d] => { results := [.lit (.bool true)], args := [d] }
  | _ => none }
def fnExactRowHeightsRow : OpenClaim := { program := "ytnhddepmhelgiaa", sum := "fcebafee5c55a2456ae4cbb557302db3d1aaa84af05da05536c65d3196719154", func := "loop.example/g01054/laws.FnExactRowHeights", spec := "fnExactRowHeights", apart := false }
def FnExactRowHeightsSaid : Prop := fnExactRowHeightsRow.holds Try.pinned (OpenSpec.ofChange fnExactRowHeightsSpec)

/-- ITS FALSE NEIGHBOUR: 'it returns false'. Refute it at one input. -/
def fnExactRowHeightsWrong : ChangeSpec := { name := "fnExactRowHeights", fn := fun _ => fun
  | [d] => { results := [.lit (.bool false)], args := [d] }
  | _ => none }
def FnExactRowHeightsWrongFalsely : Prop := fnExactRowHeightsRow.holds Try.pinned (OpenSpec.ofChange fnExactRowHeightsWrong)

/-- 'laws.FnExactSavedBy': WHATEVER THE INPUT: true; the input reads as it did. -/
def fnExactSavedBySpec : ChangeSpec := { name := "fnExactSavedBy", fn := fun _ => fun
  | [d1, d2] => { results := [.lit (.bool true)], args := [d1, d2] }
  | _ => none }
def fnExactSavedByRow : OpenClaim := { program := "ytnhddepmhelgiaa", sum := "fcebafee5c55a2456ae4cbb557302db3d1aaa84af05da05536c65d3196719154", func := "loop.example/g01054/laws.FnExactSavedBy", spec := "fnExactSavedBy", apart := false }
def FnExactSavedBySaid : Prop := fnExactSavedByRow.holds Try.pinned (OpenSpec.ofChange fnExactSavedBySpec)

/-- ITS FALSE NEIGHBOUR: 'it returns false'. Refute it at one input. -/
def fnExactSavedByWrong : ChangeSpec := { name := "fnExactSavedBy", fn := fun _ => fun
  | [d1, d2] => { results := [.lit (.bool false)], args := [d1, d2] }
  | _ => none }
def FnExactSavedByWrongFalsely : Prop := fnExactSavedByRow.holds Try.pinned (OpenSpec.ofChange fnExactSavedByWrong)

/-- 'laws.FnExactSwapColumns': WHATEVER THE INPUT: true; the input reads as it did. -/
def fnExactSwapColumnsSpec : ChangeSpec := { name := "fnExactSwapColumns", fn := fun _ => fun
  | [d1, d2, d3] => { results := [.lit (.bool true)], args := [d1, d2, d3] }
  | _ => none }
def fnExactSwapColumnsRow : OpenClaim := { program := "ytnhddepmhelgiaa", sum := "fcebafee5c55a2456ae4cbb557302db3d1aaa84af05da05536c65d3196719154", func := "loop.example/g01054/laws.FnExactSwapColumns", spec := "fnExactSwapColumns", apart := false }
def FnExactSwapColumnsSaid : Prop := fnExactSwapColumnsRow.holds Try.pinned (OpenSpec.ofChange fnExactSwapColumnsSpec)

/-- ITS FALSE NEIGHBOUR: 'it returns false'. Refute it at one input. -/
def fnExactSwapColumnsWrong : ChangeSpec := { name := "fnExactSwapColumns", fn := fun _ => fun
  | [d1, d2, d3] => { results := [.lit (.bool false)], args := [d1, d2, d3] }
  | _ => none }
def FnExactSwapColumnsWrongFalsely : Prop := fnExactSwapColumnsRow.holds Try.pinned (OpenSpec.ofChange fnExactSwapColumnsWrong)

/-- 'laws.FnExactTotalHeight': WHATEVER THE INPUT: true; the input reads as it did. -/
def fnExactTotalHeightSpec : ChangeSpec := { name := "fnExactTotalHeight", fn := fun _ => fun
  | [d] => { results := [.lit (.bool true)], args := [d] }
  | _ => none }
def fnExactTotalHeightRow : OpenClaim := { program := "ytnhddepmhelgiaa", sum := "fcebafee5c55a2456ae4cbb557302db3d1aaa84af05da05536c65d3196719154", func := "loop.example/g01054/laws.FnExactTotalHeight", spec := "fnExactTotalHeight", apart := false }
def FnExactTotalHeightSaid : Prop := fnExactTotalHeightRow.holds Try.pinned (OpenSpec.ofChange fnExactTotalHeightSpec)

/-- ITS FALSE NEIGHBOUR: 'it returns false'. Refute it at one input. -/
def fnExactTotalHeightWrong : ChangeSpec := { name := "fnExactTotalHeight", fn := fun _ => fun
  | [d] => { results := [.lit (.bool false)], args := [d] }
  | _ => none }
def FnExactTotalHeightWrongFalsely : Prop := fnExactTotalHeightRow.holds Try.pinned (OpenSpec.ofChange fnExactTotalHeightWrong)

/- THE SECOND FORM. 'bulk': how many values and letters a reading holds, each counted each time it is reached (what is shared counts as often as it is met; a slice's spare places count too). A statement '..UptoSaid' is the law's where the arguments, and the package variables that the reading takes, are together of bulk at most 1048576: NARROWER than '..Said'. Prove '..Said' where nothing that the law and all that it calls make is longer than what came in: it says more and counts as full. Else prove '..UptoSaid'. A law counts once. -/
mutual
def uptoBulk {H : Type} : DataW H → Nat
  | .lit (.string bytes) => bytes.length + 1
  | .lit _ => 1
  | .nil => 1
  | .ptr d => uptoBulk d + 1
  | .slice elems spare => uptoBulkAll elems + uptoBulkAll spare + 1
  | .agg parts => uptoBulkAll parts + 1
  | .iface _ d => uptoBulk d + 1
  | .map entries => uptoBulkEntries entries + 1
  | .held _ => 1
def uptoBulkAll {H : Type} : List (DataW H) → Nat
  | [] => 0
  | d :: r => uptoBulk d + uptoBulkAll r
def uptoBulkEntries {H : Type} : List (Lit × DataW H) → Nat
  | [] => 0
  | x :: r => uptoBulkEntry x + uptoBulkEntries r
def uptoBulkEntry {H : Type} : Lit × DataW H → Nat
  | (.string bytes, d) => bytes.length + uptoBulk d + 1
  | (_, d) => uptoBulk d + 1
 end
def uptoSmall : (H : Type) → List (DataW H) → Bool := fun _ ds => decide (uptoBulkAll ds ≤ 1048576)
def OpenSpec.upto (s : _root_.Go.ChangeSpec) : _root_.Go.OpenSpec := { _root_.Go.OpenSpec.ofChange s with cond := some uptoSmall }

/-- 'laws.FnExactAreParallel', WHERE WHAT IT READS IS OF BULK AT MOST 1048576: true; the input reads as it did. -/
def fnExactAreParallelUptoRow : OpenClaim := { program := "ytnhddepmhelgiaa", sum := "fcebafee5c55a2456ae4cbb557302db3d1aaa84af05da05536c65d3196719154", func := "loop.example/g01054/laws.FnExactAreParallel", spec := "fnExactAreParallel", apart := false, narrowed := true }
def FnExactAreParallelUptoSaid : Prop := fnExactAreParallelUptoRow.holds Try.pinned (OpenSpec.upto fnExactAreParallelSpec)

/-- 'laws.FnExactBestJoin', WHERE WHAT IT READS IS OF BULK AT MOST 1048576: true; the input reads as it did. -/
def fnExactBestJoinUptoRow : OpenClaim := { program := "ytnhddepmhelgiaa", sum := "fcebafee5c55a2456ae4cbb557302db3d1aaa84af05da05536c65d3196719154", func := "loop.example/g01054/laws.FnExactBestJoin", spec := "fnExactBestJoin", apart := false, narrowed := true }
def FnExactBestJoinUptoSaid : Prop := fnExactBestJoinUptoRow.holds Try.pinned (OpenSpec.upto fnExactBestJoinSpec)

/-- 'laws.FnExactBlanksOf', WHERE WHAT IT READS IS OF BULK AT MOST 1048576: true; the input reads as it did. -/
def fnExactBlanksOfUptoRow : OpenClaim := { program := "ytnhddepmhelgiaa", sum := "fcebafee5c55a2456ae4cbb557302db3d1aaa84af05da05536c65d3196719154", func := "loop.example/g01054/laws.FnExactBlanksOf", spec := "fnExactBlanksOf", apart := false, narrowed := true }
def FnExactBlanksOfUptoSaid : Prop := fnExactBlanksOfUptoRow.holds Try.pinned (OpenSpec.upto fnExactBlanksOfSpec)

/-- 'laws.FnExactEvenBreaks', WHERE WHAT IT READS IS OF BULK AT MOST 1048576: true; the input reads as it did. -/
def fnExactEvenBreaksUptoRow : OpenClaim := { program := "ytnhddepmhelgiaa", sum := "fcebafee5c55a2456ae4cbb557302db3d1aaa84af05da05536c65d3196719154", func := "loop.example/g01054/laws.FnExactEvenBreaks", spec := "fnExactEvenBreaks", unfollowed := true, recurses := true, apart := false, narrowed := true }
def FnExactEvenBreaksUptoSaid : Prop := fnExactEvenBreaksUptoRow.holds Try.pinned (OpenSpec.upto fnExactEvenBreaksSpec)

/-- 'laws.FnExactJoinRows', WHERE WHAT IT READS IS OF BULK AT MOST 1048576: true; the input reads as it did. -/
def fnExactJoinRowsUptoRow : OpenClaim := { program := "ytnhddepmhelgiaa", sum := "fcebafee5c55a2456ae4cbb557302db3d1aaa84af05da05536c65d3196719154", func := "loop.example/g01054/laws.FnExactJoinRows", spec := "fnExactJoinRows", apart := false, narrowed := true }
def FnExactJoinRowsUptoSaid : Prop := fnExactJoinRowsUptoRow.holds Try.pinned (OpenSpec.upto fnExactJoinRowsSpec)

/-- 'laws.FnExactLeaveMarks', WHERE WHAT IT READS IS OF BULK AT MOST 1048576: true; the input reads as it did. -/
def fnExactLeaveMarksUptoRow : OpenClaim := { program := "ytnhddepmhelgiaa", sum := "fcebafee5c55a2456ae4cbb557302db3d1aaa84af05da05536c65d3196719154", func := "loop.example/g01054/laws.FnExactLeaveMarks", spec := "fnExactLeaveMarks", unfollowed := true, recurses := true, apart := false, narrowed := true }
def FnExactLeaveMarksUptoSaid : Prop := fnExactLeaveMarksUptoRow.holds Try.pinned (OpenSpec.upto fnExactLeaveMarksSpec)

/-- 'laws.FnExactMostBlank', WHERE WHAT IT READS IS OF BULK AT MOST 1048576: true; the input reads as it did. -/
def fnExactMostBlankUptoRow : OpenClaim := { program := "ytnhddepmhelgiaa", sum := "fcebafee5c55a2456ae4cbb557302db3d1aaa84af05da05536c65d3196719154", func := "loop.example/g01054/laws.FnExactMostBlank", spec := "fnExactMostBlank", apart := false, narrowed := true }
def FnExactMostBlankUptoSaid : Prop := fnExactMostBlankUptoRow.holds Try.pinned (OpenSpec.upto fnExactMostBlankSpec)

/-- 'laws.FnExactPageBreaks', WHERE WHAT IT READS IS OF BULK AT MOST 1048576: true; the input reads as it did. -/
def fnExactPageBreaksUptoRow : OpenClaim := { program := "ytnhddepmhelgiaa", sum := "fcebafee5c55a2456ae4cbb557302db3d1aaa84af05da05536c65d3196719154", func := "loop.example/g01054/laws.FnExactPageBreaks", spec := "fnExactPageBreaks", apart := false, narrowed := true }
def FnExactPageBreaksUptoSaid : Prop := fnExactPageBreaksUptoRow.holds Try.pinned (OpenSpec.upto fnExactPageBreaksSpec)

/-- 'laws.FnExactRowHeights', WHERE WHAT IT READS IS OF BULK AT MOST 1048576: true; the input reads as it did. -/
def fnExactRowHeightsUptoRow : OpenClaim := { program := "ytnhddepmhelgiaa", sum := "fcebafee5c55a2456ae4cbb557302db3d1aaa84af05da05536c65d3196719154", func := "loop.example/g01054/laws.FnExactRowHeights", spec := "fnExactRowHeights", apart := false, narrowed := true }
def FnExactRowHeightsUptoSaid : Prop := fnExactRowHeightsUptoRow.holds Try.pinned (OpenSpec.upto fnExactRowHeightsSpec)

/-- 'laws.FnExactSavedBy', WHERE WHAT IT READS IS OF BULK AT MOST 1048576: true; the input reads as it did. -/
def fnExactSavedByUptoRow : OpenClaim := { program := "ytnhddepmhelgiaa", sum := "fcebafee5c55a2456ae4cbb557302db3d1aaa84af05da05536c65d3196719154", func := "loop.example/g01054/laws.FnExactSavedBy", spec := "fnExactSavedBy", apart := false, narrowed := true }
def FnExactSavedByUptoSaid : Prop := fnExactSavedByUptoRow.holds Try.pinned (OpenSpec.upto fnExactSavedBySpec)

/-- 'laws.FnExactSwapColumns', WHERE WHAT IT READS IS OF BULK AT MOST 1048576: true; the input reads as it did. -/
def fnExactSwapColumnsUptoRow : OpenClaim := { program := "ytnhddepmhelgiaa", sum := "fcebafee5c55a2456ae4cbb557302db3d1aaa84af05da05536c65d3196719154", func := "loop.example/g01054/laws.FnExactSwapColumns", spec := "fnExactSwapColumns", apart := false, narrowed := true }
def FnExactSwapColumnsUptoSaid : Prop := fnExactSwapColumnsUptoRow.holds Try.pinned (OpenSpec.upto fnExactSwapColumnsSpec)

/-- 'laws.FnExactTotalHeight', WHERE WHAT IT READS IS OF BULK AT MOST 1048576: true; the input reads as it did. -/
def fnExactTotalHeightUptoRow : OpenClaim := { program := "ytnhddepmhelgiaa", sum := "fcebafee5c55a2456ae4cbb557302db3d1aaa84af05da05536c65d3196719154", func := "loop.example/g01054/laws.FnExactTotalHeight", spec := "fnExactTotalHeight", apart := false, narrowed := true }
def FnExactTotalHeightUptoSaid : Prop := fnExactTotalHeightUptoRow.holds Try.pinned (OpenSpec.upto fnExactTotalHeightSpec)

end Rows
end Go.Proofs.Ytnhddepmhelgiaa
