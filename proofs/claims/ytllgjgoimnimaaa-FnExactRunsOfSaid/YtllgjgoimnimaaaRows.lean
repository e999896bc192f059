/-
  No cell of these rows narrows 'for every input' (looked for: loops, veiled, ifaces, maps, wideKeys, modest, calm, conditions, laid).
  DERIVED. THE GIVEN ROWS OF THIS SEAT. 11 by the template 'for every input the law returns true; each argument reads behind the call as it read before'; 0 by the template 'total and deterministic' (their statements: YtllgjgoimnimaaaTotals.lean).
  GIVEN WITH THE SEED: the statements are not yours to turn. If you find one false, say at which input.
  Laid BY PROGRAM, IN A SANDBOX (cutbox-rows.mjs): the forced cells as the released guide's own fill.sh prints them over the translation 2da62628cfbfef42… (all of the seat's roots in one cut). By AI agents, Wed Nov 11 2026. No macro, syntax, notation, axiom, sorry.
-/
import Derived.Test.YtllgjgoimnimaaaChecked
import GoSem.Claim
import GoSem.ClaimJoined
import GoSem.ClaimMapViews
import Derived.JoinedTies
import Derived.KernelRfl
namespace Go.Proofs.Ytllgjgoimnimaaa
/- THE CELL 'sum', in the pinned program and in every row, IS THE sha256 OF THE DUMP (.gsa) THAT YtllgjgoimnimaaaProg.lean LOADS. Nothing in Lean hashes anything: it is a label: what it is worth is what the hold of that sum in a sandbox is worth. -/
noncomputable def Try.pinned : Pinned := { name := "ytllgjgoimnimaaa", sum := "2da62628cfbfef42bf87fbcf581e8e6e3f482874230022e84a59d7c89ac15261", checked := Try.checked }
namespace Rows
def none {H : Type} : Left H := { results := [], args := [] }

/-- 'laws.FnExactLinesOfInitial': WHATEVER THE INPUT: true; the input reads as it did. -/
def fnExactLinesOfInitialSpec : ChangeSpec := { name := "fnExactLinesOfInitial", fn := fun _ => fun
  | [d1, d2, d3] => { results := [.lit (.bool true)], args := [d1, d2, d3] }
  | _ => none }
def fnExactLinesOfInitialRow : OpenClaim := { program := "ytllgjgoimnimaaa", sum := "2da62628cfbfef42bf87fbcf581e8e6e3f482874230022e84a59d7c89ac15261", func := "loop.example/g01054/laws.FnExactLinesOfInitial", spec := "fnExactLinesOfInitial", apart := false }
def FnExactLinesOfInitialSaid : Prop := fnExactLinesOfInitialRow.holds Try.pinned (OpenSpec.ofChange fnExactLinesOfInitialSpec)

/-- ITS FALSE NEIGHBOUR: 'it returns false'. Refute it at one input. -/
def fnExactLinesOfInitialWrong : ChangeSpec := { name := "fnExactLinesOfInitial", fn := fun _ => fun
  | [d1, d2, d3] => { results := [.lit (.bool false)], args := [d1, d2, d3] }
  | _ => none }
def FnExactLinesOfInitialWrongFalsely : Prop := fnExactLinesOfInitialRow.holds Try.pinned (OpenSpec.ofChange fnExactLinesOfInitialWrong)

/-- 'laws.FnExactAreCutIns': WHATEVER THE INPUT: true; the input reads as it did. -/
def fnExactAreCutInsSpec : ChangeSpec := { name := "fnExactAreCutIns", fn := fun _ => fun
  | [d1, d2] => { results := [.lit (.bool true)], args := [d1, d2] }
  | _ => none }
def fnExactAreCutInsRow : OpenClaim := { program := "ytllgjgoimnimaaa", sum := "2da62628cfbfef42bf87fbcf581e8e6e3f482874230022e84a59d7c89ac15261", func := "loop.example/g01054/laws.FnExactAreCutIns", spec := "fnExactAreCutIns", apart := false }
def FnExactAreCutInsSaid : Prop := fnExactAreCutInsRow.holds Try.pinned (OpenSpec.ofChange fnExactAreCutInsSpec)

/-- ITS FALSE NEIGHBOUR: 'it returns false'. Refute it at one input. -/
def fnExactAreCutInsWrong : ChangeSpec := { name := "fnExactAreCutIns", fn := fun _ => fun
  | [d1, d2] => { results := [.lit (.bool false)], args := [d1, d2] }
  | _ => none }
def FnExactAreCutInsWrongFalsely : Prop := fnExactAreCutInsRow.holds Try.pinned (OpenSpec.ofChange fnExactAreCutInsWrong)

/-- 'laws.FnExactLinesFor': WHATEVER THE INPUT: true; the input reads as it did. -/
def fnExactLinesForSpec : ChangeSpec := { name := "fnExactLinesFor", fn := fun _ => fun
  | [d1, d2, d3] => { results := [.lit (.bool true)], args := [d1, d2, d3] }
  | _ => none }
def fnExactLinesForRow : OpenClaim := { program := "ytllgjgoimnimaaa", sum := "2da62628cfbfef42bf87fbcf581e8e6e3f482874230022e84a59d7c89ac15261", func := "loop.example/g01054/laws.FnExactLinesFor", spec := "fnExactLinesFor", apart := false }
def FnExactLinesForSaid : Prop := fnExactLinesForRow.holds Try.pinned (OpenSpec.ofChange fnExactLinesForSpec)

/-- ITS FALSE NEIGHBOUR: 'it returns false'. Refute it at one input. -/
def fnExactLinesForWrong : ChangeSpec := { name := "fnExactLinesFor", fn := fun _ => fun
  | [d1, d2, d3] => { results := [.lit (.bool false)], args := [d1, d2, d3] }
  | _ => none }
def FnExactLinesForWrongFalsely : Prop := fnExactLinesForRow.holds Try.pinned (OpenSpec.ofChange fnExactLinesForWrong)

/-- 'laws.FnExactFirstPlaceFor': WHATEVER THE INPUT: true; the input reads as it did. -/
def fnExactFirstPlaceForSpec : ChangeSpec := { name := "fnExactFirstPlaceFor", fn := fun _ => fun
  | [d1, d2, d3] => { results := [.lit (.bool true)], args := [d1, d2, d3] }
  | _ => none }
def fnExactFirstPlaceForRow : OpenClaim := { program := "ytllgjgoimnimaaa", sum := "2da62628cfbfef42bf87fbcf581e8e6e3f482874230022e84a59d7c89ac15261", func := "loop.example/g01054/laws.FnExactFirstPlaceFor", spec := "fnExactFirstPlaceFor", apart := false }
def FnExactFirstPlaceForSaid : Prop := fnExactFirstPlaceForRow.holds Try.pinned (OpenSpec.ofChange fnExactFirstPlaceForSpec)

/-- ITS FALSE NEIGHBOUR: 'it returns false'. Refute it at one input. -/
def fnExactFirstPlaceForWrong : ChangeSpec := { name := "fnExactFirstPlaceFor", fn := fun _ => fun
  | [d1, d2, d3] => { results := [.lit (.bool false)], args := [d1, d2, d3] }
  | _ => none }
def FnExactFirstPlaceForWrongFalsely : Prop := fnExactFirstPlaceForRow.holds Try.pinned (OpenSpec.ofChange fnExactFirstPlaceForWrong)

/-- 'laws.FnExactCutInAt': WHATEVER THE INPUT: true; the input reads as it did. -/
def fnExactCutInAtSpec : ChangeSpec := { name := "fnExactCutInAt", fn := fun _ => fun
  | [d1, d2, d3, d4] => { results := [.lit (.bool true)], args := [d1, d2, d3, d4] }
  | _ => none }
def fnExactCutInAtRow : OpenClaim := { program := "ytllgjgoimnimaaa", sum := "2da62628cfbfef42bf87fbcf581e8e6e3f482874230022e84a59d7c89ac15261", func := "loop.example/g01054/laws.FnExactCutInAt", spec := "fnExactCutInAt", apart := false }
def FnExactCutInAtSaid : Prop := fnExactCutInAtRow.holds Try.pinned (OpenSpec.ofChange fnExactCutInAtSpec)

/-- ITS FALSE NEIGHBOUR: 'it returns false'. Refute it at one input. -/
def fnExactCutInAtWrong : ChangeSpec := { name := "fnExactCutInAt", fn := fun _ => fun
  | [d1, d2, d3, d4] => { results := [.lit (.bool false)], args := [d1, d2, d3, d4] }
  | _ => none }
def FnExactCutInAtWrongFalsely : Prop := fnExactCutInAtRow.holds Try.pinned (OpenSpec.ofChange fnExactCutInAtWrong)

/-- 'laws.FnExactRoomBeside': WHATEVER THE INPUT: true; the input reads as it did. -/
def fnExactRoomBesideSpec : ChangeSpec := { name := "fnExactRoomBeside", fn := fun _ => fun
  | [d1, d2, d3] => { results := [.lit (.bool true)], args := [d1, d2, d3] }
  | _ => none }
def fnExactRoomBesideRow : OpenClaim := { program := "ytllgjgoimnimaaa", sum := "2da62628cfbfef42bf87fbcf581e8e6e3f482874230022e84a59d7c89ac15261", func := "loop.example/g01054/laws.FnExactRoomBeside", spec := "fnExactRoomBeside", apart := false }
def FnExactRoomBesideSaid : Prop := fnExactRoomBesideRow.holds Try.pinned (OpenSpec.ofChange fnExactRoomBesideSpec)

/-- ITS FALSE NEIGHBOUR: 'it returns false'. Refute it at one input. -/
def fnExactRoomBesideWrong : ChangeSpec := { name := "fnExactRoomBeside", fn := fun _ => fun
  | [d1, d2, d3] => { results := [.lit (.bool false)], args := [d1, d2, d3] }
  | _ => none }
def FnExactRoomBesideWrongFalsely : Prop := fnExactRoomBesideRow.holds Try.pinned (OpenSpec.ofChange fnExactRoomBesideWrong)

/-- 'laws.FnExactAddCutIn': WHATEVER THE INPUT: true; the input reads as it did. -/
def fnExactAddCutInSpec : ChangeSpec := { name := "fnExactAddCutIn", fn := fun _ => fun
  | [d1, d2, d3] => { results := [.lit (.bool true)], args := [d1, d2, d3] }
  | _ => none }
def fnExactAddCutInRow : OpenClaim := { program := "ytllgjgoimnimaaa", sum := "2da62628cfbfef42bf87fbcf581e8e6e3f482874230022e84a59d7c89ac15261", func := "loop.example/g01054/laws.FnExactAddCutIn", spec := "fnExactAddCutIn", apart := false }
def FnExactAddCutInSaid : Prop := fnExactAddCutInRow.holds Try.pinned (OpenSpec.ofChange fnExactAddCutInSpec)

/-- ITS FALSE NEIGHBOUR: 'it returns false'. Refute it at one input. -/
def fnExactAddCutInWrong : ChangeSpec := { name := "fnExactAddCutIn", fn := fun _ => fun
  | [d1, d2, d3] => { results := [.lit (.bool false)], args := [d1, d2, d3] }
  | _ => none }
def FnExactAddCutInWrongFalsely : Prop := fnExactAddCutInRow.holds Try.pinned (OpenSpec.ofChange fnExactAddCutInWrong)

/-- 'laws.FnExactMoveCutIn': WHATEVER THE INPUT: true; the input reads as it did. -/
def fnExactMoveCutInSpec : ChangeSpec := { name := "fnExactMoveCutIn", fn := fun _ => fun
  | [d1, d2, d3, d4] => { results := [.lit (.bool true)], args := [d1, d2, d3, d4] }
  | _ => none }
def fnExactMoveCutInRow : OpenClaim := { program := "ytllgjgoimnimaaa", sum := "2da62628cfbfef42bf87fbcf581e8e6e3f482874230022e84a59d7c89ac15261", func := "loop.example/g01054/laws.FnExactMoveCutIn", spec := "fnExactMoveCutIn", apart := false }
def FnExactMoveCutInSaid : Prop := fnExactMoveCutInRow.holds Try.pinned (OpenSpec.ofChange fnExactMoveCutInSpec)

/-- ITS FALSE NEIGHBOUR: 'it returns false'. Refute it at one input. -/
def fnExactMoveCutInWrong : ChangeSpec := { name := "fnExactMoveCutIn", fn := fun _ => fun
  | [d1, d2, d3, d4] => { results := [.lit (.bool false)], args := [d1, d2, d3, d4] }
  | _ => none }
def FnExactMoveCutInWrongFalsely : Prop := fnExactMoveCutInRow.holds Try.pinned (OpenSpec.ofChange fnExactMoveCutInWrong)

/-- 'laws.FnExactLineMeasures': WHATEVER THE INPUT: true; the input reads as it did. -/
def fnExactLineMeasuresSpec : ChangeSpec := { name := "fnExactLineMeasures", fn := fun _ => fun
  | [d1, d2, d3] => { results := [.lit (.bool true)], args := [d1, d2, d3] }
  | _ => none }
def fnExactLineMeasuresRow : OpenClaim := { program := "ytllgjgoimnimaaa", sum := "2da62628cfbfef42bf87fbcf581e8e6e3f482874230022e84a59d7c89ac15261", func := "loop.example/g01054/laws.FnExactLineMeasures", spec := "fnExactLineMeasures", apart := false }
def FnExactLineMeasuresSaid : Prop := fnExactLineMeasuresRow.holds Try.pinned (OpenSpec.ofChange fnExactLineMeasuresSpec)

/-- ITS FALSE NEIGHBOUR: 'it returns false'. Refute it at one input. -/
def fnExactLineMeasuresWrong : ChangeSpec := { name := "fnExactLineMeasures", fn := fun _ => fun
  | [d1, d2, d3] => { results := [.lit (.bool false)], args := [d1, d2, d3] }
  | _ => none }
def FnExactLineMeasuresWrongFalsely : Prop := fnExactLineMeasuresRow.holds Try.pinned (OpenSpec.ofChange fnExactLineMeasuresWrong)

/-- 'laws.FnExactIndentsOf': WHATEVER THE INPUT: true; the input reads as it did. -/
def fnExactIndentsOfSpec : ChangeSpec := { name := "fnExactIndentsOf", fn := fun _ => fun
  | [d1, d2, d3] => { results := [.lit (.bool true)], args := [d1, d2, d3] }
  | _ => none }
def fnExactIndentsOfRow : OpenClaim := { program := "ytllgjgoimnimaaa", sum := "2da62628cfbfef42bf87fbcf581e8e6e3f482874230022e84a59d7c89ac15261", func := "loop.example/g01054/laws.FnExactIndentsOf", spec := "fnExactIndentsOf", apart := false }
def FnExactIndentsOfSaid : Prop := fnExactIndentsOfRow.holds Try.pinned (OpenSpec.ofChange fnExactIndentsOfSpec)

/-- ITS FALSE NEIGHBOUR: 'it returns false'. Refute it at one input. -/
def fnExactIndentsOfWrong : ChangeSpec := { name := "fnExactIndentsOf", fn := fun _ => fun
  | [d1, d2, d3] => { results := [.lit (.bool false)], args := [d1, d2, d3] }
  | _ => none }
def FnExactIndentsOfWrongFalsely : Prop := fnExactIndentsOfRow.holds Try.pinned (OpenSpec.ofChange fnExactIndentsOfWrong)

/-- 'laws.FnExactRunsOf': WHATEVER THE INPUT: true; the input reads as it did. -/
def fnExactRunsOfSpec : ChangeSpec := { name := "fnExactRunsOf", fn := fun _ => fun
  | [d1, d2, d3] => { results := [.lit (.bool true)], args := [d1, d2, d3] }
  | _ => none }
def fnExactRunsOfRow : OpenClaim := { program := "ytllgjgoimnimaaa", sum := "2da62628cfbfef42bf87fbcf581e8e6e3f482874230022e84a59d7c89ac15261", func := "loop.example/g01054/laws.FnExactRunsOf", spec := "fnExactRunsOf", apart := false }
def FnExactRunsOfSaid : Prop := fnExactRunsOfRow.holds Try.pinned (OpenSpec.ofChange fnExactRunsOfSpec)

/-- ITS FALSE NEIGHBOUR: 'it returns false'. Refute it at one input. -/
def fnExactRunsOfWrong : ChangeSpec := { name := "fnExactRunsOf", fn := fun _ => fun
  | [d1, d2, d3] => { results := [.lit (.bool false)], args := [d1, d2, d3] }
  | _ => none }
def FnExactRunsOfWrongFalsely : Prop := fnExactRunsOfRow.holds Try.pinned (OpenSpec.ofChange fnExactRunsOfWrong)

/- THE SECOND FORM. 'bulk': how many values and letters a reading holds, each counted each time it is reached (what is shared counts as often as it is met; a slice's spare places count too). A statement '..UptoSaid' is the law's where the arguments, and the package variables that the reading takes, are together of bulk at most 1048576: NARROWER than '..Said'. Prove '..Said' where nothing that the law and all that it calls make is longer than what came in: it says more and counts as full. Else prove '..UptoSaid'. A law counts once. -/
mutual
def uptoBulk {H : Type} : DataW H → Nat
  | .lit (.string bytes) => bytes.length + 1
  | .lit _ => 1
  | .nil => 1
  | .ptr d => uptoBulk d + 1
  | .slice elems spare => uptoBulkAll elems + uptoBulkAll spare + 1
  | .agg parts => uptoBulkAll parts + 1
  | .iface _ d => uptoBulk d + 1
  | .map entries => uptoBulkEntries entries + 1
  | .held _ => 1
def uptoBulkAll {H : Type} : List (DataW H) → Nat
  | [] => 0
  | d :: r => uptoBulk d + uptoBulkAll r
def uptoBulkEntries {H : Type} : List (Lit × DataW H) → Nat
  | [] => 0
  | x :: r => uptoBulkEntry x + uptoBulkEntries r
def uptoBulkEntry {H : Type} : Lit × DataW H → Nat
  | (.string bytes, d) => bytes.length + uptoBulk d + 1
  | (_, d) => uptoBulk d + 1
 end
def uptoSmall : (H : Type) → List (DataW H) → Bool := fun _ ds => decide (uptoBulkAll ds ≤ 1048576)
def OpenSpec.upto (s : _root_.Go.ChangeSpec) : _root_.Go.OpenSpec := { _root_.Go.OpenSpec.ofChange s with cond := some uptoSmall }

/-- 'laws.FnExactLinesOfInitial', WHERE WHAT IT READS IS OF BULK AT MOST 1048576: true; the input reads as it did. -/
def fnExactLinesOfInitialUptoRow : OpenClaim := { program := "ytllgjgoimnimaaa", sum := "2da62628cfbfef42bf87fbcf581e8e6e3f482874230022e84a59d7c89ac15261", func := "loop.example/g01054/laws.FnExactLinesOfInitial", spec := "fnExactLinesOfInitial", apart := false, narrowed := true }
def FnExactLinesOfInitialUptoSaid : Prop := fnExactLinesOfInitialUptoRow.holds Try.pinned (OpenSpec.upto fnExactLinesOfInitialSpec)

/-- 'laws.FnExactAreCutIns', WHERE WHAT IT READS IS OF BULK AT MOST 1048576: true; the input reads as it did. -/
def fnExactAreCutInsUptoRow : OpenClaim := { program := "ytllgjgoimnimaaa", sum := "2da62628cfbfef42bf87fbcf581e8e6e3f482874230022e84a59d7c89ac15261", func := "loop.example/g01054/laws.FnExactAreCutIns", spec := "fnExactAreCutIns", apart := false, narrowed := true }
def FnExactAreCutInsUptoSaid : Prop := fnExactAreCutInsUptoRow.holds Try.pinned (OpenSpec.upto fnExactAreCutInsSpec)

/-- 'laws.FnExactLinesFor', WHERE WHAT IT READS IS OF BULK AT MOST 1048576: true; the input reads as it did. -/
def fnExactLinesForUptoRow : OpenClaim := { program := "ytllgjgoimnimaaa", sum := "2da62628cfbfef42bf87fbcf581e8e6e3f482874230022e84a59d7c89ac15261", func := "loop.example/g01054/laws.FnExactLinesFor", spec := "fnExactLinesFor", apart := false, narrowed := true }
def FnExactLinesForUptoSaid : Prop := fnExactLinesForUptoRow.holds Try.pinned (OpenSpec.upto fnExactLinesForSpec)

/-- 'laws.FnExactFirstPlaceFor', WHERE WHAT IT READS IS OF BULK AT MOST 1048576: true; the input reads as it did. -/
def fnExactFirstPlaceForUptoRow : OpenClaim := { program := "ytllgjgoimnimaaa", sum := "2da62628cfbfef42bf87fbcf581e8e6e3f482874230022e84a59d7c89ac15261", func := "loop.example/g01054/laws.FnExactFirstPlaceFor", spec := "fnExactFirstPlaceFor", apart := false, narrowed := true }
def FnExactFirstPlaceForUptoSaid : Prop := fnExactFirstPlaceForUptoRow.holds Try.pinned (OpenSpec.upto fnExactFirstPlaceForSpec)

/-- 'laws.FnExactCutInAt', WHERE WHAT IT READS IS OF BULK AT MOST 1048576: true; the input reads as it did. -/
def fnExactCutInAtUptoRow : OpenClaim := { program := "ytllgjgoimnimaaa", sum := "2da62628cfbfef42bf87fbcf581e8e6e3f482874230022e84a59d7c89ac15261", func := "loop.example/g01054/laws.FnExactCutInAt", spec := "fnExactCutInAt", apart := false, narrowed := true }
def FnExactCutInAtUptoSaid : Prop := fnExactCutInAtUptoRow.holds Try.pinned (OpenSpec.upto fnExactCutInAtSpec)

/-- 'laws.FnExactRoomBeside', WHERE WHAT IT READS IS OF BULK AT MOST 1048576: true; the input reads as it did. -/
def fnExactRoomBesideUptoRow : OpenClaim := { program := "ytllgjgoimnimaaa", sum := "2da62628cfbfef42bf87fbcf581e8e6e3f482874230022e84a59d7c89ac15261", func := "loop.example/g01054/laws.FnExactRoomBeside", spec := "fnExactRoomBeside", apart := false, narrowed := true }
def FnExactRoomBesideUptoSaid : Prop := fnExactRoomBesideUptoRow.holds Try.pinned (OpenSpec.upto fnExactRoomBesideSpec)

/-- 'laws.FnExactAddCutIn', WHERE WHAT IT READS IS OF BULK AT MOST 1048576: true; the input reads as it did. -/
def fnExactAddCutInUptoRow : OpenClaim := { program := "ytllgjgoimnimaaa", sum := "2da62628cfbfef42bf87fbcf581e8e6e3f482874230022e84a59d7c89ac15261", func := "loop.example/g01054/laws.FnExactAddCutIn", spec := "fnExactAddCutIn", apart := false, narrowed := true }
def FnExactAddCutInUptoSaid : Prop := fnExactAddCutInUptoRow.holds Try.pinned (OpenSpec.upto fnExactAddCutInSpec)

/-- 'laws.FnExactMoveCutIn', WHERE WHAT IT READS IS OF BULK AT MOST 1048576: true; the input reads as it did. -/
def fnExactMoveCutInUptoRow : OpenClaim := { program := "ytllgjgoimnimaaa", sum := "2da62628cfbfef42bf87fbcf581e8e6e3f482874230022e84a59d7c89ac15261", func := "loop.example/g01054/laws.FnExactMoveCutIn", spec := "fnExactMoveCutIn", apart := false, narrowed := true }
def FnExactMoveCutInUptoSaid : Prop := fnExactMoveCutInUptoRow.holds Try.pinned (OpenSpec.upto fnExactMoveCutInSpec)

/-- 'laws.FnExactLineMeasures', WHERE WHAT IT READS IS OF BULK AT MOST 1048576: true; the input reads as it did. -/
def fnExactLineMeasuresUptoRow : OpenClaim := { program := "ytllgjgoimnimaaa", sum := "2da62628cfbfef42bf87fbcf581e8e6e3f482874230022e84a59d7c89ac15261", func := "loop.example/g01054/laws.FnExactLineMeasures", spec := "fnExactLineMeasures", apart := false, narrowed := true }
def FnExactLineMeasuresUptoSaid : Prop := fnExactLineMeasuresUptoRow.holds Try.pinned (OpenSpec.upto fnExactLineMeasuresSpec)

/-- 'laws.FnExactIndentsOf', WHERE WHAT IT READS IS OF BULK AT MOST 1048576: true; the input reads as it did. -/
def fnExactIndentsOfUptoRow : OpenClaim := { program := "ytllgjgoimnimaaa", sum := "2da62628cfbfef42bf87fbcf581e8e6e3f482874230022e84a59d7c89ac15261", func := "loop.example/g01054/laws.FnExactIndentsOf", spec := "fnExactIndentsOf", apart := false, narrowed := true }
def FnExactIndentsOfUptoSaid : Prop := fnExactIndentsOfUptoRow.holds Try.pinned (OpenSpec.upto fnExactIndentsOfSpec)

/-- 'laws.FnExactRunsOf', WHERE WHAT IT READS IS OF BULK AT MOST 1048576: true; the input reads as it did. -/
def fnExactRunsOfUptoRow : OpenClaim := { program := "ytllgjgoimnimaaa", sum := "2da62628cfbfef42bf87fbcf581e8e6e3f482874230022e84a59d7c89ac15261", func := "loop.example/g01054/laws.FnExactRunsOf", spec := "fnExactRunsOf", apart := false, narrowed := true }
def FnExactRunsOfUptoSaid : Prop := fnExactRunsOfUptoRow.holds Try.pinned (OpenSpec.upto fnExactRunsOfSpec)

end Rows
end Go.Proofs.Ytllgjgoimnimaaa
