/-
  No cell of these rows narrows 'for every input' (looked for: loops, veiled, ifaces, maps, wideKeys, modest, calm, conditions, laid).
  DERIVED. THE GIVEN ROWS OF THIS SEAT. 12 by the template 'for every input the law returns true; each argument reads behind the call as it read before'; 0 by the template 'total and deterministic' (their statements: YtnkkpphjahpadaaTotals.lean).
  GIVEN WITH THE SEED: the statements are not yours to turn. If you find one false, say at which input.
  Laid BY PROGRAM, IN A SANDBOX (cutbox-rows.mjs): the forced cells as the released guide's own fill.sh prints them over the translation e2a2ad20b472be5f… (all of the seat's roots in one cut). By AI agents, Wed Nov 11 2026. No macro, syntax, notation, axiom, sorry.
-/
import Derived.Test.YtnkkpphjahpadaaChecked
import GoSem.Claim
import GoSem.ClaimJoined
import GoSem.ClaimMapViews
import Derived.JoinedTies
import Derived.KernelRfl
namespace Go.Proofs.Ytnkkpphjahpadaa
/- THE CELL 'sum', in the pinned program and in every row, IS THE sha256 OF THE DUMP (.gsa) THAT YtnkkpphjahpadaaProg.lean LOADS. Nothing in Lean hashes anything: it is a label: what it is worth is what the hold of that sum in a sandbox is worth. -/
noncomputable def Try.pinned : Pinned := { name := "ytnkkpphjahpadaa", sum := "e2a2ad20b472be5f223ef42270a6383b222eb8d582b53439c5a923fb84d4460e", checked := Try.checked }
namespace Rows
def none {H : Type} : Left H := { results := [], args := [] }

/-- 'laws.FnExactLigaturesIn': WHATEVER THE INPUT: true; the input reads as it did. -/
def fnExactLigaturesInSpec : ChangeSpec := { name := "fnExactLigaturesIn", fn := fun _ => fun
  | [d1, d2] => { results := [.lit (.bool true)], args := [d1, d2] }
  | _ => none }
def fnExactLigaturesInRow : OpenClaim := { program := "ytnkkpphjahpadaa", sum := "e2a2ad20b472be5f223ef42270a6383b222eb8d582b53439c5a923fb84d4460e", func := "loop.example/g01054/laws.FnExactLigaturesIn", spec := "fnExactLigaturesIn", apart := false }
def FnExactLigaturesInSaid : Prop := fnExactLigaturesInRow.holds Try.pinned (OpenSpec.ofChange fnExactLigaturesInSpec)

/-- ITS FALSE NEIGHBOUR: 'it returns false'. Refute it at one input. -/
def fnExactLigaturesInWrong : ChangeSpec := { name := "fnExactLigaturesIn", fn := fun _ => fun
  | [d1, d2] => { results := [.lit (.bool false)], args := [d1, d2] }
  | _ => none }
def FnExactLigaturesInWrongFalsely : Prop := fnExactLigaturesInRow.holds Try.pinned (OpenSpec.ofChange fnExactLigaturesInWrong)

/-- 'laws.FnExactNarrowestWay': WHATEVER THE INPUT: true; the input reads as it did. -/
def fnExactNarrowestWaySpec : ChangeSpec := { name := "fnExactNarrowestWay", fn := fun _ => fun
  | [d1, d2] => { results := [.lit (.bool true)], args := [d1, d2] }
  | _ => none }
def fnExactNarrowestWayRow : OpenClaim := { program := "ytnkkpphjahpadaa", sum := "e2a2ad20b472be5f223ef42270a6383b222eb8d582b53439c5a923fb84d4460e", func := "loop.example/g01054/laws.FnExactNarrowestWay", spec := "fnExactNarrowestWay", apart := false }
def FnExactNarrowestWaySaid : Prop := fnExactNarrowestWayRow.holds Try.pinned (OpenSpec.ofChange fnExactNarrowestWaySpec)

/-- ITS FALSE NEIGHBOUR: 'it returns false'. Refute it at one input. -/
def fnExactNarrowestWayWrong : ChangeSpec := { name := "fnExactNarrowestWay", fn := fun _ => fun
  | [d1, d2] => { results := [.lit (.bool false)], args := [d1, d2] }
  | _ => none }
def FnExactNarrowestWayWrongFalsely : Prop := fnExactNarrowestWayRow.holds Try.pinned (OpenSpec.ofChange fnExactNarrowestWayWrong)

/-- 'laws.FnExactSortsOfWord': WHATEVER THE INPUT: true; the input reads as it did. -/
def fnExactSortsOfWordSpec : ChangeSpec := { name := "fnExactSortsOfWord", fn := fun _ => fun
  | [d1, d2] => { results := [.lit (.bool true)], args := [d1, d2] }
  | _ => none }
def fnExactSortsOfWordRow : OpenClaim := { program := "ytnkkpphjahpadaa", sum := "e2a2ad20b472be5f223ef42270a6383b222eb8d582b53439c5a923fb84d4460e", func := "loop.example/g01054/laws.FnExactSortsOfWord", spec := "fnExactSortsOfWord", apart := false }
def FnExactSortsOfWordSaid : Prop := fnExactSortsOfWordRow.holds Try.pinned (OpenSpec.ofChange fnExactSortsOfWordSpec)

/-- ITS FALSE NEIGHBOUR: 'it returns false'. Refute it at one input. -/
def fnExactSortsOfWordWrong : ChangeSpec := { name := "fnExactSortsOfWord", fn := fun _ => fun
  | [d1, d2] => { results := [.lit (.bool false)], args := [d1, d2] }
  | _ => none }
def FnExactSortsOfWordWrongFalsely : Prop := fnExactSortsOfWordRow.holds Try.pinned (OpenSpec.ofChange fnExactSortsOfWordWrong)

/-- 'laws.FnExactWithSort': WHATEVER THE INPUT: true; the input reads as it did. -/
def fnExactWithSortSpec : ChangeSpec := { name := "fnExactWithSort", fn := fun _ => fun
  | [d1, d2] => { results := [.lit (.bool true)], args := [d1, d2] }
  | _ => none }
def fnExactWithSortRow : OpenClaim := { program := "ytnkkpphjahpadaa", sum := "e2a2ad20b472be5f223ef42270a6383b222eb8d582b53439c5a923fb84d4460e", func := "loop.example/g01054/laws.FnExactWithSort", spec := "fnExactWithSort", apart := false }
def FnExactWithSortSaid : Prop := fnExactWithSortRow.holds Try.pinned (OpenSpec.ofChange fnExactWithSortSpec)

/-- ITS FALSE NEIGHBOUR: 'it returns false'. Refute it at one input. -/
def fnExactWithSortWrong : ChangeSpec := { name := "fnExactWithSort", fn := fun _ => fun
  | [d1, d2] => { results := [.lit (.bool false)], args := [d1, d2] }
  | _ => none }
def FnExactWithSortWrongFalsely : Prop := fnExactWithSortRow.holds Try.pinned (OpenSpec.ofChange fnExactWithSortWrong)

/-- 'laws.FnExactWithoutSort': WHATEVER THE INPUT: true; the input reads as it did. -/
def fnExactWithoutSortSpec : ChangeSpec := { name := "fnExactWithoutSort", fn := fun _ => fun
  | [d1, d2] => { results := [.lit (.bool true)], args := [d1, d2] }
  | _ => none }
def fnExactWithoutSortRow : OpenClaim := { program := "ytnkkpphjahpadaa", sum := "e2a2ad20b472be5f223ef42270a6383b222eb8d582b53439c5a923fb84d4460e", func := "loop.example/g01054/laws.FnExactWithoutSort", spec := "fnExactWithoutSort", apart := false }
def FnExactWithoutSortSaid : Prop := fnExactWithoutSortRow.holds Try.pinned (OpenSpec.ofChange fnExactWithoutSortSpec)

/-- ITS FALSE NEIGHBOUR: 'it returns false'. Refute it at one input. -/
def fnExactWithoutSortWrong : ChangeSpec := { name := "fnExactWithoutSort", fn := fun _ => fun
  | [d1, d2] => { results := [.lit (.bool false)], args := [d1, d2] }
  | _ => none }
def FnExactWithoutSortWrongFalsely : Prop := fnExactWithoutSortRow.holds Try.pinned (OpenSpec.ofChange fnExactWithoutSortWrong)

/-- 'laws.FnExactCountSorts': WHATEVER THE INPUT: true; the input reads as it did. -/
def fnExactCountSortsSpec : ChangeSpec := { name := "fnExactCountSorts", fn := fun _ => fun
  | [d1, d2] => { results := [.lit (.bool true)], args := [d1, d2] }
  | _ => none }
def fnExactCountSortsRow : OpenClaim := { program := "ytnkkpphjahpadaa", sum := "e2a2ad20b472be5f223ef42270a6383b222eb8d582b53439c5a923fb84d4460e", func := "loop.example/g01054/laws.FnExactCountSorts", spec := "fnExactCountSorts", apart := false }
def FnExactCountSortsSaid : Prop := fnExactCountSortsRow.holds Try.pinned (OpenSpec.ofChange fnExactCountSortsSpec)

/-- ITS FALSE NEIGHBOUR: 'it returns false'. Refute it at one input. -/
def fnExactCountSortsWrong : ChangeSpec := { name := "fnExactCountSorts", fn := fun _ => fun
  | [d1, d2] => { results := [.lit (.bool false)], args := [d1, d2] }
  | _ => none }
def FnExactCountSortsWrongFalsely : Prop := fnExactCountSortsRow.holds Try.pinned (OpenSpec.ofChange fnExactCountSortsWrong)

/-- 'laws.FnExactLeastRecast': WHATEVER THE INPUT: true; the input reads as it did. -/
def fnExactLeastRecastSpec : ChangeSpec := { name := "fnExactLeastRecast", fn := fun _ => fun
  | [d1, d2, d3, d4] => { results := [.lit (.bool true)], args := [d1, d2, d3, d4] }
  | _ => none }
def fnExactLeastRecastRow : OpenClaim := { program := "ytnkkpphjahpadaa", sum := "e2a2ad20b472be5f223ef42270a6383b222eb8d582b53439c5a923fb84d4460e", func := "loop.example/g01054/laws.FnExactLeastRecast", spec := "fnExactLeastRecast", apart := false }
def FnExactLeastRecastSaid : Prop := fnExactLeastRecastRow.holds Try.pinned (OpenSpec.ofChange fnExactLeastRecastSpec)

/-- ITS FALSE NEIGHBOUR: 'it returns false'. Refute it at one input. -/
def fnExactLeastRecastWrong : ChangeSpec := { name := "fnExactLeastRecast", fn := fun _ => fun
  | [d1, d2, d3, d4] => { results := [.lit (.bool false)], args := [d1, d2, d3, d4] }
  | _ => none }
def FnExactLeastRecastWrongFalsely : Prop := fnExactLeastRecastRow.holds Try.pinned (OpenSpec.ofChange fnExactLeastRecastWrong)

/-- 'laws.FnExactSpacesFor': WHATEVER THE INPUT: true; the input reads as it did. -/
def fnExactSpacesForSpec : ChangeSpec := { name := "fnExactSpacesFor", fn := fun _ => fun
  | [d1, d2, d3, d4] => { results := [.lit (.bool true)], args := [d1, d2, d3, d4] }
  | _ => none }
def fnExactSpacesForRow : OpenClaim := { program := "ytnkkpphjahpadaa", sum := "e2a2ad20b472be5f223ef42270a6383b222eb8d582b53439c5a923fb84d4460e", func := "loop.example/g01054/laws.FnExactSpacesFor", spec := "fnExactSpacesFor", apart := false }
def FnExactSpacesForSaid : Prop := fnExactSpacesForRow.holds Try.pinned (OpenSpec.ofChange fnExactSpacesForSpec)

/-- ITS FALSE NEIGHBOUR: 'it returns false'. Refute it at one input. -/
def fnExactSpacesForWrong : ChangeSpec := { name := "fnExactSpacesFor", fn := fun _ => fun
  | [d1, d2, d3, d4] => { results := [.lit (.bool false)], args := [d1, d2, d3, d4] }
  | _ => none }
def FnExactSpacesForWrongFalsely : Prop := fnExactSpacesForRow.holds Try.pinned (OpenSpec.ofChange fnExactSpacesForWrong)

/-- 'laws.FnExactValuesOf': WHATEVER THE INPUT: true; the input reads as it did. -/
def fnExactValuesOfSpec : ChangeSpec := { name := "fnExactValuesOf", fn := fun _ => fun
  | [d1, d2] => { results := [.lit (.bool true)], args := [d1, d2] }
  | _ => none }
def fnExactValuesOfRow : OpenClaim := { program := "ytnkkpphjahpadaa", sum := "e2a2ad20b472be5f223ef42270a6383b222eb8d582b53439c5a923fb84d4460e", func := "loop.example/g01054/laws.FnExactValuesOf", spec := "fnExactValuesOf", apart := false }
def FnExactValuesOfSaid : Prop := fnExactValuesOfRow.holds Try.pinned (OpenSpec.ofChange fnExactValuesOfSpec)

/-- ITS FALSE NEIGHBOUR: 'it returns false'. Refute it at one input. -/
def fnExactValuesOfWrong : ChangeSpec := { name := "fnExactValuesOf", fn := fun _ => fun
  | [d1, d2] => { results := [.lit (.bool false)], args := [d1, d2] }
  | _ => none }
def FnExactValuesOfWrongFalsely : Prop := fnExactValuesOfRow.holds Try.pinned (OpenSpec.ofChange fnExactValuesOfWrong)

/-- 'laws.FnExactPutTypes': WHATEVER THE INPUT: true; the input reads as it did. -/
def fnExactPutTypesSpec : ChangeSpec := { name := "fnExactPutTypes", fn := fun _ => fun
  | [d1, d2] => { results := [.lit (.bool true)], args := [d1, d2] }
  | _ => none }
def fnExactPutTypesRow : OpenClaim := { program := "ytnkkpphjahpadaa", sum := "e2a2ad20b472be5f223ef42270a6383b222eb8d582b53439c5a923fb84d4460e", func := "loop.example/g01054/laws.FnExactPutTypes", spec := "fnExactPutTypes", apart := false }
def FnExactPutTypesSaid : Prop := fnExactPutTypesRow.holds Try.pinned (OpenSpec.ofChange fnExactPutTypesSpec)

/-- ITS FALSE NEIGHBOUR: 'it returns false'. Refute it at one input. -/
def fnExactPutTypesWrong : ChangeSpec := { name := "fnExactPutTypes", fn := fun _ => fun
  | [d1, d2] => { results := [.lit (.bool false)], args := [d1, d2] }
  | _ => none }
def FnExactPutTypesWrongFalsely : Prop := fnExactPutTypesRow.holds Try.pinned (OpenSpec.ofChange fnExactPutTypesWrong)

/-- 'laws.FnExactSwapBoxes': WHATEVER THE INPUT: true; the input reads as it did. -/
def fnExactSwapBoxesSpec : ChangeSpec := { name := "fnExactSwapBoxes", fn := fun _ => fun
  | [d1, d2, d3] => { results := [.lit (.bool true)], args := [d1, d2, d3] }
  | _ => none }
def fnExactSwapBoxesRow : OpenClaim := { program := "ytnkkpphjahpadaa", sum := "e2a2ad20b472be5f223ef42270a6383b222eb8d582b53439c5a923fb84d4460e", func := "loop.example/g01054/laws.FnExactSwapBoxes", spec := "fnExactSwapBoxes", apart := false }
def FnExactSwapBoxesSaid : Prop := fnExactSwapBoxesRow.holds Try.pinned (OpenSpec.ofChange fnExactSwapBoxesSpec)

/-- ITS FALSE NEIGHBOUR: 'it returns false'. Refute it at one input. -/
def fnExactSwapBoxesWrong : ChangeSpec := { name := "fnExactSwapBoxes", fn := fun _ => fun
  | [d1, d2, d3] => { results := [.lit (.bool false)], args := [d1, d2, d3] }
  | _ => none }
def FnExactSwapBoxesWrongFalsely : Prop := fnExactSwapBoxesRow.holds Try.pinned (OpenSpec.ofChange fnExactSwapBoxesWrong)

/-- 'laws.FnExactTakeTypes': WHATEVER THE INPUT: true; the input reads as it did. -/
def fnExactTakeTypesSpec : ChangeSpec := { name := "fnExactTakeTypes", fn := fun _ => fun
  | [d1, d2] => { results := [.lit (.bool true)], args := [d1, d2] }
  | _ => none }
def fnExactTakeTypesRow : OpenClaim := { program := "ytnkkpphjahpadaa", sum := "e2a2ad20b472be5f223ef42270a6383b222eb8d582b53439c5a923fb84d4460e", func := "loop.example/g01054/laws.FnExactTakeTypes", spec := "fnExactTakeTypes", apart := false }
def FnExactTakeTypesSaid : Prop := fnExactTakeTypesRow.holds Try.pinned (OpenSpec.ofChange fnExactTakeTypesSpec)

/-- ITS FALSE NEIGHBOUR: 'it returns false'. Refute it at one input. -/
def fnExactTakeTypesWrong : ChangeSpec := { name := "fnExactTakeTypes", fn := fun _ => fun
  | [d1, d2] => { results := [.lit (.bool false)], args := [d1, d2] }
  | _ => none }
def FnExactTakeTypesWrongFalsely : Prop := fnExactTakeTypesRow.holds Try.pinned (OpenSpec.ofChange fnExactTakeTypesWrong)

/- THE SECOND FORM. 'bulk': how many values and letters a reading holds, each counted each time it is reached (what is shared counts as often as it is met; a slice's spare places count too). A statement '..UptoSaid' is the law's where the arguments, and the package variables that the reading takes, are together of bulk at most 1048576: NARROWER than '..Said'. Prove '..Said' where nothing that the law and all that it calls make is longer than what came in: it says more and counts as full. Else prove '..UptoSaid'. A law counts once. -/
mutual
def uptoBulk {H : Type} : DataW H → Nat
  | .lit (.string bytes) => bytes.length + 1
  | .lit _ => 1
  | .nil => 1
  | .ptr d => uptoBulk d + 1
  | .slice elems spare => uptoBulkAll elems + uptoBulkAll spare + 1
  | .agg parts => uptoBulkAll parts + 1
  | .iface _ d => uptoBulk d + 1
  | .map entries => uptoBulkEntries entries + 1
  | .held _ => 1
def uptoBulkAll {H : Type} : List (DataW H) → Nat
  | [] => 0
  | d :: r => uptoBulk d + uptoBulkAll r
def uptoBulkEntries {H : Type} : List (Lit × DataW H) → Nat
  | [] => 0
  | x :: r => uptoBulkEntry x + uptoBulkEntries r
def uptoBulkEntry {H : Type} : Lit × DataW H → Nat
  | (.string bytes, d) => bytes.length + uptoBulk d + 1
  | (_, d) => uptoBulk d + 1
 end
def uptoSmall : (H : Type) → List (DataW H) → Bool := fun _ ds => decide (uptoBulkAll ds ≤ 1048576)
def OpenSpec.upto (s : _root_.Go.ChangeSpec) : _root_.Go.OpenSpec := { _root_.Go.OpenSpec.ofChange s with cond := some uptoSmall }

/-- 'laws.FnExactLigaturesIn', WHERE WHAT IT READS IS OF BULK AT MOST 1048576: true; the input reads as it did. -/
def fnExactLigaturesInUptoRow : OpenClaim := { program := "ytnkkpphjahpadaa", sum := "e2a2ad20b472be5f223ef42270a6383b222eb8d582b53439c5a923fb84d4460e", func := "loop.example/g01054/laws.FnExactLigaturesIn", spec := "fnExactLigaturesIn", apart := false, narrowed := true }
def FnExactLigaturesInUptoSaid : Prop := fnExactLigaturesInUptoRow.holds Try.pinned (OpenSpec.upto fnExactLigaturesInSpec)

/-- 'laws.FnExactNarrowestWay', WHERE WHAT IT READS IS OF BULK AT MOST 1048576: true; the input reads as it did. -/
def fnExactNarrowestWayUptoRow : OpenClaim := { program := "ytnkkpphjahpadaa", sum := "e2a2ad20b472be5f223ef42270a6383b222eb8d582b53439c5a923fb84d4460e", func := "loop.example/g01054/laws.FnExactNarrowestWay", spec := "fnExactNarrowestWay", apart := false, narrowed := true }
def FnExactNarrowestWayUptoSaid : Prop := fnExactNarrowestWayUptoRow.holds Try.pinned (OpenSpec.upto fnExactNarrowestWaySpec)

/-- 'laws.FnExactSortsOfWord', WHERE WHAT IT READS IS OF BULK AT MOST 1048576: true; the input reads as it did. -/
def fnExactSortsOfWordUptoRow : OpenClaim := { program := "ytnkkpphjahpadaa", sum := "e2a2ad20b472be5f223ef42270a6383b222eb8d582b53439c5a923fb84d4460e", func := "loop.example/g01054/laws.FnExactSortsOfWord", spec := "fnExactSortsOfWord", apart := false, narrowed := true }
def FnExactSortsOfWordUptoSaid : Prop := fnExactSortsOfWordUptoRow.holds Try.pinned (OpenSpec.upto fnExactSortsOfWordSpec)

/-- 'laws.FnExactWithSort', WHERE WHAT IT READS IS OF BULK AT MOST 1048576: true; the input reads as it did. -/
def fnExactWithSortUptoRow : OpenClaim := { program := "ytnkkpphjahpadaa", sum := "e2a2ad20b472be5f223ef42270a6383b222eb8d582b53439c5a923fb84d4460e", func := "loop.example/g01054/laws.FnExactWithSort", spec := "fnExactWithSort", apart := false, narrowed := true }
def FnExactWithSortUptoSaid : Prop := fnExactWithSortUptoRow.holds Try.pinned (OpenSpec.upto fnExactWithSortSpec)

/-- 'laws.FnExactWithoutSort', WHERE WHAT IT READS IS OF BULK AT MOST 1048576: true; the input reads as it did. -/
def fnExactWithoutSortUptoRow : OpenClaim := { program := "ytnkkpphjahpadaa", sum := "e2a2ad20b472be5f223ef42270a6383b222eb8d582b53439c5a923fb84d4460e", func := "loop.example/g01054/laws.FnExactWithoutSort", spec := "fnExactWithoutSort", apart := false, narrowed := true }
def FnExactWithoutSortUptoSaid : Prop := fnExactWithoutSortUptoRow.holds Try.pinned (OpenSpec.upto fnExactWithoutSortSpec)

/-- 'laws.FnExactCountSorts', WHERE WHAT IT READS IS OF BULK AT MOST 1048576: true; the input reads as it did. -/
def fnExactCountSortsUptoRow : OpenClaim := { program := "ytnkkpphjahpadaa", sum := "e2a2ad20b472be5f223ef42270a6383b222eb8d582b53439c5a923fb84d4460e", func := "loop.example/g01054/laws.FnExactCountSorts", spec := "fnExactCountSorts", apart := false, narrowed := true }
def FnExactCountSortsUptoSaid : Prop := fnExactCountSortsUptoRow.holds Try.pinned (OpenSpec.upto fnExactCountSortsSpec)

/-- 'laws.FnExactLeastRecast', WHERE WHAT IT READS IS OF BULK AT MOST 1048576: true; the input reads as it did. -/
def fnExactLeastRecastUptoRow : OpenClaim := { program := "ytnkkpphjahpadaa", sum := "e2a2ad20b472be5f223ef42270a6383b222eb8d582b53439c5a923fb84d4460e", func := "loop.example/g01054/laws.FnExactLeastRecast", spec := "fnExactLeastRecast", apart := false, narrowed := true }
def FnExactLeastRecastUptoSaid : Prop := fnExactLeastRecastUptoRow.holds Try.pinned (OpenSpec.upto fnExactLeastRecastSpec)

/-- 'laws.FnExactSpacesFor', WHERE WHAT IT READS IS OF BULK AT MOST 1048576: true; the input reads as it did. -/
def fnExactSpacesForUptoRow : OpenClaim := { program := "ytnkkpphjahpadaa", sum := "e2a2ad20b472be5f223ef42270a6383b222eb8d582b53439c5a923fb84d4460e", func := "loop.example/g01054/laws.FnExactSpacesFor", spec := "fnExactSpacesFor", apart := false, narrowed := true }
def FnExactSpacesForUptoSaid : Prop := fnExactSpacesForUptoRow.holds Try.pinned (OpenSpec.upto fnExactSpacesForSpec)

/-- 'laws.FnExactValuesOf', WHERE WHAT IT READS IS OF BULK AT MOST 1048576: true; the input reads as it did. -/
def fnExactValuesOfUptoRow : OpenClaim := { program := "ytnkkpphjahpadaa", sum := "e2a2ad20b472be5f223ef42270a6383b222eb8d582b53439c5a923fb84d4460e", func := "loop.example/g01054/laws.FnExactValuesOf", spec := "fnExactValuesOf", apart := false, narrowed := true }
def FnExactValuesOfUptoSaid : Prop := fnExactValuesOfUptoRow.holds Try.pinned (OpenSpec.upto fnExactValuesOfSpec)

/-- 'laws.FnExactPutTypes', WHERE WHAT IT READS IS OF BULK AT MOST 1048576: true; the input reads as it did. -/
def fnExactPutTypesUptoRow : OpenClaim := { program := "ytnkkpphjahpadaa", sum := "e2a2ad20b472be5f223ef42270a6383b222eb8d582b53439c5a923fb84d4460e", func := "loop.example/g01054/laws.FnExactPutTypes", spec := "fnExactPutTypes", apart := false, narrowed := true }
def FnExactPutTypesUptoSaid : Prop := fnExactPutTypesUptoRow.holds Try.pinned (OpenSpec.upto fnExactPutTypesSpec)

/-- 'laws.FnExactSwapBoxes', WHERE WHAT IT READS IS OF BULK AT MOST 1048576: true; the input reads as it did. -/
def fnExactSwapBoxesUptoRow : OpenClaim := { program := "ytnkkpphjahpadaa", sum := "e2a2ad20b472be5f223ef42270a6383b222eb8d582b53439c5a923fb84d4460e", func := "loop.example/g01054/laws.FnExactSwapBoxes", spec := "fnExactSwapBoxes", apart := false, narrowed := true }
def FnExactSwapBoxesUptoSaid : Prop := fnExactSwapBoxesUptoRow.holds Try.pinned (OpenSpec.upto fnExactSwapBoxesSpec)

/-- 'laws.FnExactTakeTypes', WHERE WHAT IT READS IS OF BULK AT MOST 1048576: true; the input reads as it did. -/
def fnExactTakeTypesUptoRow : OpenClaim := { program := "ytnkkpphjahpadaa", sum := "e2a2ad20b472be5f223ef42270a6383b222eb8d582b53439c5a923fb84d4460e", func := "loop.example/g01054/laws.FnExactTakeTypes", spec := "fnExactTakeTypes", apart := false, narrowed := true }
def FnExactTakeTypesUptoSaid : Prop := fnExactTakeTypesUptoRow.holds Try.pinned (OpenSpec.upto fnExactTakeTypesSpec)

end Rows
end Go.Proofs.Ytnkkpphjahpadaa
