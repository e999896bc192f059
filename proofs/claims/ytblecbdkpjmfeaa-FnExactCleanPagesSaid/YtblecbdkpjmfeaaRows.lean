/-
  No cell of these rows narrows 'for every input' (looked for: loops, veiled, ifaces, maps, wideKeys, modest, calm, conditions, laid).
  DERIVED. THE GIVEN ROWS OF THIS SEAT. 9 by the template 'for every input the law returns true; each argument reads behind the call as it read before'; 0 by the template 'total and deterministic' (their statements: YtblecbdkpjmfeaaTotals.lean).
  GIVEN WITH THE SEED: the statements are not yours to turn. If you find one false, say at which input.
  Laid BY PROGRAM, IN A SANDBOX (cutbox-rows.mjs): the forced cells as the released guide's own fill.sh prints them over the translation 753373caf24266c5… (all of the seat's roots in one cut). By AI agents, Wed Nov 11 2026. No macro, syntax, notation, axiom, sorry.
-/
import Derived.Test.YtblecbdkpjmfeaaChecked
import GoSem.Claim
import GoSem.ClaimJoined
import GoSem.ClaimMapViews
import Derived.JoinedTies
import Derived.KernelRfl
namespace Go.Proofs.Ytblecbdkpjmfeaa
/- THE CELL 'sum', in the pinned program and in every row, IS THE sha256 OF THE DUMP (.gsa) THAT YtblecbdkpjmfeaaProg.lean LOADS. Nothing in Lean hashes anything: it is a label: what it is worth is what the hold of that sum in a sandbox is worth. -/
noncomputable def Try.pinned : Pinned := { name := "ytblecbdkpjmfeaa", sum := "753373caf24266c591103e2ea6bc78bd4102dbfef8619fdc6db7f075c36ac8c2", checked := Try.checked }
namespace Rows
def none {H : Type} : Left H := { results := [], args := [] }

/-- 'laws.FnExactIsGalley': WHATEVER THE INPUT: true; the input reads as it did. -/
def fnExactIsGalleySpec : ChangeSpec := { name := "fnExactIsGalley", fn := fun _ => fun
  | [d] => { results := [.lit (.bool true)], args := [d] }
  | _ => none }
def fnExactIsGalleyRow : OpenClaim := { program := "ytblecbdkpjmfeaa", sum := "753373caf24266c591103e2ea6bc78bd4102dbfef8619fdc6db7f075c36ac8c2", func := "loop.example/g01054/laws.FnExactIsGalley", spec := "fnExactIsGalley", apart := false }
def FnExactIsGalleySaid : Prop := fnExactIsGalleyRow.holds Try.pinned (OpenSpec.ofChange fnExactIsGalleySpec)

/-- ITS FALSE NEIGHBOUR: 'it returns false'. Refute it at one input. -/
def fnExactIsGalleyWrong : ChangeSpec := { name := "fnExactIsGalley", fn := fun _ => fun
  | [d] => { results := [.lit (.bool false)], args := [d] }
  | _ => none }
def FnExactIsGalleyWrongFalsely : Prop := fnExactIsGalleyRow.holds Try.pinned (OpenSpec.ofChange fnExactIsGalleyWrong)

/-- 'laws.FnExactPagesOfGalley': WHATEVER THE INPUT: true; the input reads as it did. -/
def fnExactPagesOfGalleySpec : ChangeSpec := { name := "fnExactPagesOfGalley", fn := fun _ => fun
  | [d1, d2] => { results := [.lit (.bool true)], args := [d1, d2] }
  | _ => none }
def fnExactPagesOfGalleyRow : OpenClaim := { program := "ytblecbdkpjmfeaa", sum := "753373caf24266c591103e2ea6bc78bd4102dbfef8619fdc6db7f075c36ac8c2", func := "loop.example/g01054/laws.FnExactPagesOfGalley", spec := "fnExactPagesOfGalley", apart := false }
def FnExactPagesOfGalleySaid : Prop := fnExactPagesOfGalleyRow.holds Try.pinned (OpenSpec.ofChange fnExactPagesOfGalleySpec)

/-- ITS FALSE NEIGHBOUR: 'it returns false'. Refute it at one input. -/
def fnExactPagesOfGalleyWrong : ChangeSpec := { name := "fnExactPagesOfGalley", fn := fun _ => fun
  | [d1, d2] => { results := [.lit (.bool false)], args := [d1, d2] }
  | _ => none }
def FnExactPagesOfGalleyWrongFalsely : Prop := fnExactPagesOfGalleyRow.holds Try.pinned (OpenSpec.ofChange fnExactPagesOfGalleyWrong)

/-- 'laws.FnExactOrphansOf': WHATEVER THE INPUT: true; the input reads as it did. -/
def fnExactOrphansOfSpec : ChangeSpec := { name := "fnExactOrphansOf", fn := fun _ => fun
  | [d1, d2] => { results := [.lit (.bool true)], args := [d1, d2] }
  | _ => none }
def fnExactOrphansOfRow : OpenClaim := { program := "ytblecbdkpjmfeaa", sum := "753373caf24266c591103e2ea6bc78bd4102dbfef8619fdc6db7f075c36ac8c2", func := "loop.example/g01054/laws.FnExactOrphansOf", spec := "fnExactOrphansOf", apart := false }
def FnExactOrphansOfSaid : Prop := fnExactOrphansOfRow.holds Try.pinned (OpenSpec.ofChange fnExactOrphansOfSpec)

/-- ITS FALSE NEIGHBOUR: 'it returns false'. Refute it at one input. -/
def fnExactOrphansOfWrong : ChangeSpec := { name := "fnExactOrphansOf", fn := fun _ => fun
  | [d1, d2] => { results := [.lit (.bool false)], args := [d1, d2] }
  | _ => none }
def FnExactOrphansOfWrongFalsely : Prop := fnExactOrphansOfRow.holds Try.pinned (OpenSpec.ofChange fnExactOrphansOfWrong)

/-- 'laws.FnExactWidowsOf': WHATEVER THE INPUT: true; the input reads as it did. -/
def fnExactWidowsOfSpec : ChangeSpec := { name := "fnExactWidowsOf", fn := fun _ => fun
  | [d1, d2] => { results := [.lit (.bool true)], args := [d1, d2] }
  | _ => none }
def fnExactWidowsOfRow : OpenClaim := { program := "ytblecbdkpjmfeaa", sum := "753373caf24266c591103e2ea6bc78bd4102dbfef8619fdc6db7f075c36ac8c2", func := "loop.example/g01054/laws.FnExactWidowsOf", spec := "fnExactWidowsOf", apart := false }
def FnExactWidowsOfSaid : Prop := fnExactWidowsOfRow.holds Try.pinned (OpenSpec.ofChange fnExactWidowsOfSpec)

/-- ITS FALSE NEIGHBOUR: 'it returns false'. Refute it at one input. -/
def fnExactWidowsOfWrong : ChangeSpec := { name := "fnExactWidowsOf", fn := fun _ => fun
  | [d1, d2] => { results := [.lit (.bool false)], args := [d1, d2] }
  | _ => none }
def FnExactWidowsOfWrongFalsely : Prop := fnExactWidowsOfRow.holds Try.pinned (OpenSpec.ofChange fnExactWidowsOfWrong)

/-- 'laws.FnExactLeadsFor': WHATEVER THE INPUT: true; the input reads as it did. -/
def fnExactLeadsForSpec : ChangeSpec := { name := "fnExactLeadsFor", fn := fun _ => fun
  | [d1, d2] => { results := [.lit (.bool true)], args := [d1, d2] }
  | _ => none }
def fnExactLeadsForRow : OpenClaim := { program := "ytblecbdkpjmfeaa", sum := "753373caf24266c591103e2ea6bc78bd4102dbfef8619fdc6db7f075c36ac8c2", func := "loop.example/g01054/laws.FnExactLeadsFor", spec := "fnExactLeadsFor", apart := false }
def FnExactLeadsForSaid : Prop := fnExactLeadsForRow.holds Try.pinned (OpenSpec.ofChange fnExactLeadsForSpec)

/-- ITS FALSE NEIGHBOUR: 'it returns false'. Refute it at one input. -/
def fnExactLeadsForWrong : ChangeSpec := { name := "fnExactLeadsFor", fn := fun _ => fun
  | [d1, d2] => { results := [.lit (.bool false)], args := [d1, d2] }
  | _ => none }
def FnExactLeadsForWrongFalsely : Prop := fnExactLeadsForRow.holds Try.pinned (OpenSpec.ofChange fnExactLeadsForWrong)

/-- 'laws.FnExactPageFill': WHATEVER THE INPUT: true; the input reads as it did. -/
def fnExactPageFillSpec : ChangeSpec := { name := "fnExactPageFill", fn := fun _ => fun
  | [d1, d2] => { results := [.lit (.bool true)], args := [d1, d2] }
  | _ => none }
def fnExactPageFillRow : OpenClaim := { program := "ytblecbdkpjmfeaa", sum := "753373caf24266c591103e2ea6bc78bd4102dbfef8619fdc6db7f075c36ac8c2", func := "loop.example/g01054/laws.FnExactPageFill", spec := "fnExactPageFill", apart := false }
def FnExactPageFillSaid : Prop := fnExactPageFillRow.holds Try.pinned (OpenSpec.ofChange fnExactPageFillSpec)

/-- ITS FALSE NEIGHBOUR: 'it returns false'. Refute it at one input. -/
def fnExactPageFillWrong : ChangeSpec := { name := "fnExactPageFill", fn := fun _ => fun
  | [d1, d2] => { results := [.lit (.bool false)], args := [d1, d2] }
  | _ => none }
def FnExactPageFillWrongFalsely : Prop := fnExactPageFillRow.holds Try.pinned (OpenSpec.ofChange fnExactPageFillWrong)

/-- 'laws.FnExactNotesOnPages': WHATEVER THE INPUT: true; the input reads as it did. -/
def fnExactNotesOnPagesSpec : ChangeSpec := { name := "fnExactNotesOnPages", fn := fun _ => fun
  | [d1, d2] => { results := [.lit (.bool true)], args := [d1, d2] }
  | _ => none }
def fnExactNotesOnPagesRow : OpenClaim := { program := "ytblecbdkpjmfeaa", sum := "753373caf24266c591103e2ea6bc78bd4102dbfef8619fdc6db7f075c36ac8c2", func := "loop.example/g01054/laws.FnExactNotesOnPages", spec := "fnExactNotesOnPages", apart := false }
def FnExactNotesOnPagesSaid : Prop := fnExactNotesOnPagesRow.holds Try.pinned (OpenSpec.ofChange fnExactNotesOnPagesSpec)

/-- ITS FALSE NEIGHBOUR: 'it returns false'. Refute it at one input. -/
def fnExactNotesOnPagesWrong : ChangeSpec := { name := "fnExactNotesOnPages", fn := fun _ => fun
  | [d1, d2] => { results := [.lit (.bool false)], args := [d1, d2] }
  | _ => none }
def FnExactNotesOnPagesWrongFalsely : Prop := fnExactNotesOnPagesRow.holds Try.pinned (OpenSpec.ofChange fnExactNotesOnPagesWrong)

/-- 'laws.FnExactPageDepths': WHATEVER THE INPUT: true; the input reads as it did. -/
def fnExactPageDepthsSpec : ChangeSpec := { name := "fnExactPageDepths", fn := fun _ => fun
  | [d1, d2] => { results := [.lit (.bool true)], args := [d1, d2] }
  | _ => none }
def fnExactPageDepthsRow : OpenClaim := { program := "ytblecbdkpjmfeaa", sum := "753373caf24266c591103e2ea6bc78bd4102dbfef8619fdc6db7f075c36ac8c2", func := "loop.example/g01054/laws.FnExactPageDepths", spec := "fnExactPageDepths", apart := false }
def FnExactPageDepthsSaid : Prop := fnExactPageDepthsRow.holds Try.pinned (OpenSpec.ofChange fnExactPageDepthsSpec)

/-- ITS FALSE NEIGHBOUR: 'it returns false'. Refute it at one input. -/
def fnExactPageDepthsWrong : ChangeSpec := { name := "fnExactPageDepths", fn := fun _ => fun
  | [d1, d2] => { results := [.lit (.bool false)], args := [d1, d2] }
  | _ => none }
def FnExactPageDepthsWrongFalsely : Prop := fnExactPageDepthsRow.holds Try.pinned (OpenSpec.ofChange fnExactPageDepthsWrong)

/-- 'laws.FnExactCleanPages': WHATEVER THE INPUT: true; the input reads as it did. -/
def fnExactCleanPagesSpec : ChangeSpec := { name := "fnExactCleanPages", fn := fun _ => fun
  | [d1, d2] => { results := [.lit (.bool true)], args := [d1, d2] }
  | _ => none }
def fnExactCleanPagesRow : OpenClaim := { program := "ytblecbdkpjmfeaa", sum := "753373caf24266c591103e2ea6bc78bd4102dbfef8619fdc6db7f075c36ac8c2", func := "loop.example/g01054/laws.FnExactCleanPages", spec := "fnExactCleanPages", apart := false }
def FnExactCleanPagesSaid : Prop := fnExactCleanPagesRow.holds Try.pinned (OpenSpec.ofChange fnExactCleanPagesSpec)

/-- ITS FALSE NEIGHBOUR: 'it returns false'. Refute it at one input. -/
def fnExactCleanPagesWrong : ChangeSpec := { name := "fnExactCleanPages", fn := fun _ => fun
  | [d1, d2] => { results := [.lit (.bool false)], args := [d1, d2] }
  | _ => none }
def FnExactCleanPagesWrongFalsely : Prop := fnExactCleanPagesRow.holds Try.pinned (OpenSpec.ofChange fnExactCleanPagesWrong)

/- THE SECOND FORM. 'bulk': how many values and letters a reading holds, each counted each time it is reached (what is shared counts as often as it is met; a slice's spare places count too). A statement '..UptoSaid' is the law's where the arguments, and the package variables that the reading takes, are together of bulk at most 1048576: NARROWER than '..Said'. Prove '..Said' where nothing that the law and all that it calls make is longer than what came in: it says more and counts as full. Else prove '..UptoSaid'. A law counts once. -/
mutual
def uptoBulk {H : Type} : DataW H → Nat
  | .lit (.string bytes) => bytes.length + 1
  | .lit _ => 1
  | .nil => 1
  | .ptr d => uptoBulk d + 1
  | .slice elems spare => uptoBulkAll elems + uptoBulkAll spare + 1
  | .agg parts => uptoBulkAll parts + 1
  | .iface _ d => uptoBulk d + 1
  | .map entries => uptoBulkEntries entries + 1
  | .held _ => 1
def uptoBulkAll {H : Type} : List (DataW H) → Nat
  | [] => 0
  | d :: r => uptoBulk d + uptoBulkAll r
def uptoBulkEntries {H : Type} : List (Lit × DataW H) → Nat
  | [] => 0
  | x :: r => uptoBulkEntry x + uptoBulkEntries r
def uptoBulkEntry {H : Type} : Lit × DataW H → Nat
  | (.string bytes, d) => bytes.length + uptoBulk d + 1
  | (_, d) => uptoBulk d + 1
 end
def uptoSmall : (H : Type) → List (DataW H) → Bool := fun _ ds => decide (uptoBulkAll ds ≤ 1048576)
def OpenSpec.upto (s : _root_.Go.ChangeSpec) : _root_.Go.OpenSpec := { _root_.Go.OpenSpec.ofChange s with cond := some uptoSmall }

/-- 'laws.FnExactIsGalley', WHERE WHAT IT READS IS OF BULK AT MOST 1048576: true; the input reads as it did. -/
def fnExactIsGalleyUptoRow : OpenClaim := { program := "ytblecbdkpjmfeaa", sum := "753373caf24266c591103e2ea6bc78bd4102dbfef8619fdc6db7f075c36ac8c2", func := "loop.example/g01054/laws.FnExactIsGalley", spec := "fnExactIsGalley", apart := false, narrowed := true }
def FnExactIsGalleyUptoSaid : Prop := fnExactIsGalleyUptoRow.holds Try.pinned (OpenSpec.upto fnExactIsGalleySpec)

/-- 'laws.FnExactPagesOfGalley', WHERE WHAT IT READS IS OF BULK AT MOST 1048576: true; the input reads as it did. -/
def fnExactPagesOfGalleyUptoRow : OpenClaim := { program := "ytblecbdkpjmfeaa", sum := "753373caf24266c591103e2ea6bc78bd4102dbfef8619fdc6db7f075c36ac8c2", func := "loop.example/g01054/laws.FnExactPagesOfGalley", spec := "fnExactPagesOfGalley", apart := false, narrowed := true }
def FnExactPagesOfGalleyUptoSaid : Prop := fnExactPagesOfGalleyUptoRow.holds Try.pinned (OpenSpec.upto fnExactPagesOfGalleySpec)

/-- 'laws.FnExactOrphansOf', WHERE WHAT IT READS IS OF BULK AT MOST 1048576: true; the input reads as it did. -/
def fnExactOrphansOfUptoRow : OpenClaim := { program := "ytblecbdkpjmfeaa", sum := "753373caf24266c591103e2ea6bc78bd4102dbfef8619fdc6db7f075c36ac8c2", func := "loop.example/g01054/laws.FnExactOrphansOf", spec := "fnExactOrphansOf", apart := false, narrowed := true }
def FnExactOrphansOfUptoSaid : Prop := fnExactOrphansOfUptoRow.holds Try.pinned (OpenSpec.upto fnExactOrphansOfSpec)

/-- 'laws.FnExactWidowsOf', WHERE WHAT IT READS IS OF BULK AT MOST 1048576: true; the input reads as it did. -/
def fnExactWidowsOfUptoRow : OpenClaim := { program := "ytblecbdkpjmfeaa", sum := "753373caf24266c591103e2ea6bc78bd4102dbfef8619fdc6db7f075c36ac8c2", func := "loop.example/g01054/laws.FnExactWidowsOf", spec := "fnExactWidowsOf", apart := false, narrowed := true }
def FnExactWidowsOfUptoSaid : Prop := fnExactWidowsOfUptoRow.holds Try.pinned (OpenSpec.upto fnExactWidowsOfSpec)

/-- 'laws.FnExactLeadsFor', WHERE WHAT IT READS IS OF BULK AT MOST 1048576: true; the input reads as it did. -/
def fnExactLeadsForUptoRow : OpenClaim := { program := "ytblecbdkpjmfeaa", sum := "753373caf24266c591103e2ea6bc78bd4102dbfef8619fdc6db7f075c36ac8c2", func := "loop.example/g01054/laws.FnExactLeadsFor", spec := "fnExactLeadsFor", apart := false, narrowed := true }
def FnExactLeadsForUptoSaid : Prop := fnExactLeadsForUptoRow.holds Try.pinned (OpenSpec.upto fnExactLeadsForSpec)

/-- 'laws.FnExactPageFill', WHERE WHAT IT READS IS OF BULK AT MOST 1048576: true; the input reads as it did. -/
def fnExactPageFillUptoRow : OpenClaim := { program := "ytblecbdkpjmfeaa", sum := "753373caf24266c591103e2ea6bc78bd4102dbfef8619fdc6db7f075c36ac8c2", func := "loop.example/g01054/laws.FnExactPageFill", spec := "fnExactPageFill", apart := false, narrowed := true }
def FnExactPageFillUptoSaid : Prop := fnExactPageFillUptoRow.holds Try.pinned (OpenSpec.upto fnExactPageFillSpec)

/-- 'laws.FnExactNotesOnPages', WHERE WHAT IT READS IS OF BULK AT MOST 1048576: true; the input reads as it did. -/
def fnExactNotesOnPagesUptoRow : OpenClaim := { program := "ytblecbdkpjmfeaa", sum := "753373caf24266c591103e2ea6bc78bd4102dbfef8619fdc6db7f075c36ac8c2", func := "loop.example/g01054/laws.FnExactNotesOnPages", spec := "fnExactNotesOnPages", apart := false, narrowed := true }
def FnExactNotesOnPagesUptoSaid : Prop := fnExactNotesOnPagesUptoRow.holds Try.pinned (OpenSpec.upto fnExactNotesOnPagesSpec)

/-- 'laws.FnExactPageDepths', WHERE WHAT IT READS IS OF BULK AT MOST 1048576: true; the input reads as it did. -/
def fnExactPageDepthsUptoRow : OpenClaim := { program := "ytblecbdkpjmfeaa", sum := "753373caf24266c591103e2ea6bc78bd4102dbfef8619fdc6db7f075c36ac8c2", func := "loop.example/g01054/laws.FnExactPageDepths", spec := "fnExactPageDepths", apart := false, narrowed := true }
def FnExactPageDepthsUptoSaid : Prop := fnExactPageDepthsUptoRow.holds Try.pinned (OpenSpec.upto fnExactPageDepthsSpec)

/-- 'laws.FnExactCleanPages', WHERE WHAT IT READS IS OF BULK AT MOST 1048576: true; the input reads as it did. -/
def fnExactCleanPagesUptoRow : OpenClaim := { program := "ytblecbdkpjmfeaa", sum := "753373caf24266c591103e2ea6bc78bd4102dbfef8619fdc6db7f075c36ac8c2", func := "loop.example/g01054/laws.FnExactCleanPages", spec := "fnExactCleanPages", apart := false, narrowed := true }
def FnExactCleanPagesUptoSaid : Prop := fnExactCleanPagesUptoRow.holds Try.pinned (OpenSpec.upto fnExactCleanPagesSpec)

end Rows
end Go.Proofs.Ytblecbdkpjmfeaa
