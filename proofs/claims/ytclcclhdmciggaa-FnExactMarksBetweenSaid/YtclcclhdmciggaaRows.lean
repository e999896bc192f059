/-
  No cell of these rows narrows 'for every input' (looked for: loops, veiled, ifaces, maps, wideKeys, modest, calm, conditions, laid).
  DERIVED. THE GIVEN ROWS OF THIS SEAT. 5 by the template 'for every input the law returns true; each argument reads behind the call as it read before'; 0 by the template 'total and deterministic' (their statements: YtclcclhdmciggaaTotals.lean).
  GIVEN WITH THE SEED: the statements are not yours to turn. If you find one false, say at which input.
  Laid BY PROGRAM, IN A SANDBOX (cutbox-rows.mjs): the forced cells as the released guide's own fill.sh prints them over the translation a22609e73ce55212… (all of the seat's roots in one cut). By AI agents, Wed Nov 11 2026. No macro, syntax, notation, axiom, sorry.
-/
import Derived.Test.YtclcclhdmciggaaChecked
import GoSem.Claim
import GoSem.ClaimJoined
import GoSem.ClaimMapViews
import Derived.JoinedTies
import Derived.KernelRfl
namespace Go.Proofs.Ytclcclhdmciggaa
/- THE CELL 'sum', in the pinned program and in every row, IS THE sha256 OF THE DUMP (.gsa) THAT YtclcclhdmciggaaProg.lean LOADS. Nothing in Lean hashes anything: it is a label: what it is worth is what the hold of that sum in a sandbox is worth. -/
noncomputable def Try.pinned : Pinned := { name := "ytclcclhdmciggaa", sum := "a22609e73ce552126685546b40a429c9261054fcbf94db1050015c388a1919ac", checked := Try.checked }
namespace Rows
def none {H : Type} : Left H := { results := [], args := [] }

/-- 'laws.FnExactAddMark': WHATEVER THE INPUT: true; the input reads as it did. -/
def fnExactAddMarkSpec : ChangeSpec := { name := "fnExactAddMark", fn := fun _ => fun
  | [d1, d2, d3] => { results := [.lit (.bool true)], args := [d1, d2, d3] }
  | _ => none }
def fnExactAddMarkRow : OpenClaim := { program := "ytclcclhdmciggaa", sum := "a22609e73ce552126685546b40a429c9261054fcbf94db1050015c388a1919ac", func := "loop.example/g01054/laws.FnExactAddMark", spec := "fnExactAddMark", apart := false }
def FnExactAddMarkSaid : Prop := fnExactAddMarkRow.holds Try.pinned (OpenSpec.ofChange fnExactAddMarkSpec)

/-- ITS FALSE NEIGHBOUR: 'it returns false'. Refute it at one input. -/
def fnExactAddMarkWrong : ChangeSpec := { name := "fnExactAddMark", fn := fun _ => fun
  | [d1, d2, d3] => { results := [.lit (.bool false)], args := [d1, d2, d3] }
  | _ => none }
def FnExactAddMarkWrongFalsely : Prop := fnExactAddMarkRow.holds Try.pinned (OpenSpec.ofChange fnExactAddMarkWrong)

/-- 'laws.FnExactAreMarks': WHATEVER THE INPUT: true; the input reads as it did. -/
def fnExactAreMarksSpec : ChangeSpec := { name := "fnExactAreMarks", fn := fun _ => fun
  | [d1, d2] => { results := [.lit (.bool true)], args := [d1, d2] }
  | _ => none }
def fnExactAreMarksRow : OpenClaim := { program := "ytclcclhdmciggaa", sum := "a22609e73ce552126685546b40a429c9261054fcbf94db1050015c388a1919ac", func := "loop.example/g01054/laws.FnExactAreMarks", spec := "fnExactAreMarks", apart := false }
def FnExactAreMarksSaid : Prop := fnExactAreMarksRow.holds Try.pinned (OpenSpec.ofChange fnExactAreMarksSpec)

/-- ITS FALSE NEIGHBOUR: 'it returns false'. Refute it at one input. -/
def fnExactAreMarksWrong : ChangeSpec := { name := "fnExactAreMarks", fn := fun _ => fun
  | [d1, d2] => { results := [.lit (.bool false)], args := [d1, d2] }
  | _ => none }
def FnExactAreMarksWrongFalsely : Prop := fnExactAreMarksRow.holds Try.pinned (OpenSpec.ofChange fnExactAreMarksWrong)

/-- 'laws.FnExactIsProof': WHATEVER THE INPUT: true; the input reads as it did. -/
def fnExactIsProofSpec : ChangeSpec := { name := "fnExactIsProof", fn := fun _ => fun
  | [d] => { results := [.lit (.bool true)], args := [d] }
  | _ => none }
def fnExactIsProofRow : OpenClaim := { program := "ytclcclhdmciggaa", sum := "a22609e73ce552126685546b40a429c9261054fcbf94db1050015c388a1919ac", func := "loop.example/g01054/laws.FnExactIsProof", spec := "fnExactIsProof", apart := false }
def FnExactIsProofSaid : Prop := fnExactIsProofRow.holds Try.pinned (OpenSpec.ofChange fnExactIsProofSpec)

/-- ITS FALSE NEIGHBOUR: 'it returns false'. Refute it at one input. -/
def fnExactIsProofWrong : ChangeSpec := { name := "fnExactIsProof", fn := fun _ => fun
  | [d] => { results := [.lit (.bool false)], args := [d] }
  | _ => none }
def FnExactIsProofWrongFalsely : Prop := fnExactIsProofRow.holds Try.pinned (OpenSpec.ofChange fnExactIsProofWrong)

/-- 'laws.FnExactMarkConflicts': WHATEVER THE INPUT: true; the input reads as it did. -/
def fnExactMarkConflictsSpec : ChangeSpec := { name := "fnExactMarkConflicts", fn := fun _ => fun
  | [d1, d2] => { results := [.lit (.bool true)], args := [d1, d2] }
  | _ => none }
def fnExactMarkConflictsRow : OpenClaim := { program := "ytclcclhdmciggaa", sum := "a22609e73ce552126685546b40a429c9261054fcbf94db1050015c388a1919ac", func := "loop.example/g01054/laws.FnExactMarkConflicts", spec := "fnExactMarkConflicts", apart := false }
def FnExactMarkConflictsSaid : Prop := fnExactMarkConflictsRow.holds Try.pinned (OpenSpec.ofChange fnExactMarkConflictsSpec)

/-- ITS FALSE NEIGHBOUR: 'it returns false'. Refute it at one input. -/
def fnExactMarkConflictsWrong : ChangeSpec := { name := "fnExactMarkConflicts", fn := fun _ => fun
  | [d1, d2] => { results := [.lit (.bool false)], args := [d1, d2] }
  | _ => none }
def FnExactMarkConflictsWrongFalsely : Prop := fnExactMarkConflictsRow.holds Try.pinned (OpenSpec.ofChange fnExactMarkConflictsWrong)

/-- 'laws.FnExactMarksBetween': WHATEVER THE INPUT: true; the input reads as it did. -/
def fnExactMarksBetweenSpec : ChangeSpec := { name := "fnExactMarksBetween", fn := fun _ => fun
  | [d1, d2] => { results := [.lit (.bool true)], args := [d1, d2] }
  | _ => none }
def fnExactMarksBetweenRow : OpenClaim := { program := "ytclcclhdmciggaa", sum := "a22609e73ce552126685546b40a429c9261054fcbf94db1050015c388a1919ac", func := "loop.example/g01054/laws.FnExactMarksBetween", spec := "fnExactMarksBetween", apart := false }
def FnExactMarksBetweenSaid : Prop := fnExactMarksBetweenRow.holds Try.pinned (OpenSpec.ofChange fnExactMarksBetweenSpec)

/-- ITS FALSE NEIGHBOUR: 'it returns false'. Refute it at one input. -/
def fnExactMarksBetweenWrong : ChangeSpec := { name := "fnExactMarksBetween", fn := fun _ => fun
  | [d1, d2] => { results := [.lit (.bool false)], args := [d1, d2] }
  | _ => none }
def FnExactMarksBetweenWrongFalsely : Prop := fnExactMarksBetweenRow.holds Try.pinned (OpenSpec.ofChange fnExactMarksBetweenWrong)

/- THE SECOND FORM. 'bulk': how many values and letters a reading holds, each counted each time it is reached (what is shared counts as often as it is met; a slice's spare places count too). A statement '..UptoSaid' is the law's where the arguments, and the package variables that the reading takes, are together of bulk at most 1048576: NARROWER than '..Said'. Prove '..Said' where nothing that the law and all that it calls make is longer than what came in: it says more and counts as full. Else prove '..UptoSaid'. A law counts once. -/
mutual
def uptoBulk {H : Type} : DataW H → Nat
  | .lit (.string bytes) => bytes.length + 1
  | .lit _ => 1
  | .nil => 1
  | .ptr d => uptoBulk d + 1
  | .slice elems spare => uptoBulkAll elems + uptoBulkAll spare + 1
  | .agg parts => uptoBulkAll parts + 1
  | .iface _ d => uptoBulk d + 1
  | .map entries => uptoBulkEntries entries + 1
  | .held _ => 1
def uptoBulkAll {H : Type} : List (DataW H) → Nat
  | [] => 0
  | d :: r => uptoBulk d + uptoBulkAll r
def uptoBulkEntries {H : Type} : List (Lit × DataW H) → Nat
  | [] => 0
  | x :: r => uptoBulkEntry x + uptoBulkEntries r
def uptoBulkEntry {H : Type} : Lit × DataW H → Nat
  | (.string bytes, d) => bytes.length + uptoBulk d + 1
  | (_, d) => uptoBulk d + 1
 end
def uptoSmall : (H : Type) → List (DataW H) → Bool := fun _ ds => decide (uptoBulkAll ds ≤ 1048576)
def OpenSpec.upto (s : _root_.Go.ChangeSpec) : _root_.Go.OpenSpec := { _root_.Go.OpenSpec.ofChange s with cond := some uptoSmall }

/-- 'laws.FnExactAddMark', WHERE WHAT IT READS IS OF BULK AT MOST 1048576: true; the input reads as it did. -/
def fnExactAddMarkUptoRow : OpenClaim := { program := "ytclcclhdmciggaa", sum := "a22609e73ce552126685546b40a429c9261054fcbf94db1050015c388a1919ac", func := "loop.example/g01054/laws.FnExactAddMark", spec := "fnExactAddMark", apart := false, narrowed := true }
def FnExactAddMarkUptoSaid : Prop := fnExactAddMarkUptoRow.holds Try.pinned (OpenSpec.upto fnExactAddMarkSpec)

/-- 'laws.FnExactAreMarks', WHERE WHAT IT READS IS OF BULK AT MOST 1048576: true; the input reads as it did. -/
def fnExactAreMarksUptoRow : OpenClaim := { program := "ytclcclhdmciggaa", sum := "a22609e73ce552126685546b40a429c9261054fcbf94db1050015c388a1919ac", func := "loop.example/g01054/laws.FnExactAreMarks", spec := "fnExactAreMarks", apart := false, narrowed := true }
def FnExactAreMarksUptoSaid : Prop := fnExactAreMarksUptoRow.holds Try.pinned (OpenSpec.upto fnExactAreMarksSpec)

/-- 'laws.FnExactIsProof', WHERE WHAT IT READS IS OF BULK AT MOST 1048576: true; the input reads as it did. -/
def fnExactIsProofUptoRow : OpenClaim := { program := "ytclcclhdmciggaa", sum := "a22609e73ce552126685546b40a429c9261054fcbf94db1050015c388a1919ac", func := "loop.example/g01054/laws.FnExactIsProof", spec := "fnExactIsProof", apart := false, narrowed := true }
def FnExactIsProofUptoSaid : Prop := fnExactIsProofUptoRow.holds Try.pinned (OpenSpec.upto fnExactIsProofSpec)

/-- 'laws.FnExactMarkConflicts', WHERE WHAT IT READS IS OF BULK AT MOST 1048576: true; the input reads as it did. -/
def fnExactMarkConflictsUptoRow : OpenClaim := { program := "ytclcclhdmciggaa", sum := "a22609e73ce552126685546b40a429c9261054fcbf94db1050015c388a1919ac", func := "loop.example/g01054/laws.FnExactMarkConflicts", spec := "fnExactMarkConflicts", apart := false, narrowed := true }
def FnExactMarkConflictsUptoSaid : Prop := fnExactMarkConflictsUptoRow.holds Try.pinned (OpenSpec.upto fnExactMarkConflictsSpec)

/-- 'laws.FnExactMarksBetween', WHERE WHAT IT READS IS OF BULK AT MOST 1048576: true; the input reads as it did. -/
def fnExactMarksBetweenUptoRow : OpenClaim := { program := "ytclcclhdmciggaa", sum := "a22609e73ce552126685546b40a429c9261054fcbf94db1050015c388a1919ac", func := "loop.example/g01054/laws.FnExactMarksBetween", spec := "fnExactMarksBetween", apart := false, narrowed := true }
def FnExactMarksBetweenUptoSaid : Prop := fnExactMarksBetweenUptoRow.holds Try.pinned (OpenSpec.upto fnExactMarksBetweenSpec)

end Rows
end Go.Proofs.Ytclcclhdmciggaa
