/-
  DERIVED. GIVEN WITH THE SEED: THE CARDS: each row of YtblecbdkpjmfeaaDoorRows.lean that lists a variable, with what it lists TIED to the program's text (the seventh form; the later family's looks); each row that meets fmt, with fmt's text TOLD by the authors' own Lean function (tested against real Go, not proved from fmt's source: count such statements apart). THE CARD IS WHAT COUNTS. Prove the row's statement (the work); the ties are given (YtblecbdkpjmfeaaDoorTie.lean); close each card by the builder's one call (the guide's Derived/Test/ToyasCard.lean, 'card_holds'). Laid BY PROGRAM, IN A SANDBOX (cutbox-door.mjs). By AI agents, Wed Nov 11 2026. No macro, syntax, notation, axiom, sorry.
-/
import Derived.Test.YtblecbdkpjmfeaaDoorRows
import GoSem.ClaimSeven
namespace Go.Proofs.YtblecbdkpjmfeaaDoor
namespace Rows

/-- THE TIED CARD OF 'laws.FnExactGalleyText'. -/
def fnExactGalleyTextCard : Claim7 := { stood := { row := fnExactGalleyTextRow, standIns := [], harness := (true, "f6d5480b170f227db73d0bd260e6ccb317b6397a8135e8f62277ea5b82b8a3e6"), looks := false }, kinds := [], alts := [], laidByText := true, laidKinds := [.data, .data, .data], laidTests := true, laidLooks := .later }
def FnExactGalleyTextCardSaid : Prop := Claim7.holds Tryd.pinned (.plain (OpenSpec.ofChange fnExactGalleyTextSpec)) fnExactGalleyTextCard

/-- THE SECOND FORM's CARD OF 'laws.FnExactGalleyText'. -/
def fnExactGalleyTextUptoCard : Claim7 := { stood := { row := fnExactGalleyTextUptoRow, standIns := [], harness := (true, "f6d5480b170f227db73d0bd260e6ccb317b6397a8135e8f62277ea5b82b8a3e6"), looks := false }, kinds := [], alts := [], laidByText := true, laidKinds := [.data, .data, .data], laidTests := true, laidLooks := .later }
def FnExactGalleyTextUptoCardSaid : Prop := Claim7.holds Tryd.pinned (.plain (OpenSpec.upto fnExactGalleyTextSpec)) fnExactGalleyTextUptoCard
end Rows
end Go.Proofs.YtblecbdkpjmfeaaDoor
