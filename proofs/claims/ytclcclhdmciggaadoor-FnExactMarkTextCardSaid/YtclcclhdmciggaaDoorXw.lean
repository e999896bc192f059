/- A region that draws its order, whose operations only read and whose callees only make memory: one walk serves every order. No program in sight. -/
import Derived.Test.YtclcclhdmciggaaDoorMem
import Derived.Deep.QuietTactic
import Derived.BigQuiet
namespace Go.Proofs.YtclcclhdmciggaaDoor
open Go.RowKit
set_option linter.unusedVariables false
/-- A world that is w0 with more blocks. -/
structure XW (w0 : World) where
  v : World
  h : Ext w0 v
instance (w0 : World) : Nonempty (XW w0) := ⟨⟨w0, Ext.refl w0⟩⟩
theorem XW.call {P : Program} {f : FuncId} {args : Array Value} {w0 : World} {x : XW w0} {u : Value} (h : Calls P f args x.v fun e w' => e = .returned u ∧ Ext x.v w') :
    Calls P f args x.v fun e w'' => e = .returned u ∧ ∃ y : XW w0, w'' = y.v := h.mono fun _ w' ⟨he, hE⟩ => ⟨he, ⟨w', x.h.trans hE⟩, rfl⟩
theorem XW.same {P : Program} {f : FuncId} {args : Array Value} {w0 : World} {x : XW w0} {u : Value} (h : Calls P f args x.v fun e w' => e = .returned u ∧ x.v = w') :
    Calls P f args x.v fun e w'' => e = .returned u ∧ ∃ y : XW w0, w'' = y.v := h.mono fun _ w' ⟨he, hE⟩ => ⟨he, x, hE.symm⟩
theorem wp_region_xw {P : Program} {id : Nat} {Q : Exit → Act → World → Prop} {a : Act} {w w0 : World} {l : List Oper} (hm : P.follows .mixedOrders = true) (hB : Region.lexB .any l.toArray = true) (hE : Ext w0 w)
    (h : wpQuiet P l.toArray (fun w' => ∃ x : XW w0, w' = x.v) (fun a' => ∀ w', (∃ x : XW w0, w' = x.v) → Q .normal a' w') l a) : (Code.region id l.toArray true).wp P Q a w :=
  wp_region_quiet (C := fun w' => ∃ x : XW w0, w' = x.v) hm hB ⟨⟨_, hE.trans (Ext.drew w)⟩, rfl⟩ (by simpa using h)
end Go.Proofs.YtclcclhdmciggaaDoor
