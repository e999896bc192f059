/- What an append onto a row of the call's own leaves alone. No program in sight. -/
import Derived.Test.YtnhddepmhelgiaaApp
namespace Go.Proofs.Ytnhddepmhelgiaa
open Go.RowKit
set_option linter.unusedVariables false
/-- The row's block does not lie among lo .. hi-1. -/
def Apart (v : Value) (lo hi : Nat) : Prop := ∀ g, v.ownBlock = some g → g < lo ∨ hi ≤ g
theorem Apart.nil (lo hi : Nat) : Apart (.slice none 0 0) lo hi := fun g h => by simp [Value.ownBlock] at h
theorem Apart.at_ {b n c lo hi : Nat} (h : b < lo ∨ hi ≤ b) : Apart (.slice (some ⟨b, 0, none⟩) n c) lo hi := fun g hg => by
  have : b = g := by simpa [Value.ownBlock] using hg
  omega
theorem Apart.next {v v' : Value} {lo hi H : Nat} (h : Apart v lo hi) (hat : v'.ownBlock = v.ownBlock ∨ v'.ownBlock = some H) (hH : hi ≤ H) : Apart v' lo hi := fun g hg => by
  rcases hat with e | e
  · exact h g (by rw [← e]; exact hg)
  · rw [e] at hg; injection hg with hg; omega
theorem Rd.grown {w w' : World} {lo hi : Nat} {A : Option Addr} {xs : List Value} {v : Value} (h : Rd w lo hi A xs) (hg : w.grownBy w' v.ownBlock) (ha : Apart v lo hi) : Rd w' lo hi A xs :=
  h.keep (Nat.le_trans h.1 hg.size) fun k h1 h2 => hg.block k (by have := h.1; omega) (fun e => by have := ha k e.symm; omega)
/-- Behind 'append(v, x)', where x lies in a block of its own first. -/
theorem Rd.app {w w' : World} {lo hi : Nat} {A : Option Addr} {xs : List Value} {v : Value} {o : Obj} (h : Rd w lo hi A xs) (hg : (w.alloc o).grownBy w' v.ownBlock) (ha : Apart v lo hi) : Rd w' lo hi A xs :=
  (h.ext (Ext.alloc w o)).grown hg ha
theorem Apart.app {v v' : Value} {lo hi : Nat} {w : World} {o : Obj} {A : Option Addr} {xs : List Value} (h : Apart v lo hi) (hr : Rd w lo hi A xs) (hat : v'.ownBlock = v.ownBlock ∨ v'.ownBlock = some (w.alloc o).heap.size) : Apart v' lo hi :=
  h.next hat (by have := hr.1; simp; omega)
end Go.Proofs.Ytnhddepmhelgiaa
