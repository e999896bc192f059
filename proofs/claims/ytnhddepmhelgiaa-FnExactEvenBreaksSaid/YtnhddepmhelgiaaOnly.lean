/- What a call leaves alone, block by block. No program in sight. -/
import Derived.Test.YtnhddepmhelgiaaApp
namespace Go.Proofs.Ytnhddepmhelgiaa
open Go.RowKit
set_option linter.unusedVariables false
/-- Of the blocks that there were only those of S are changed. -/
structure Only (S : Nat → Prop) (w w' : World) : Prop where
  os : w'.os = w.os
  tape : w'.tape = w.tape
  output : w'.output = w.output
  size : w.heap.size ≤ w'.heap.size
  block : ∀ k, k < w.heap.size → ¬ S k → w'.heap[k]? = w.heap[k]?
section
variable {S : Nat → Prop} {a b c w w' : World}
theorem Only.of_ext (h : Ext w w') : Only S w w' := ⟨Below.os h, Below.tape h, Below.output h, Below.size h, fun k hk _ => Below.block h k hk⟩
theorem Only.refl (w : World) : Only S w w := Only.of_ext (Ext.refl w)
theorem Only.trans (h : Only S a b) (k : Only S b c) : Only S a c :=
  ⟨k.os.trans h.os, k.tape.trans h.tape, k.output.trans h.output, Nat.le_trans h.size k.size, fun i hi hs => (k.block i (Nat.lt_of_lt_of_le hi h.size) hs).trans (h.block i hi hs)⟩
theorem Only.setCell (h : Only S a w) {p : Addr} (hp : S p.block) (u : Value) : Only S a (w.setCell p u) :=
  ⟨h.os, h.tape, h.output, by simpa [World.setCell] using h.size, fun k hk hs => (Below.heap_setCell _ _ _ _ (fun e => hs (by rw [e]; exact hp))).trans (h.block k hk hs)⟩
theorem Only.ext (h : Only S w w') (ha : Ext a w) (hS : ∀ k, S k → a.heap.size ≤ k) : Ext a w' :=
  Below.trans ha ⟨h.os, h.tape, h.output, h.size, fun k hk => h.block k (by have := Below.size ha; omega) (fun hs => by have := hS k hs; omega)⟩
theorem Only.cell (h : Only S w w') {p : Addr} {v : Value} (hc : w.cell? p = some v) (hp : ¬ S p.block) : w'.cell? p = some v :=
  (World.cell?_of_block (h.block p.block (World.block_lt_of_cell? w p hc) hp)).trans hc
theorem Only.blk (h : Only S w w') {g : Nat} {t : TypeId} {cs : Array Value} (hb : Blk w g t cs) (hg : ¬ S g) : Blk w' g t cs := (h.block g hb.lt hg).trans hb
theorem Only.rd (h : Only S w w') {lo hi : Nat} {A : Option Addr} {xs : List Value} (hr : Rd w lo hi A xs) (hS : ∀ k, lo ≤ k → k < hi → ¬ S k) : Rd w' lo hi A xs :=
  hr.keep (Nat.le_trans hr.1 h.size) fun k h1 h2 => h.block k (Nat.lt_of_lt_of_le h2 hr.1) (hS k h1 h2)
end
end Go.Proofs.Ytnhddepmhelgiaa
