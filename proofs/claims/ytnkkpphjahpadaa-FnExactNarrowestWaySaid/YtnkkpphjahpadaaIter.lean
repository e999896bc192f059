/- A text's iterator. No program in sight. -/
import Derived.Test.YtnkkpphjahpadaaApp
import Derived.Laws.RangeString
import Derived.Laws.DeepStrings4
import Derived.Deep.LoopGhost
namespace Go.Proofs.Ytnkkpphjahpadaa
open Go.RowKit
set_option linter.unusedVariables false
/-- One step of an iterator over a text, wherever it lies. -/
theorem next_at {w : World} {g pos : Nat} {s : ByteArray} (h : w.heap[g]? = some (.stringIter s pos)) (hp : pos < s.size) (ha : (s[pos]'hp).toNat < 128) :
    ∃ w', (∀ (P : Program) ty, (Instr.next (.pointer (some ⟨g, 0, none⟩)) true ty).run P w = .ok (.tuple #[.bool true, .int .i64 pos, .int .i32 (s[pos]'hp).toNat]) w') ∧
      w'.heap[g]? = some (.stringIter s (pos + 1)) ∧ w'.heap.size = w.heap.size ∧ (∀ k, k ≠ g → w'.heap[k]? = w.heap[k]?) ∧ w'.os = w.os ∧ w'.tape = w.tape ∧ w'.output = w.output := by
  have hg : g < w.heap.size := (Array.getElem?_eq_some_iff.1 h).1
  refine ⟨{ w with heap := w.heap.setIfInBounds g (.stringIter s (pos + 1)) }, fun P ty => ?_, ?_, ?_, ?_, rfl, rfl, rfl⟩
  · simp only [Instr.next, getObj, setObj, Sem.run_bind, Sem.run, h, Result.andThen, hp, if_true, decode_ascii s pos hp ha]
    simp [goInt, Sem.run, h]
  · simp [hg]
  · simp
  · intro k hk
    rw [Array.getElem?_setIfInBounds, if_neg (fun e => hk e.symm)]
theorem iter_new (w : World) (s : ByteArray) : (w.iter s 0).heap[w.heap.size]? = some (.stringIter s 0) := World.iter_heap w s 0
theorem next_stop {w : World} {g pos : Nat} {s : ByteArray} (h : w.heap[g]? = some (.stringIter s pos)) (hp : ¬ pos < s.size) (P : Program) (ty : TypeId) :
    (Instr.next (.pointer (some ⟨g, 0, none⟩)) true ty).run P w = .ok (.tuple #[.bool false]) w := by
  simp [Instr.next, getObj, Sem.run, h, hp]
theorem Ext.iter {W w w' : World} {g : Nat} (h : Ext W w) (hg : W.heap.size ≤ g) (hs : w'.heap.size = w.heap.size) (hb : ∀ k, k ≠ g → w'.heap[k]? = w.heap[k]?) (h1 : w'.os = w.os) (h2 : w'.tape = w.tape) (h3 : w'.output = w.output) : Ext W w' :=
  Below.trans h ⟨h1, h2, h3, by omega, fun k hk => hb k (by have := h.size; omega)⟩
theorem out_iter {w w' : World} {g : Nat} (hs : w'.heap.size = w.heap.size) (hb : ∀ k, k ≠ g → w'.heap[k]? = w.heap[k]?) (h1 : w'.os = w.os) (h2 : w'.tape = w.tape) (h3 : w'.output = w.output) : Out g (g + 1) w w' :=
  ⟨h1, h2, h3, by omega, fun k _ hk => hb k (by omega)⟩
theorem Blk.iter {w w' : World} {g G : Nat} {t : TypeId} {cs : Array Value} (h : Blk w G t cs) (hg : G ≠ g) (hb : ∀ k, k ≠ g → w'.heap[k]? = w.heap[k]?) : Blk w' G t cs := (hb G hg).trans h
theorem iter_set {w : World} {g G j pos : Nat} {s : ByteArray} {u : Value} (h : w.heap[g]? = some (.stringIter s pos)) (hg : G ≠ g) : (w.setCell ⟨G, j, none⟩ u).heap[g]? = some (.stringIter s pos) :=
  (heap_setCell_other w ⟨G, j, none⟩ g u (fun e => hg e.symm)).trans h
theorem out_set (w : World) (G j : Nat) (u : Value) : Out G (G + 1) w (w.setCell ⟨G, j, none⟩ u) := Out.setCell (Out.refl G (G + 1) w) (p := ⟨G, j, none⟩) (.inl ⟨Nat.le_refl _, Nat.lt_succ_self _⟩) u
end Go.Proofs.Ytnkkpphjahpadaa
