/- A block of ints that a call makes and fills. No program in sight. -/
import Derived.Test.YtnhddepmhelgiaaApp
namespace Go.Proofs.Ytnhddepmhelgiaa
open Go.RowKit
set_option linter.unusedVariables false
/-- The block's cells are the numbers f 0 .. f (N - 1). -/
def FillI (cur : Array Value) (N : Nat) (f : Nat → Int) : Prop := cur.size = N ∧ ∀ i, i < N → cur[i]? = some (.int .i64 (f i))
theorem FillI.congr {cur : Array Value} {N : Nat} {f g : Nat → Int} (h : FillI cur N f) (he : ∀ i, i < N → g i = f i) : FillI cur N g := ⟨h.1, fun i hi => by rw [he i hi]; exact h.2 i hi⟩
theorem FillI.set_ {cur : Array Value} {N : Nat} {f : Nat → Int} (h : FillI cur N f) (k : Nat) (v : Int) : FillI (cur.setIfInBounds k (.int .i64 v)) N (fun i => if i = k then v else f i) := by
  refine ⟨by simpa using h.1, fun i hi => ?_⟩
  rw [Array.getElem?_setIfInBounds]
  by_cases e : k = i
  · subst e; rw [if_pos rfl, if_pos (by rw [h.1]; exact hi)]; simp
  · have e' : ¬ i = k := fun h => e h.symm
    rw [if_neg e, h.2 i hi]; simp [e']
theorem FillI.cell {w : World} {g : Nat} {t : TypeId} {cur : Array Value} {N : Nat} {f : Nat → Int} (h : FillI cur N f) (hB : Blk w g t cur) {k : Nat} (hk : k < N) : w.cell? ⟨g, k, none⟩ = some (.int .i64 (f k)) ∧ w.frozen? ⟨g, k, none⟩ = false := ⟨hB.cell (h.2 k hk), hB.frozen k⟩
theorem FillI.rd {w : World} {g : Nat} {t : TypeId} {cur : Array Value} {N lo : Nat} {f : Nat → Int} {l : List Int} (h : FillI cur N f) (hB : Blk w g t cur) (hlo : lo ≤ g) (hl : l.length = N) (he : ∀ i, i < N → l[i]? = some (f i)) : RdI w lo w.heap.size (some ⟨g, 0, none⟩) l := by
  refine hB.rd hlo fun j u hu => ?_
  rw [List.getElem?_map, Option.map_eq_some_iff] at hu
  obtain ⟨a, ha, rfl⟩ := hu
  have hj : j < N := by have := (List.getElem?_eq_some_iff.1 ha).1; omega
  rw [he j hj] at ha
  injection ha with ha
  rw [h.2 j hj, ha]
/-- 'make([]int, n)'. -/
theorem make_ints {P : Program} (t e : TypeId) (ht : P.underlying t = some (.slice e)) (hinfo : (P.info? e).map (fun i => (i.zero, i.size, i.bytes)) = some (some (.int .i64 0), 1, 8)) (n : Nat) (hn : n ≤ 4000000) :
    ∃ cs : Array Value, (∀ w, (Instr.makeSlice t (.int .i64 (n : Int)) (.int .i64 (n : Int))).run P w = .ok (.slice (some ⟨w.heap.size, 0, none⟩) n n) (w.alloc (.cells cs e))) ∧ FillI cs n (fun _ => 0) := by
  obtain ⟨i, hi, hz, hs, hb⟩ := info_of hinfo
  refine ⟨madeCells (Value.int .i64 0).cells (n * i.size), fun w => run_make_rowN t e i _ ht hi hz n n (Nat.le_refl _) (by rw [hb]; omega) (by omega) w, ?_⟩
  rw [hs, Nat.mul_one]
  refine ⟨size_madeCells _ _, fun j hj => ?_⟩
  have : (madeCells #[Value.int .i64 0] n).toList = List.replicate n (.int .i64 0) := toList_madeCells_one _ _
  show (madeCells #[Value.int .i64 0] n)[j]? = _
  rw [← Array.getElem?_toList, this, List.getElem?_replicate, if_pos hj]
end Go.Proofs.Ytnhddepmhelgiaa
