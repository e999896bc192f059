/- The memory of the table of best breaks; the order of breaks. -/
import Derived.Test.YtmfoankgfiofdaaPbC
namespace Go.Proofs.Ytmfoankgfiofdaa
open Go.RowKit
set_option linter.unusedVariables false
/-- The cells of one way: is there one, its cost, its breaks, how many ways. -/
def owCost (o : OW) : Int := match o with | none => 0 | some x => x.1
def owList (o : OW) : List Int := match o with | none => [] | some x => x.2
theorem owCost_some (x : Int × List Int) : owCost (some x) = x.1 := rfl
theorem owList_some (x : Int × List Int) : owList (some x) = x.2 := rfl
/-- A block whose cells are ways: the breaks lie in blocks from lo on. -/
structure RowW (w : World) (g : Nat) (t : TypeId) (N lo : Nat) (F : Nat → OW × Int) : Prop where
  ex : ∃ cs : Array Value, Blk w g t cs ∧ cs.size = N * 4 ∧ ∀ i, i < N → cs[i * 4]? = some (.bool (F i).1.isSome) ∧ cs[i * 4 + 1]? = some (.int .i64 (owCost (F i).1)) ∧ cs[i * 4 + 3]? = some (.int .i64 (F i).2) ∧
    ∃ A c, cs[i * 4 + 2]? = some (.slice A (owList (F i).1).length c) ∧ (owList (F i).1).length ≤ c ∧ RdI w lo w.heap.size A (owList (F i).1)
section
variable {w w' : World} {g N lo : Nat} {t : TypeId} {F F' : Nat → OW × Int}
theorem RowW.ext (h : RowW w g t N lo F) (hE : Ext w w') : RowW w' g t N lo F := by
  obtain ⟨cs, hB, hs, hc⟩ := h.ex
  refine ⟨cs, hB.ext hE, hs, fun i hi => ?_⟩
  obtain ⟨h1, h2, h3, A, c, h4, h5, h6⟩ := hc i hi
  exact ⟨h1, h2, h3, A, c, h4, h5, Rd.wide (Rd.ext h6 hE) (Nat.le_refl _) hE.size (Nat.le_refl _)⟩
theorem RowW.congr (h : RowW w g t N lo F) (he : ∀ i, i < N → F' i = F i) : RowW w g t N lo F' := by
  obtain ⟨cs, hB, hs, hc⟩ := h.ex
  exact ⟨cs, hB, hs, fun i hi => by rw [he i hi]; exact hc i hi⟩
theorem RowW.lt (h : RowW w g t N lo F) : g < w.heap.size := by
  obtain ⟨cs, hB, _⟩ := h.ex
  exact hB.lt
/-- The cells of one way. -/
theorem RowW.get (h : RowW w g t N lo F) {i : Nat} (hi : i < N) : ∃ A c, w.cell? ⟨g, i * 4, none⟩ = some (.bool (F i).1.isSome) ∧ w.cell? ⟨g, i * 4 + 1, none⟩ = some (.int .i64 (owCost (F i).1)) ∧
    w.cell? ⟨g, i * 4 + 2, none⟩ = some (.slice A (owList (F i).1).length c) ∧ w.cell? ⟨g, i * 4 + 3, none⟩ = some (.int .i64 (F i).2) ∧ (owList (F i).1).length ≤ c ∧ RdI w lo w.heap.size A (owList (F i).1) := by
  obtain ⟨cs, hB, hs, hc⟩ := h.ex
  obtain ⟨h1, h2, h3, A, c, h4, h5, h6⟩ := hc i hi
  exact ⟨A, c, hB.cell h1, hB.cell h2, hB.cell h4, hB.cell h3, h5, h6⟩
theorem RowW.frozen (h : RowW w g t N lo F) (i : Nat) : w.frozen? ⟨g, i, none⟩ = false := by
  obtain ⟨cs, hB, _⟩ := h.ex
  exact hB.frozen i
/-- A store elsewhere, below the breaks. -/
theorem RowW.other (h : RowW w g t N lo F) {p : Addr} (hne : g ≠ p.block) (hlo : p.block < lo) (u : Value) : RowW (w.setCell p u) g t N lo F := by
  obtain ⟨cs, hB, hs, hc⟩ := h.ex
  have hz : (w.setCell p u).heap.size = w.heap.size := by simp [World.setCell]
  refine ⟨cs, (heap_setCell_other w p g u (fun e => hne e)).trans hB, hs, fun i hi => ?_⟩
  obtain ⟨h1, h2, h3, A, c, h4, h5, h6⟩ := hc i hi
  refine ⟨h1, h2, h3, A, c, h4, h5, ?_⟩
  rw [hz]
  exact h6.out (Out.setCell (lo := p.block) (hi := p.block + 1) (Out.refl _ _ _) (.inl ⟨Nat.le_refl _, Nat.lt_succ_self _⟩) _) (.inr (by omega))
/-- A way is stored in the row. -/
theorem RowW.set_ (h : RowW w g t N lo F) (hg : g < lo) {i : Nat} (hi : i < N) (X : OW × Int) {A : Option Addr} {c : Nat} (hc : (owList X.1).length ≤ c) (hr : RdI w lo w.heap.size A (owList X.1)) :
    RowW ((((w.setCell ⟨g, i * 4, none⟩ (.bool X.1.isSome)).setCell ⟨g, i * 4 + 1, none⟩ (.int .i64 (owCost X.1))).setCell ⟨g, i * 4 + 2, none⟩ (.slice A (owList X.1).length c)).setCell ⟨g, i * 4 + 3, none⟩ (.int .i64 X.2)) g t N lo (fun j => if j = i then X else F j) := by
  obtain ⟨cs, hB, hs, hcs⟩ := h.ex
  have hz : ∀ (w : World) (p : Addr) (u : Value), (w.setCell p u).heap.size = w.heap.size := fun w p u => by simp [World.setCell]
  have hO : Out g (g + 1) w ((((w.setCell ⟨g, i * 4, none⟩ (.bool X.1.isSome)).setCell ⟨g, i * 4 + 1, none⟩ (.int .i64 (owCost X.1))).setCell ⟨g, i * 4 + 2, none⟩ (.slice A (owList X.1).length c)).setCell ⟨g, i * 4 + 3, none⟩ (.int .i64 X.2)) := by
    have k : ∀ (a : World) (q : Nat) (u : Value), Out g (g + 1) w a → Out g (g + 1) w (a.setCell ⟨g, q, none⟩ u) := fun a q u h => h.setCell (p := ⟨g, q, none⟩) (.inl ⟨Nat.le_refl _, Nat.lt_succ_self _⟩) u
    exact k _ _ _ (k _ _ _ (k _ _ _ (k _ _ _ (Out.refl _ _ _))))
  refine ⟨_, (((hB.set_ (i * 4) _).set_ (i * 4 + 1) _).set_ (i * 4 + 2) _).set_ (i * 4 + 3) _, by simpa using hs, fun j hj => ?_⟩
  have hsz : w.heap.size = ((((w.setCell ⟨g, i * 4, none⟩ (.bool X.1.isSome)).setCell ⟨g, i * 4 + 1, none⟩ (.int .i64 (owCost X.1))).setCell ⟨g, i * 4 + 2, none⟩ (.slice A (owList X.1).length c)).setCell ⟨g, i * 4 + 3, none⟩ (.int .i64 X.2)).heap.size := by simp only [hz]
  by_cases e : j = i
  · subst e
    rw [if_pos rfl]
    refine ⟨?_, ?_, ?_, A, c, ?_, hc, ?_⟩
    · simp only [Array.getElem?_setIfInBounds, Array.size_setIfInBounds]
      rw [if_neg (by omega), if_neg (by omega), if_neg (by omega), if_true, if_pos (by omega)]
    · simp only [Array.getElem?_setIfInBounds, Array.size_setIfInBounds]
      rw [if_neg (by omega), if_neg (by omega), if_true, if_pos (by omega)]
    · simp only [Array.getElem?_setIfInBounds, Array.size_setIfInBounds]
      rw [if_true, if_pos (by omega)]
    · simp only [Array.getElem?_setIfInBounds, Array.size_setIfInBounds]
      rw [if_neg (by omega), if_true, if_pos (by omega)]
    · rw [← hsz]; exact hr.out hO (.inr (by omega))
  · rw [if_neg e]
    obtain ⟨h1, h2, h3, A', c', h4, h5, h6⟩ := hcs j hj
    refine ⟨?_, ?_, ?_, A', c', ?_, h5, ?_⟩
    · simp only [Array.getElem?_setIfInBounds]
      rw [if_neg (by omega), if_neg (by omega), if_neg (by omega), if_neg (by omega)]; exact h1
    · simp only [Array.getElem?_setIfInBounds]
      rw [if_neg (by omega), if_neg (by omega), if_neg (by omega), if_neg (by omega)]; exact h2
    · simp only [Array.getElem?_setIfInBounds]
      rw [if_neg (by omega), if_neg (by omega), if_neg (by omega), if_neg (by omega)]; exact h3
    · simp only [Array.getElem?_setIfInBounds]
      rw [if_neg (by omega), if_neg (by omega), if_neg (by omega), if_neg (by omega)]; exact h4
    · rw [← hsz]; exact h6.out hO (.inr (by omega))
end
/-- 'make([]paWay, n)'. -/
theorem make_ways {P : Program} (t e : TypeId) (ht : P.underlying t = some (.slice e)) (hinfo : (P.info? e).map (fun i => (i.zero, i.size, i.bytes)) = some (some (.agg #[.bool false, .int .i64 0, .slice none 0 0, .int .i64 0]), 4, 48)) (n : Nat) (hn : n ≤ 1000) :
    ∃ cs : Array Value, (∀ w, (Instr.makeSlice t (.int .i64 (n : Int)) (.int .i64 (n : Int))).run P w = .ok (.slice (some ⟨w.heap.size, 0, none⟩) n n) (w.alloc (.cells cs e))) ∧ ∀ (w w' : World) (lo : Nat), Ext (w.alloc (.cells cs e)) w' → RowW w' w.heap.size e n lo (fun _ => (none, 0)) := by
  obtain ⟨i, hi, hz, hs, hby⟩ := info_of hinfo
  refine ⟨madeCells (Value.agg #[.bool false, .int .i64 0, .slice none 0 0, .int .i64 0]).cells (n * i.size), fun w => run_make_rowN t e i _ ht hi hz n n (Nat.le_refl _) (by rw [hby]; omega) (by omega) w, fun w w' lo hE => ?_⟩
  rw [hs] at hE
  refine ⟨_, (Blk.new _ _ _).ext hE, size_madeCells _ _, fun j hj => ?_⟩
  have key : ∀ q, q < 4 → (madeCells (Value.agg #[.bool false, .int .i64 0, .slice none 0 0, .int .i64 0]).cells (n * 4))[j * 4 + q]? = (#[Value.bool false, .int .i64 0, .slice none 0 0, .int .i64 0] : Array Value)[q]? := by
    intro q hq
    have hz4 : (Value.agg #[.bool false, .int .i64 0, .slice none 0 0, .int .i64 0]).cells = #[Value.bool false, .int .i64 0, .slice none 0 0, .int .i64 0] := rfl
    rw [hz4]
    unfold madeCells
    rw [Array.getElem?_map, Array.getElem?_range]
    have h4 : (j * 4 + q) % 4 = q := by omega
    rcases (by omega : q = 0 ∨ q = 1 ∨ q = 2 ∨ q = 3) with rfl | rfl | rfl | rfl <;> simp [h4] <;> omega
  refine ⟨key 0 (by omega), key 1 (by omega), key 3 (by omega), none, 0, key 2 (by omega), Nat.le_refl _, Rd.nil (Nat.le_refl _)⟩
end Go.Proofs.Ytmfoankgfiofdaa
