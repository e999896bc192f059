/- How an argument that is a slice of slices of int is opened. No program in sight. -/
import Derived.Test.YtnhddepmhelgiaaOpen
import Derived.Test.YtnhddepmhelgiaaNestL
namespace Go.Proofs.Ytnhddepmhelgiaa
open Go.ChangeShapes Go.WideShapes Go.ChangeAt Go.RowKit Go.Deep
section
variable {H : Type} {enc : TypeId × Value → H} {P : Program} {W : World}
theorem open_rows {t e i : TypeId} (ht : P.underlying t = some (.slice e)) (he : P.underlying e = some (.slice i)) (hi : P.underlying i = some (.int .i64)) (hCe : P.cellsOf e = 1) (hCi : P.cellsOf i = 1)
    {A : Option Addr} {len cap : Nat} {d : DataW H} {p : List MemPlace} (h : DataW.Trod enc P W 0 (fun _ => true) true t (.slice A len cap) d p) :
    ∃ ls : List (List Int), len = ls.length ∧ len ≤ cap ∧ cap ≤ maxLen ∧ RdAA W W.heap.size A ls ∧ ∀ l ∈ ls, l.length ≤ maxLen ∧ ∀ x ∈ l, InR x := by
  obtain ⟨fuel, hf⟩ := h
  rcases open_slice ht hf with ⟨hcs, _⟩ | ⟨a, len', cap', m, n, D, Pl, hcs, _, hl, hm, hmm, _, hcell⟩
  · simp [Value.cells] at hcs
    obtain ⟨rfl, rfl, rfl⟩ := hcs
    exact ⟨[], rfl, Nat.le_refl _, by simp [maxLen], ⟨[], rfl, ⟨Nat.le_refl _, fun h => absurd rfl h⟩, fun i r l hr => by simp at hr⟩, fun x hx => by simp at hx⟩
  · simp [Value.cells] at hcs
    obtain ⟨rfl, rfl, rfl⟩ := hcs
    simp at hmm
    subst hmm
    obtain ⟨xs, hxl, hxp⟩ := list_of_all (fun j (x : Row × List Int) => W.cell? (a.add j) = some (x.1.val x.2) ∧ RdA W 0 W.heap.size x.1.A (x.2.map (Value.int .i64)) ∧ x.2.length ≤ maxLen ∧ ∀ y ∈ x.2, InR y) len (fun j hj => by
      obtain ⟨cs', h1, h2⟩ := hcell j (by omega)
      rw [hCe, Nat.mul_one] at h1
      obtain ⟨_, h4, h3⟩ := World.cells?_some h1
      have h5 := h3 0 (by omega)
      rw [Go.Deep.add_add, Nat.add_zero] at h5
      have hsh : ∃ B n' c', cs' = [.slice B n' c'] := by
        rcases open_slice he h2 with ⟨q, _⟩ | ⟨_, _, _, _, _, _, _, q, _⟩
        · exact ⟨_, _, _, q⟩
        · exact ⟨_, _, _, q⟩
      obtain ⟨B, n', c', rfl⟩ := hsh
      obtain ⟨l, g1, g2, g3, g4, g5⟩ := open_intsQ (A := B) (len := n') (cap := c') he hi hCi ⟨_, by simpa [Value.cells] using h2⟩
      subst g1
      exact ⟨(⟨B, c', 0, 0⟩, l), by simpa [Row.val] using h5, g4, Nat.le_trans g2 g3, g5⟩)
    have hz : List.zipWith Row.val (xs.map (·.1)) (xs.map (·.2)) = xs.map fun x => x.1.val x.2 := by
      rw [List.zipWith_map]; simp [List.zipWith_self]
    refine ⟨xs.map (·.2), by simp [hxl], hl, hm, ⟨xs.map (·.1), by simp, ?_, fun j r l hr hl' => ?_⟩, fun l hl' => ?_⟩
    · rw [hz]
      refine ⟨Nat.le_refl _, fun hne => ?_⟩
      obtain ⟨x0, hx0⟩ : ∃ x, xs[0]? = some x := by
        cases xs with
        | nil => simp at hne
        | cons x xs => exact ⟨x, rfl⟩
      have hs := World.cell?_spot (hxp 0 x0 hx0).1
      have hb := World.block_lt_of_cell? W _ (hxp 0 x0 hx0).1
      obtain ⟨b, off, spot⟩ := a
      have hspot : spot = none := by simpa [Addr.add] using hs
      subst hspot
      refine ⟨b, off, rfl, Nat.zero_le _, by simpa [Addr.add] using hb, fun j u hu => ?_⟩
      rw [List.getElem?_map, Option.map_eq_some_iff] at hu
      obtain ⟨x, hx, rfl⟩ := hu
      have := (hxp j x hx).1
      rwa [Addr.add_lit] at this
    · rw [List.getElem?_map, Option.map_eq_some_iff] at hr hl'
      obtain ⟨x, hx, rfl⟩ := hr
      obtain ⟨y, hy, rfl⟩ := hl'
      have := hx.symm.trans hy; injection this with this; subst this
      exact (hxp j x hx).2.1
    · obtain ⟨x, hx, rfl⟩ := List.mem_map.1 hl'
      obtain ⟨j, hj⟩ := List.mem_iff_getElem?.1 hx
      exact (hxp j x hj).2.2
end
end Go.Proofs.Ytnhddepmhelgiaa
