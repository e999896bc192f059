/- Plain: how long the same numbers follow each other. -/
import Derived.Test.YtllgjgoimnimaaaNestS
namespace Go.Proofs.Ytllgjgoimnimaaa
open Go.RowKit
set_option linter.unusedVariables false
/-- The runs of the first k numbers: how often, and which. -/
def rnTo (xs : List Int) : Nat → List (Int × Int)
  | 0 => []
  | k + 1 => if 0 < k ∧ xs[k - 1]?.getD 0 = xs[k]?.getD 0 then (rnTo xs k).set ((rnTo xs k).length - 1) (((rnTo xs k).getLast?.getD (0, 0)).1 + 1, xs[k]?.getD 0) else rnTo xs k ++ [(1, xs[k]?.getD 0)]
theorem rnTo_prop (xs : List Int) (k : Nat) : (rnTo xs k).length ≤ k ∧ (0 < k → ∃ c : Int, 1 ≤ c ∧ c ≤ k ∧ 0 < (rnTo xs k).length ∧ (rnTo xs k)[(rnTo xs k).length - 1]? = some (c, xs[k - 1]?.getD 0)) := by
  induction k with
  | zero => simp [rnTo]
  | succ k ih =>
    obtain ⟨ih1, ih2⟩ := ih
    rw [rnTo]
    split
    · rename_i h
      obtain ⟨c, c1, c2, c3, c4⟩ := ih2 h.1
      refine ⟨by rw [List.length_set]; omega, fun _ => ⟨c + 1, by omega, by omega, by rw [List.length_set]; exact c3, ?_⟩⟩
      rw [List.length_set, List.getElem?_set_self (by omega), List.getLast?_eq_getElem?, c4]
      rfl
    · refine ⟨by simp; omega, fun _ => ⟨1, by omega, by omega, by simp, ?_⟩⟩
      rw [List.length_append]; simp
def runL (xs : List Int) (k : Nat) : List (List Int) := (rnTo xs k).map fun p => [p.1, p.2]
theorem runL_len (xs : List Int) (k : Nat) : (runL xs k).length ≤ k := by rw [runL, List.length_map]; exact (rnTo_prop xs k).1
/-- The last run. -/
theorem runL_last (xs : List Int) {k : Nat} (hk : 0 < k) : ∃ c : Int, 1 ≤ c ∧ c ≤ k ∧ 0 < (runL xs k).length ∧ (runL xs k)[(runL xs k).length - 1]? = some [c, xs[k - 1]?.getD 0] := by
  obtain ⟨c, c1, c2, c3, c4⟩ := (rnTo_prop xs k).2 hk
  refine ⟨c, c1, c2, by rw [runL, List.length_map]; exact c3, ?_⟩
  rw [runL, List.length_map, List.getElem?_map, c4]; rfl
theorem runL_same {xs : List Int} {k : Nat} {x c : Int} (hk : 0 < k) (hx : xs[k]? = some x) (he : xs[k - 1]?.getD 0 = x) (hc : (runL xs k)[(runL xs k).length - 1]? = some [c, x]) : runL xs (k + 1) = (runL xs k).set ((runL xs k).length - 1) [c + 1, x] := by
  obtain ⟨c', _, _, _, c4⟩ := (rnTo_prop xs k).2 hk
  have hcc : c' = c := by
    rw [runL, List.length_map, List.getElem?_map, c4] at hc
    simpa using (by simpa using hc : c' = c ∧ _).1
  subst hcc
  rw [runL, rnTo, if_pos ⟨hk, by rw [he, hx]; rfl⟩, List.map_set, List.getLast?_eq_getElem?, c4, hx]
  simp [runL]
theorem runL_new {xs : List Int} {k : Nat} {x : Int} (hx : xs[k]? = some x) (he : ¬ (0 < k ∧ xs[k - 1]?.getD 0 = x)) : runL xs (k + 1) = runL xs k ++ [[1, x]] := by
  rw [runL, rnTo, if_neg (by rw [hx]; exact he), List.map_append, hx]; rfl
theorem runL_rows (xs : List Int) (k : Nat) : ∀ l ∈ runL xs k, l.length = 2 := by
  intro l hl
  obtain ⟨p, _, rfl⟩ := List.mem_map.1 hl
  rfl
theorem runL_bulk (xs : List Int) (hx : xs.length ≤ 1000000) : bulk (runL xs xs.length) ≤ 1048577000 := by
  have h1 := runL_len xs xs.length
  have : ∀ k, k ≤ (runL xs xs.length).length → totL (runL xs xs.length) k ≤ 2 * k := by
    intro k
    induction k with
    | zero => intro _; simp [totL]
    | succ k ih =>
      intro hk
      have e : (runL xs xs.length)[k]? = some (runL xs xs.length)[k] := List.getElem?_eq_getElem (by omega)
      rw [totL_succ e]
      have := ih (by omega)
      have := runL_rows xs xs.length _ (List.mem_of_getElem? e)
      omega
  have := this _ (Nat.le_refl _)
  unfold bulk
  omega
end Go.Proofs.Ytllgjgoimnimaaa
