/- The walk of szIntSS. -/
import Derived.Test.YtmfoankgfiofdaaNestL
namespace Go.Proofs.Ytmfoankgfiofdaa
open Go.RowKit
set_option linter.unusedVariables false
def totL (ls : List (List Int)) (k : Nat) : Nat := ((ls.take k).map List.length).sum
theorem totL_succ {ls : List (List Int)} {k : Nat} {l : List Int} (h : ls[k]? = some l) : totL ls (k + 1) = totL ls k + l.length := by
  rw [totL, take_snoc h]; simp [totL]
def bulk (ls : List (List Int)) : Nat := ls.length + totL ls ls.length
theorem totL_mono (ls : List (List Int)) {k : Nat} : ∀ n, k ≤ n → n ≤ ls.length → totL ls k ≤ totL ls n := by
  intro n hk
  induction n with
  | zero => intro _; rw [show k = 0 by omega]; exact Nat.le_refl _
  | succ n ih =>
    intro hn
    by_cases e : k = n + 1
    · subst e; exact Nat.le_refl _
    · obtain ⟨l, hl⟩ : ∃ l, ls[n]? = some l := ⟨_, List.getElem?_eq_getElem (by omega)⟩
      rw [totL_succ hl]
      have := ih (by omega) (by omega)
      omega
theorem row_le {ls : List (List Int)} {l : List Int} (h : l ∈ ls) : l.length ≤ totL ls ls.length := by
  obtain ⟨i, hi, rfl⟩ := List.mem_iff_getElem.1 h
  have h1 := totL_succ (List.getElem?_eq_getElem hi)
  have h2 := totL_mono ls (k := i + 1) ls.length (by omega) (Nat.le_refl _)
  omega
def szR (ls : List (List Int)) (left : Int) : Int := if (bulk ls : Int) ≤ left then left - bulk ls else -1
theorem szR_yes {ls : List (List Int)} {left : Int} (h : (bulk ls : Int) ≤ left) : szR ls left = left - bulk ls := if_pos h
theorem szR_no {ls : List (List Int)} {left : Int} (h : ¬ (bulk ls : Int) ≤ left) : szR ls left = -1 := if_neg h
end Go.Proofs.Ytmfoankgfiofdaa
