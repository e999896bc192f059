/- Slices whose elements are some cells each. No program in sight. -/
import Derived.Test.YtclcclhdmciggaaDoorMem
namespace Go.Proofs.YtclcclhdmciggaaDoor
open Go.RowKit
set_option linter.unusedVariables false
section
variable {α : Type} (f : α → List Value) (n : Nat) (hn : ∀ x, (f x).length = n)
include hn
theorem flat_len (l : List α) : (l.flatMap f).length = l.length * n := by
  induction l with
  | nil => simp
  | cons x l ih => rw [List.flatMap_cons, List.length_append, ih, hn, List.length_cons, Nat.add_mul]; omega
theorem flat_get (l : List α) (k : Nat) (hk : k < l.length) (j : Nat) (hj : j < n) : (l.flatMap f)[k * n + j]? = (f l[k])[j]? := by
  induction l generalizing k with
  | nil => simp at hk
  | cons x l ih =>
    cases k with
    | zero => rw [List.flatMap_cons, Nat.zero_mul, Nat.zero_add, List.getElem?_append_left (by rw [hn]; exact hj)]; rfl
    | succ k =>
      have hk' : k < l.length := by simpa using hk
      rw [List.flatMap_cons, List.getElem?_append_right (by rw [hn, Nat.add_mul]; omega), hn, show (k + 1) * n + j - n = k * n + j by rw [Nat.add_mul]; omega, ih k hk']
      rfl
theorem flat_takeN (l : List α) (k : Nat) : (l.take k).flatMap f = (l.flatMap f).take (k * n) := by
  induction l generalizing k with
  | nil => simp
  | cons x l ih =>
    cases k with
    | zero => simp
    | succ k =>
      have h1 : (f x).take ((k + 1) * n) = f x := List.take_of_length_le (by rw [hn, Nat.add_mul]; omega)
      rw [List.take_succ_cons, List.flatMap_cons, List.flatMap_cons, ih, List.take_append, hn, h1, show (k + 1) * n - n = k * n by rw [Nat.add_mul]; omega]
theorem flat_dropN (l : List α) (k : Nat) : (l.drop k).flatMap f = (l.flatMap f).drop (k * n) := by
  induction l generalizing k with
  | nil => simp
  | cons x l ih =>
    cases k with
    | zero => simp
    | succ k =>
      have h1 : (f x).drop ((k + 1) * n) = [] := List.drop_of_length_le (by rw [hn, Nat.add_mul]; omega)
      rw [List.drop_succ_cons, List.flatMap_cons, ih, List.drop_append, hn, h1, show (k + 1) * n - n = k * n by rw [Nat.add_mul]; omega, List.nil_append]
end
/-- l[i:k]. -/
def cutL {α : Type} (l : List α) (i k : Nat) : List α := (l.take k).drop i
theorem cutL_len {α : Type} (l : List α) {i k : Nat} (hk : k ≤ l.length) : (cutL l i k).length = k - i := by simp [cutL]; omega
theorem Rd.cut {α : Type} {f : α → List Value} {n : Nat} (hn : ∀ x, (f x).length = n) {w : World} {lo hi b off : Nat} {l : List α} (h : Rd w lo hi (some ⟨b, off, none⟩) (l.flatMap f)) (i k : Nat) :
    Rd w lo hi (some ⟨b, off + i * n, none⟩) ((cutL l i k).flatMap f) := by
  rw [cutL, flat_dropN f n hn, flat_takeN f n hn]
  exact Rd.drop (Rd.take h _) _
end Go.Proofs.YtclcclhdmciggaaDoor
