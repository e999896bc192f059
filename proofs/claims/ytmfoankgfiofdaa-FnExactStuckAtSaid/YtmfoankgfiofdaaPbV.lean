/- The walk of the reference's best breaks (paFrom). -/
import Derived.Test.YtmfoankgfiofdaaPbT
namespace Go.Proofs.Ytmfoankgfiofdaa
open Go.RowKit
set_option linter.unusedVariables false
def RetW (w : World) (X : OW × Int) (e : Ending) (w' : World) : Prop := ∃ A c, e = .returned (.agg #[.bool X.1.isSome, .int .i64 (owCost X.1), .slice A (owList X.1).length c, .int .i64 X.2]) ∧ (owList X.1).length ≤ c ∧ RdI w' w.heap.size w'.heap.size A (owList X.1) ∧ Ext w w'
theorem tb_step {P : Pa} {L k a : Nat} (hk : k ≤ L) (h : L = 0 ∨ 0 < k) (ha : a < P.n) : tb P L k a = dn P (tb P L (k - 1)) (bw0 (P.fin a && decide (k ≤ 1))) a (P.n - 1 - a) := by
  by_cases h0 : L = 0
  · subst h0
    obtain rfl : k = 0 := by omega
    rw [tb_any ha]; simp
  · obtain ⟨q, rfl⟩ : ∃ q, k = q + 1 := ⟨k - 1, by omega⟩
    rw [tb_succ (by omega), Nat.add_sub_cancel]
    have e : decide (q + 1 ≤ 1) = decide (q = 0) := by by_cases e : q = 0 <;> simp [e]
    rw [e]
/-- What the table holds when rows before k and row k's cells from a on are done. -/
def fl (P : Pa) (L k a p i : Nat) : OW × Int := if (p < k ∨ (p = k ∧ a ≤ i)) ∧ i < P.n then tb P L p i else (none, 0)
theorem fl_row {P : Pa} {L k p i : Nat} : fl P L k 0 p i = fl P L (k + 1) P.n p i := by
  unfold fl
  by_cases h : i < P.n
  · by_cases h1 : p < k + 1
    · rw [if_pos ⟨by omega, h⟩, if_pos ⟨by omega, h⟩]
    · rw [if_neg (by omega), if_neg (by omega)]
  · rw [if_neg (by omega), if_neg (by omega)]
theorem fl_none {P : Pa} {L p i : Nat} (hL : 0 < L) : fl P L 0 P.n p i = fl P L 1 P.n p i := by
  unfold fl
  by_cases h : i < P.n ∧ p = 0
  · obtain ⟨h, rfl⟩ := h
    rw [if_neg (by omega), if_pos ⟨by omega, h⟩, tb_zero hL]
  · rw [if_neg (by omega), if_neg (by omega)]
theorem fl_start {P : Pa} {L p i : Nat} : fl P L 0 P.n p i = (none, 0) := by
  unfold fl; rw [if_neg (by omega)]
theorem fl_set {P : Pa} {L k a i : Nat} (ha : a < P.n) : (if i = a then tb P L k a else fl P L k (a + 1) k i) = fl P L k a k i := by
  by_cases e : i = a
  · subst e; rw [if_pos rfl]; unfold fl; rw [if_pos (by omega)]
  · rw [if_neg e]
    unfold fl
    by_cases h : a + 1 ≤ i ∧ i < P.n
    · rw [if_pos (by omega), if_pos (by omega)]
    · rw [if_neg (by omega), if_neg (by omega)]
theorem fl_other {P : Pa} {L k a p i : Nat} (hp : p ≠ k) : fl P L k (a + 1) p i = fl P L k a p i := by
  unfold fl
  by_cases h : p < k ∧ i < P.n
  · rw [if_pos (by omega), if_pos (by omega)]
  · rw [if_neg (by omega), if_neg (by omega)]
theorem fl_next {P : Pa} {L k a j : Nat} (hk : k ≤ L) (h : L = 0 ∨ 0 < k) (ha : a < j) (hj : j < P.n) : fl P L k (a + 1) (k - 1) j = tb P L (k - 1) j := by
  unfold fl
  rw [if_pos (by omega)]
theorem dn_succ (P : Pa) (nx : Nat → OW × Int) (base : OW × Int) (i t : Nat) : dn P nx base i (t + 1) = updW P i (P.n - 1 - t) (dn P nx base i t) (nx (P.n - 1 - t)) := rfl
end Go.Proofs.Ytmfoankgfiofdaa
