/- How far justified lines reach, plainly. No program in sight. -/
import Derived.Test.YtmfoankgfiofdaaPbD
import Derived.Test.YtmfoankgfiofdaaPbT
namespace Go.Proofs.Ytmfoankgfiofdaa
open Go.RowKit
set_option linter.unusedVariables false
/-- Reached once the first f places are done. -/
def rt (P : Pa) : Nat → Nat → Bool
  | 0, j => decide (j = 0)
  | f + 1, j => rt P f j || (rt P f f && (decide (f < j) && P.ok f j))
theorem rt_succ (P : Pa) (f j : Nat) : rt P (f + 1) j = (rt P f j || (rt P f f && (decide (f < j) && P.ok f j))) := rfl
theorem rt_low {P : Pa} {f j : Nat} (h : j ≤ f) : rt P (f + 1) j = rt P f j := by rw [rt_succ, decide_eq_false (by omega)]; simp
theorem rt_same {P : Pa} {f j : Nat} (h : j ≤ f) : ∀ d, rt P (f + d) j = rt P f j
  | 0 => rfl
  | d + 1 => by rw [← Nat.add_assoc, rt_low (by omega), rt_same h d]
theorem rt_skip {P : Pa} {f : Nat} (h : rt P f f = false) (j : Nat) : rt P (f + 1) j = rt P f j := by rw [rt_succ, h]; simp
/-- The last of them. -/
def mx (R : Nat → Bool) : Nat → Nat
  | 0 => 0
  | n + 1 => if R n then n else mx R n
theorem mx_congr {R S : Nat → Bool} : ∀ n, (∀ j, j < n → R j = S j) → mx R n = mx S n
  | 0, _ => rfl
  | n + 1, h => by unfold mx; rw [h n (Nat.lt_succ_self n), mx_congr n (fun j hj => h j (by omega))]
theorem mx_le (R : Nat → Bool) : ∀ n, mx R n ≤ n
  | 0 => Nat.le_refl _
  | n + 1 => by unfold mx; have := mx_le R n; split <;> omega
theorem mx_low (R : Nat → Bool) : ∀ n, 0 < n → mx R n < n
  | 0, h => absurd h (Nat.lt_irrefl 0)
  | n + 1, _ => by unfold mx; have := mx_le R n; split <;> omega
theorem mx_set {R : Nat → Bool} {T : Nat} : ∀ n, T < n → mx (fun j => if j = T then true else R j) n = if mx R n < T then T else mx R n
  | 0, h => absurd h (Nat.not_lt_zero T)
  | n + 1, h => by
    unfold mx
    by_cases e : n = T
    · subst e
      have h1 := mx_le R n
      rw [if_pos rfl, if_pos rfl]
      by_cases hR : R n
      · rw [if_pos hR]; split <;> omega
      · rw [if_neg hR]
        rcases Nat.eq_zero_or_pos n with h0 | h0
        · subst h0; rfl
        · rw [if_pos (mx_low R n h0)]
    · rw [if_neg e]
      by_cases hR : R n
      · rw [if_pos hR, if_pos hR, if_neg (by omega)]
      · rw [if_neg hR, if_neg hR, mx_set n (by omega)]
/-- While place k is done: T is next. -/
def rf (P : Pa) (k T j : Nat) : Bool := if j < T then rt P (k + 1) j else rt P k j
theorem rf_start {P : Pa} {k : Nat} (j : Nat) : rf P k (k + 1) j = rt P k j := by
  unfold rf; split
  · exact rt_low (by omega)
  · rfl
theorem rf_skip {P : Pa} {k T : Nat} (h : rt P k k = false) (j : Nat) : rf P k T j = rt P (k + 1) j := by
  unfold rf; split
  · rfl
  · exact (rt_skip h j).symm
theorem rf_end {P : Pa} {k n j : Nat} (h : j < n) : rf P k n j = rt P (k + 1) j := by unfold rf; rw [if_pos h]
theorem rf_own {P : Pa} {k T : Nat} (h : k < T) : rf P k T k = rt P k k := by unfold rf; rw [if_pos h, rt_low (Nat.le_refl _)]
theorem rf_no {P : Pa} {k T : Nat} (h : P.ok k T = false) (j : Nat) : rf P k (T + 1) j = rf P k T j := by
  unfold rf
  by_cases e : j = T
  · subst e; rw [if_pos (Nat.lt_succ_self _), if_neg (Nat.lt_irrefl _), rt_succ, h]; simp
  · by_cases h2 : j < T
    · rw [if_pos h2, if_pos (by omega)]
    · rw [if_neg h2, if_neg (by omega)]
theorem rf_yes {P : Pa} {k T : Nat} (hk : k < T) (hr : rt P k k = true) (h : P.ok k T = true) (j : Nat) : rf P k (T + 1) j = if j = T then true else rf P k T j := by
  unfold rf
  by_cases e : j = T
  · subst e; rw [if_pos (Nat.lt_succ_self _), if_pos rfl, rt_succ, h, hr, decide_eq_true hk]; simp
  · rw [if_neg e]
    by_cases h2 : j < T
    · rw [if_pos h2, if_pos (by omega)]
    · rw [if_neg h2, if_neg (by omega)]
def stP (l : List Int) (r : Rul) (m : Int) : Int × Bool := if asked l r m && (bA (paOf l r m) 0).1.isNone then ((mx (rt (paOf l r m) l.length) l.length : Int), true) else (0, false)
def stV (l : List Int) (r : Rul) (m : Int) : Value := .tuple #[.int .i64 (stP l r m).1, .bool (stP l r m).2]
theorem stV_form (l : List Int) (r : Rul) (m : Int) : ∃ x b, stV l r m = .tuple #[.int .i64 x, .bool b] := ⟨_, _, rfl⟩
theorem stV_bad {l : List Int} {r : Rul} {m : Int} (h : asked l r m = false) : stV l r m = .tuple #[.int .i64 0, .bool false] := by simp [stV, stP, h]
theorem stV_some {l : List Int} {r : Rul} {m : Int} {y : Int × List Int} (h : (bA (paOf l r m) 0).1 = some y) : stV l r m = .tuple #[.int .i64 0, .bool false] := by simp [stV, stP, h]
theorem stV_good {l : List Int} {r : Rul} {m : Int} (h : asked l r m = true) (h2 : (bA (paOf l r m) 0).1 = none) : stV l r m = .tuple #[.int .i64 (mx (rt (paOf l r m) l.length) l.length : Int), .bool true] := by simp [stV, stP, h, h2]
theorem rt_zero (P : Pa) (j : Nat) : rt P 0 j = decide (j = 0) := rfl
theorem mx_zero (P : Pa) : ∀ n, mx (rt P 0) n = 0
  | 0 => rfl
  | n + 1 => by
    unfold mx
    by_cases h : n = 0
    · subst h; rfl
    · rw [rt_zero, decide_eq_false h, if_neg (by decide), mx_zero P n]
end Go.Proofs.Ytmfoankgfiofdaa
