/- What a line's cost is at the most; a paragraph by its lines' costs. No program in sight. -/
import Derived.Test.YtmfoankgfiofdaaPbP
import Derived.Test.YtmfoankgfiofdaaParF
namespace Go.Proofs.Ytmfoankgfiofdaa
open Go.RowKit
set_option linter.unusedVariables false
theorem sq_bd (d : Int) (h : -54 ≤ d) (h' : d ≤ 2001) : 0 ≤ d * d ∧ d * d ≤ 4004001 := by
  by_cases h0 : 0 ≤ d
  · exact ⟨Int.mul_nonneg h0 h0, by have := Int.mul_le_mul h' h' h0 (by omega); omega⟩
  · have e : d * d = (-d) * (-d) := by rw [Int.neg_mul_neg]
    have h1 : 0 ≤ -d := by omega
    have h2 : -d ≤ 2001 := by omega
    rw [e]
    exact ⟨Int.mul_nonneg h1 h1, by have := Int.mul_le_mul h2 h2 h1 (by omega); omega⟩
theorem costs_bd (r : Rul) (r1 : 1 ≤ r.normal) (r2 : r.normal ≤ 54) : ∀ (s : List Int) (a : Int), 0 ≤ a → a + 4004001 * s.length ≤ 1000000000 → (∀ x ∈ s, 0 ≤ x ∧ x ≤ 2001) →
    a ≤ s.foldl (fun n x => wrap64 (n + wrap64 (wrap64 (x - r.normal) * wrap64 (x - r.normal)))) a ∧ s.foldl (fun n x => wrap64 (n + wrap64 (wrap64 (x - r.normal) * wrap64 (x - r.normal)))) a ≤ a + 4004001 * s.length := by
  intro s
  induction s with
  | nil => intro a _ _ _; simp
  | cons x s ih =>
    intro a h0 h1 h2
    have hx := h2 x List.mem_cons_self
    simp only [List.length_cons, Int.natCast_add, Int.natCast_one] at h1 ⊢
    obtain ⟨q1, q2⟩ := sq_bd (x - r.normal) (by omega) (by omega)
    rw [List.foldl_cons, w64 (n := x - r.normal) (by omega) (by omega)]
    generalize (x - r.normal) * (x - r.normal) = q at *
    rw [w64 (n := q) (by omega) (by omega), w64 (n := a + q) (by omega) (by omega)]
    have := ih (a + q) (by omega) (by omega) (fun y hy => h2 y (List.mem_cons_of_mem _ hy))
    omega
theorem lead_bd {left gaps : Int} {n : Nat} (h0 : 0 ≤ left) (h1 : left ≤ 2000) (h2 : 0 ≤ gaps) : ∀ x ∈ leadL left gaps n, 0 ≤ x ∧ x ≤ 2001 := by
  intro x hx
  simp only [leadL, List.mem_map, List.mem_range] at hx
  obtain ⟨i, _, rfl⟩ := hx
  have h3 := Int.ediv_nonneg h0 h2
  have h4 := Int.ediv_le_self gaps h0
  unfold leadAt
  split <;> omega
theorem lc_bd {l : List Int} {r : Rul} {m : Int} (hw : ∀ x ∈ l, 1 ≤ x ∧ x ≤ 600) (r1 : 1 ≤ r.least) (r2 : r.least ≤ r.normal) (r3 : r.normal ≤ r.most) (r4 : r.most ≤ 54) (m1 : 1 ≤ m) (m2 : m ≤ 2000) : 0 ≤ lc l r m ∧ lc l r m ≤ 100000000 := by
  unfold lc
  split
  · rename_i h
    simp only [lineOk, Bool.and_eq_true, decide_eq_true_eq] at h
    obtain ⟨h20, hf⟩ := h
    have hf := inB_iff.1 hf
    obtain ⟨s1, s2⟩ := sumW_bound (by omega) hw
    have h1 : 1 ≤ l.length := by
      rcases Nat.eq_zero_or_pos l.length with h | h
      · obtain rfl := List.eq_nil_of_length_eq_zero h
        have e : sumW [] = 0 := rfl
        rw [e] at hf
        have := hf.2
        simp only [List.length_nil] at this
        have e2 : (((0 : Nat) : Int) - 1) * r.most = - r.most := by omega
        rw [e2] at this
        omega
      · exact h
    have p1 : 0 ≤ ((l.length : Int) - 1) * r.least := Int.mul_nonneg (by omega) (by omega)
    have := costs_bd r (by omega) (by omega) (spc l m) 0 (Int.le_refl _) (by rw [spc, leadL_len]; omega) (lead_bd (by omega) (by omega) (by omega))
    rw [spc, leadL_len] at this
    unfold costs
    rw [spc]
    omega
  · omega
/-- A paragraph by its lines' costs. -/
def paOf (l : List Int) (r : Rul) (m : Int) : Pa := ⟨l.length, fun i j => lineOk (cutL l i j) r m, fun i j => lc (cutL l i j) r m, fun i => canEnd (cutL l i l.length) r m⟩
theorem paOf_co {l : List Int} {r : Rul} {m : Int} (h : asked l r m = true) : (∀ i j, 0 ≤ (paOf l r m).co i j) ∧ (∀ i j, (paOf l r m).co i j ≤ 100000000) ∧ 0 < (paOf l r m).n := by
  obtain ⟨hp, ⟨r1, r2, r3, r4⟩, m1, m2⟩ := asked_parts h
  have hb := fun i j => lc_bd (l := cutL l i j) (r := r) (m := m) (fun x hx => pw_mem hp x (cutL_mem hx)) r1 r2 r3 r4 m1 m2
  exact ⟨fun i j => (hb i j).1, fun i j => (hb i j).2, (pw_len hp).1⟩
end Go.Proofs.Ytmfoankgfiofdaa
