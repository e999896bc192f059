/- The pages that are as full as can be are the fewest. No program in sight. -/
import Derived.Test.YtnhddepmhelgiaaEvB
import Derived.Test.YtnhddepmhelgiaaPaP
namespace Go.Proofs.Ytnhddepmhelgiaa
open Go.RowKit
set_option linter.unusedVariables false
/-- The rows from i on can be set on k pages. -/
def OnPages (P : Pa) (k i : Nat) : Prop := (bw P false (k + 1) i).1 ≠ none
theorem on_zero {P : Pa} {i : Nat} : OnPages P 0 i ↔ P.fin i = true := by
  unfold OnPages
  rw [bw_one]
  cases P.fin i <;> simp [bw0]
theorem on_succ {P : Pa} {k i : Nat} (hi : i < P.n) : OnPages P (k + 1) i ↔ ∃ j, i < j ∧ j < P.n ∧ P.ok i j = true ∧ OnPages P k j := by
  unfold OnPages
  rw [bw_dn]
  have e : P.n - (P.n - 1 - i) = i + 1 := by omega
  rcases dn_none (P := P) (nx := bw P false (k + 1)) (i := i) (v := 0) (P.n - 1 - i) (by omega) with ⟨h1, h2⟩ | ⟨j, y, z, h1, hl⟩
  · constructor
    · intro h; exact absurd h1 h
    · rintro ⟨j, a, b, c, d⟩
      exfalso
      cases hz : (bw P false (k + 1) j).1 with
      | none => exact d hz
      | some z => exact h2 j _ (by omega) b (cand_some c hz)
  · constructor
    · intro _
      have := hl.ge
      exact ⟨j, by omega, hl.lt, hl.ok, by rw [hl.hz]; exact fun h => by cases h⟩
    · intro _; rw [h1]; exact fun h => by cases h
/-- Pages are rows in order; rows have heights. -/
structure Pages (P : Pa) : Prop where
  fin : ∀ i, i < P.n → (P.fin i = true ↔ i + 1 = P.n)
  down : ∀ i j j', i < j → j ≤ j' → P.ok i j' = true → P.ok i j = true
  right : ∀ i i' j, i ≤ i' → i' < j → P.ok i j = true → P.ok i' j = true
theorem on_mono {P : Pa} (hP : Pages P) : ∀ k i i', OnPages P k i → i ≤ i' → i' < P.n → ∃ k', k' ≤ k ∧ OnPages P k' i' := by
  intro k
  induction k with
  | zero =>
    intro i i' h h1 h2
    have h3 := (hP.fin i (by omega)).1 (on_zero.1 h)
    obtain rfl : i = i' := by omega
    exact ⟨0, Nat.le_refl _, h⟩
  | succ k ih =>
    intro i i' h h1 h2
    obtain ⟨j, a, b, c, d⟩ := (on_succ (by omega)).1 h
    by_cases hj : i' < j
    · exact ⟨k + 1, Nat.le_refl _, (on_succ h2).2 ⟨j, hj, b, hP.right i i' j h1 hj c, d⟩⟩
    · obtain ⟨k', q1, q2⟩ := ih j i' d (by omega) h2
      exact ⟨k', by omega, q2⟩
/-- k pages and no fewer. -/
def Few (P : Pa) (k i : Nat) : Prop := OnPages P k i ∧ ∀ k', k' < k → ¬ OnPages P k' i
theorem few_break {P : Pa} (hP : Pages P) {k s c : Nat} (h : Few P k s) (hs : s < c) (hc : c + 1 < P.n) (h1 : P.ok s c = true) (h2 : P.ok s (c + 1) = false) : ∃ k', k = k' + 1 ∧ Few P k' c := by
  cases k with
  | zero =>
    have := (hP.fin s (by omega)).1 (on_zero.1 h.1)
    omega
  | succ k =>
    refine ⟨k, rfl, ?_⟩
    obtain ⟨j, a, b, d, e⟩ := (on_succ (by omega)).1 h.1
    have hjc : j ≤ c := by
      rcases Nat.lt_or_ge c j with hl | hl
      · rw [hP.down s (c + 1) j (by omega) hl d] at h2; cases h2
      · exact hl
    obtain ⟨k2, q1, q2⟩ := on_mono hP k j c e hjc (by omega)
    have key : ∀ k3, OnPages P k3 c → k ≤ k3 := by
      intro k3 h3
      rcases Nat.lt_or_ge k3 k with hl | hl
      · exact absurd ((on_succ (by omega)).2 ⟨c, hs, by omega, h1, h3⟩) (h.2 (k3 + 1) (by omega))
      · exact hl
    have := key k2 q2
    obtain rfl : k2 = k := by omega
    exact ⟨q2, fun k' hk' h3 => by have := key k' h3; omega⟩
theorem few_end {P : Pa} (hP : Pages P) {k s c : Nat} (h : Few P k s) (hs : s < c) (hc : c + 1 = P.n) (h1 : P.ok s c = true) : k = 1 := by
  have h0 : OnPages P 0 c := on_zero.2 ((hP.fin c (by omega)).2 hc)
  have h2 : OnPages P 1 s := (on_succ (by omega)).2 ⟨c, hs, by omega, h1, h0⟩
  rcases Nat.lt_or_ge 1 k with hl | hl
  · exact absurd h2 (h.2 1 hl)
  · rcases Nat.eq_zero_or_pos k with h3 | h3
    · subst h3
      have := (hP.fin s (by omega)).1 (on_zero.1 h.1)
      omega
    · omega
/-- The sum of the first k heights. -/
def pf (hs : List Int) : Nat → Int
  | 0 => 0
  | k + 1 => pf hs k + hs[k]?.getD 0
theorem pf_succ {hs : List Int} {k : Nat} {x : Int} (h : hs[k]? = some x) : pf hs (k + 1) = pf hs k + x := by simp [pf, h]
theorem pf_mono {hs : List Int} (h : ∀ x ∈ hs, 0 ≤ x) : ∀ d i, pf hs i ≤ pf hs (i + d)
  | 0, _ => Int.le_refl _
  | d + 1, i => by
    have ih := pf_mono h d i
    show _ ≤ pf hs (i + d) + _
    cases hx : hs[i + d]? with
    | none => simpa using ih
    | some x => have := h x (List.mem_of_getElem? hx); simp; omega
theorem pf_le {hs : List Int} (h : ∀ x ∈ hs, 0 ≤ x) {i j : Nat} (hij : i ≤ j) : pf hs i ≤ pf hs j := by
  obtain ⟨d, rfl⟩ : ∃ d, j = i + d := ⟨j - i, by omega⟩
  exact pf_mono h d i
/-- Pages of rows of these heights. -/
def evPa (hs : List Int) (d : Int) : Pa := ⟨hs.length + 1, fun i j => decide (pf hs j - pf hs i ≤ d), fun i j => if i < j ∧ pf hs j - pf hs i ≤ d then (d - (pf hs j - pf hs i)) * (d - (pf hs j - pf hs i)) else 0, fun i => decide (i = hs.length)⟩
theorem ev_pages {hs : List Int} {d : Int} (h : ∀ x ∈ hs, 0 ≤ x) : Pages (evPa hs d) := by
  refine ⟨fun i hi => ?_, fun i j j' h1 h2 h3 => ?_, fun i i' j h1 h2 h3 => ?_⟩
  · show decide (i = hs.length) = true ↔ i + 1 = hs.length + 1
    simp
  · have h3 : decide (pf hs j' - pf hs i ≤ d) = true := h3
    have := pf_le h h2
    show decide (pf hs j - pf hs i ≤ d) = true
    simp only [decide_eq_true_eq] at h3 ⊢
    omega
  · have h3 : decide (pf hs j - pf hs i ≤ d) = true := h3
    have := pf_le h h1
    show decide (pf hs j - pf hs i' ≤ d) = true
    simp only [decide_eq_true_eq] at h3 ⊢
    omega
theorem brk_few {hs : List Int} {d : Int} (h : ∀ x ∈ hs, 0 ≤ x ∧ x ≤ d) {K : Nat} (hK : Few (evPa hs d) K 0) (hn : 0 < hs.length) : K = (brkL hs d).length + 1 := by
  have h0 : ∀ x ∈ hs, 0 ≤ x := fun x hx => (h x hx).1
  have hP := ev_pages (d := d) h0
  have hok : ∀ i j, (evPa hs d).ok i j = decide (pf hs j - pf hs i ≤ d) := fun _ _ => rfl
  have hPn : (evPa hs d).n = hs.length + 1 := rfl
  have hd : 0 ≤ d := by
    have := h _ (List.getElem_mem hn); omega
  have key : ∀ k, k ≤ hs.length → ∃ s m, (s < k ∨ (k = 0 ∧ s = 0)) ∧ (brkTo hs d k).2 = pf hs k - pf hs s ∧ pf hs k - pf hs s ≤ d ∧ K = (brkTo hs d k).1.length + m ∧ Few (evPa hs d) m s := by
    intro k
    induction k with
    | zero => intro _; exact ⟨0, K, .inr ⟨rfl, rfl⟩, by simp [brkTo], by simp; exact hd, by simp [brkTo], hK⟩
    | succ k ih =>
      intro hk
      obtain ⟨s, m, h1, h2, h3, h4, h5⟩ := ih (by omega)
      obtain ⟨x, hx⟩ : ∃ x, hs[k]? = some x := ⟨_, List.getElem?_eq_getElem (by omega)⟩
      have hxb := h x (List.mem_of_getElem? hx)
      have hp := pf_succ hx
      obtain ⟨E, hE⟩ : ∃ E, E = (brkTo hs d k).1 := ⟨_, rfl⟩
      have hB : brkTo hs d k = (E, pf hs k - pf hs s) := Prod.ext hE.symm h2
      rw [← hE] at h4
      by_cases ht : d < pf hs k - pf hs s + x
      · rw [brkTo_yes hB hx ht]
        have hsk : s < k := by
          rcases h1 with h1 | ⟨h1, h6⟩
          · exact h1
          · subst h1; subst h6; simp at ht; omega
        obtain ⟨m', rfl, h7⟩ := few_break hP h5 hsk (by rw [hPn]; omega) (by rw [hok]; exact decide_eq_true h3) (by rw [hok]; exact decide_eq_false (by omega))
        exact ⟨k, m', .inl (Nat.lt_succ_self k), by show x = _; omega, by omega, by simp; omega, h7⟩
      · rw [brkTo_no hB hx ht]
        exact ⟨s, m, .inl (by omega), by show pf hs k - pf hs s + x = _; omega, by omega, h4, h5⟩
  obtain ⟨s, m, h1, _, h3, h4, h5⟩ := key hs.length (Nat.le_refl _)
  have hm := few_end hP h5 (c := hs.length) (by omega) hPn.symm (by rw [hok]; exact decide_eq_true h3)
  unfold brkL
  omega
end Go.Proofs.Ytnhddepmhelgiaa
