/- The table of the program's even pages while a row is worked on. No program in sight. -/
import Derived.Test.YtnhddepmhelgiaaEvC
namespace Go.Proofs.Ytnhddepmhelgiaa
open Go.RowKit
set_option linter.unusedVariables false
theorem up_next (P : Pa) (g : Nat → Int) (base : Int) (i t : Nat) : up P g base i (t + 1) = uc P i (i + 1 + t) (up P g base i t) (g (i + 1 + t)) := rfl
/-- Where no further end is possible nothing changes. -/
theorem up_stop {P : Pa} {g : Nat → Int} {base : Int} {i t : Nat} : ∀ m, (∀ j, i + t < j → j ≤ i + t + m → P.ok i j = false) → up P g base i (t + m) = up P g base i t
  | 0, _ => rfl
  | m + 1, h => by
    rw [← Nat.add_assoc, up_next, uc_no (h _ (by omega) (by omega)), up_stop m (fun j h1 h2 => h j h1 (by omega))]
theorem up_min {P : Pa} {g : Nat → Int} {i : Nat} (hc : ∀ j, 0 ≤ P.co i j) : ∀ t j, i < j → j ≤ i + t → P.ok i j = true → 0 ≤ g j → 0 ≤ up P g (-1) i t ∧ up P g (-1) i t ≤ P.co i j + g j
  | 0, j, h1, h2, _, _ => by omega
  | t + 1, j, h1, h2, h3, h4 => by
    rw [up_next]
    obtain ⟨J, hJ⟩ : ∃ J, J = i + 1 + t := ⟨_, rfl⟩
    rw [← hJ]
    have hcJ := hc J
    have hcj := hc j
    by_cases e : j = J
    · subst e
      by_cases hlt : up P g (-1) i t < 0 ∨ P.co i j + g j < up P g (-1) i t
      · rw [uc_new h3 h4 hlt]; omega
      · rw [uc_old (fun h => hlt (.inl h)) (fun h => hlt (.inr h))]; omega
    · have ih := up_min hc t j h1 (by omega) h3 h4
      unfold uc
      split
      · rename_i hh
        simp only [Bool.and_eq_true, decide_eq_true_eq, Bool.or_eq_true] at hh
        omega
      · exact ih
/-- nxt is the first end of the least cost so far. -/
def AtEnd (P : Pa) (g : Nat → Int) (i t nxt : Nat) : Prop := up P g (-1) i t < 0 ∨ (i < nxt ∧ nxt ≤ i + t ∧ P.ok i nxt = true ∧ 0 ≤ g nxt ∧ P.co i nxt + g nxt = up P g (-1) i t ∧ ∀ j, i < j → j < nxt → P.ok i j = true → ¬ (0 ≤ g j ∧ P.co i j + g j = up P g (-1) i t))
theorem AtEnd.keep {P : Pa} {g : Nat → Int} {i t nxt : Nat} (h : AtEnd P g i t nxt) (he : up P g (-1) i (t + 1) = up P g (-1) i t) : AtEnd P g i (t + 1) nxt := by
  unfold AtEnd at h ⊢
  rw [he]
  rcases h with h | ⟨a, b, c⟩
  · exact .inl h
  · exact .inr ⟨a, by omega, c⟩
theorem AtEnd.new {P : Pa} {g : Nat → Int} {i t : Nat} (hc : ∀ j, 0 ≤ P.co i j) (hok : P.ok i (i + 1 + t) = true) (h0 : 0 ≤ g (i + 1 + t)) (hlt : up P g (-1) i t < 0 ∨ P.co i (i + 1 + t) + g (i + 1 + t) < up P g (-1) i t) : AtEnd P g i (t + 1) (i + 1 + t) := by
  have he : up P g (-1) i (t + 1) = P.co i (i + 1 + t) + g (i + 1 + t) := by rw [up_next, uc_new hok h0 hlt]
  refine .inr ⟨by omega, by omega, hok, h0, he.symm, fun j h1 h2 h3 h4 => ?_⟩
  obtain ⟨q1, q2⟩ := up_min hc t j h1 (by omega) h3 h4.1
  have := h4.2
  rw [he] at this
  omega
/-- The end that the best pages name. -/
theorem AtEnd.is {hs : List Int} {d : Int} {i K : Nat} {s : Int} {L : List Int} {g : Nat → Int} {n nxt : Nat} (ho : EvOk hs d) (h : EvAt hs d i K s L) (hi : i < hs.length) (hn : n = hs.length - i)
    (hg : ∀ j, i < j → j ≤ hs.length → g j = tv (bA (evQa hs d) j).1) (ha : AtEnd (evQa hs d) g i n nxt) (hu : up (evQa hs d) g (-1) i n = tv (bA (evQa hs d) i).1) :
    ∃ (K' : Nat) (s' : Int) (L' : List Int), L = (nxt : Int) :: L' ∧ nxt ≤ hs.length ∧ i < nxt ∧ EvAt hs d nxt K' s' L' := by
  have hQn : (evQa hs d).n = hs.length + 1 := rfl
  have hf : (evQa hs d).fin i = false := by show decide (i = hs.length) = false; simp; omega
  obtain ⟨j, z, hst⟩ := bA_step (P := evQa hs d) (by rw [hQn]; omega) hf h.q
  have hgt := hst.gt
  have hjl : j ≤ hs.length := by have := hst.lt; rw [hQn] at this; omega
  have hs0 := h.s0
  have hv : tv (bA (evQa hs d) i).1 = (K : Int) * 1000000000 + s := by rw [h.q]; rfl
  rw [hv] at hu
  have hgj : g j = z.1 := by rw [hg j hgt hjl, hst.hz]; rfl
  have hz0 : 0 ≤ g j := by
    rw [hg j hgt hjl]
    obtain ⟨K2, s2, L2, h2⟩ := ev_at ho hjl
    have := h2.s0
    rw [h2.q]; show 0 ≤ (K2 : Int) * 1000000000 + s2; omega
  have hcost : (evQa hs d).co i j + g j = (K : Int) * 1000000000 + s := by rw [hgj]; exact hst.cost.symm
  rcases ha with hneg | ⟨a1, a2, a3, a4, a5, a6⟩
  · rw [hu] at hneg; omega
  · rw [hu] at a5 a6
    have hnl : nxt ≤ hs.length := by omega
    have he : nxt = j := by
      rcases Nat.lt_trichotomy nxt j with hl | hl | hl
      · exfalso
        refine hst.first nxt a1 hl a3 ?_
        rw [← hg nxt a1 hnl]
        exact ⟨a4, a5⟩
      · exact hl
      · exfalso
        exact a6 j hgt hl hst.ok ⟨hz0, hcost⟩
    subst he
    obtain ⟨K2, s2, L2, h2⟩ := ev_at ho hjl
    have hz : z = ((K2 : Int) * 1000000000 + s2, L2) := by have := hst.hz; rw [h2.q] at this; injection this with this; exact this.symm
    exact ⟨K2, s2, L2, by have := hst.list; rw [hz] at this; exact this, hnl, hgt, h2⟩
end Go.Proofs.Ytnhddepmhelgiaa
