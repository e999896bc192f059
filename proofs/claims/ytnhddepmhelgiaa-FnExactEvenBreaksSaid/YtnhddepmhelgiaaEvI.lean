/- A round of the program's tables of even pages. No program in sight. -/
import Derived.Test.YtnhddepmhelgiaaEvH
namespace Go.Proofs.Ytnhddepmhelgiaa
open Go.RowKit
set_option linter.unusedVariables false
/-- What the tables hold of row p: pages, squares, the first page's end. -/
def evK (hs : List Int) (d : Int) (p : Nat) : Int := tv (bA (evQa hs d) p).1 / 1000000000
def evS (hs : List Int) (d : Int) (p : Nat) : Int := tv (bA (evQa hs d) p).1 % 1000000000
def evN (hs : List Int) (d : Int) (p : Nat) : Int := match (bA (evQa hs d) p).1 with | some y => y.2.headD 0 | none => 0
theorem EvAt.vals {hs : List Int} {d : Int} {i K : Nat} {s : Int} {L : List Int} (h : EvAt hs d i K s L) : evK hs d i = K ∧ evS hs d i = s ∧ evN hs d i = L.headD 0 := by
  have h1 := h.s0; have h2 := h.s1
  unfold evK evS evN
  rw [h.q]
  show ((K : Int) * 1000000000 + s) / 1000000000 = K ∧ ((K : Int) * 1000000000 + s) % 1000000000 = s ∧ _
  exact ⟨by omega, by omega, rfl⟩
theorem ev_end {hs : List Int} {d : Int} (ho : EvOk hs d) : evK hs d hs.length = 0 ∧ evS hs d hs.length = 0 := by
  obtain ⟨K, s, L, h⟩ := ev_at ho (Nat.le_refl hs.length)
  obtain ⟨h1, h2, _⟩ := EvAt.last ho h
  obtain ⟨q1, q2, _⟩ := h.vals
  rw [q1, q2, h1, h2]; exact ⟨rfl, rfl⟩
/-- What is behind row j, in one number. -/
def evG (hs : List Int) (d : Int) (j : Nat) : Int := tv (bA (evQa hs d) j).1
/-- The least over the first t ends. -/
def evV (hs : List Int) (d : Int) (i t : Nat) : Int := up (evQa hs d) (evG hs d) (-1) i t
def pgV (v : Int) : Int := if v < 0 then -1 else v / 1000000000
def sqV (v : Int) : Int := if v < 0 then 0 else v % 1000000000
theorem ev_vals {hs : List Int} {d : Int} (ho : EvOk hs d) {j : Nat} (hj : j ≤ hs.length) : evG hs d j = evK hs d j * 1000000000 + evS hs d j ∧ (0 ≤ evK hs d j ∧ evK hs d j ≤ 24) ∧ 0 ≤ evS hs d j ∧ evS hs d j ≤ 25000000 := by
  obtain ⟨K, s, L, h⟩ := ev_at ho hj
  obtain ⟨q1, q2, _⟩ := h.vals
  have h0 := h.s0; have h1 := h.s1
  have hl := ho.len
  have hK : K ≤ 24 := by
    rcases Nat.lt_or_ge (hs.length - j) K with hlt | hge
    · exact absurd (ev_single ho (hs.length - j) j (by omega)) (h.fewest.2 _ hlt)
    · omega
  have hg : evG hs d j = (K : Int) * 1000000000 + s := by unfold evG; rw [h.q]; rfl
  rw [hg, q1, q2]
  exact ⟨rfl, ⟨by omega, by omega⟩, h0, h1⟩
theorem evQ_ok (hs : List Int) (d : Int) (i j : Nat) : (evQa hs d).ok i j = decide (pf hs j - pf hs i ≤ d) := rfl
theorem evQ_co (hs : List Int) (d : Int) (i j : Nat) : (evQa hs d).co i j = 1000000000 + (evPa hs d).co i j := rfl
theorem evQ_nn {hs : List Int} {d : Int} (ho : EvOk hs d) (i j : Nat) : 0 ≤ (evQa hs d).co i j := by
  have := (evPa_bd ho i j).1
  rw [evQ_co]; omega
/-- The next end is better, or it is not. -/
theorem ev_round {hs : List Int} {d : Int} (ho : EvOk hs d) {i t J : Nat} (hJ : J = i + 1 + t) (hj : J ≤ hs.length) (hok : pf hs J - pf hs i ≤ d) :
    ((pgV (evV hs d i t) < 0 ∨ evK hs d J + 1 < pgV (evV hs d i t) ∨ (evK hs d J + 1 = pgV (evV hs d i t) ∧ evS hs d J + (d - (pf hs J - pf hs i)) * (d - (pf hs J - pf hs i)) < sqV (evV hs d i t))) ∧
      pgV (evV hs d i (t + 1)) = evK hs d J + 1 ∧ sqV (evV hs d i (t + 1)) = evS hs d J + (d - (pf hs J - pf hs i)) * (d - (pf hs J - pf hs i)) ∧ AtEnd (evQa hs d) (evG hs d) i (t + 1) J) ∨
    ((0 ≤ pgV (evV hs d i t) ∧ (pgV (evV hs d i t) < evK hs d J + 1 ∨ (evK hs d J + 1 = pgV (evV hs d i t) ∧ sqV (evV hs d i t) ≤ evS hs d J + (d - (pf hs J - pf hs i)) * (d - (pf hs J - pf hs i))))) ∧
      evV hs d i (t + 1) = evV hs d i t ∧ ∀ nx, AtEnd (evQa hs d) (evG hs d) i t nx → AtEnd (evQa hs d) (evG hs d) i (t + 1) nx) := by
  obtain ⟨g1, ⟨g2, g3⟩, g4, g5⟩ := ev_vals ho hj
  have hp := pf_le ho.nn (i := i) (j := J) (by omega)
  have hd2 := ho.d2
  obtain ⟨s1, s2⟩ := sq_small (t := d - (pf hs J - pf hs i)) (by omega) (by omega)
  have hco : (evQa hs d).co i J = 1000000000 + (d - (pf hs J - pf hs i)) * (d - (pf hs J - pf hs i)) := by rw [evQ_co, evPa_co (by omega) hok]
  have hokb : (evQa hs d).ok i J = true := by rw [evQ_ok]; exact decide_eq_true hok
  have hstep : evV hs d i (t + 1) = uc (evQa hs d) i J (evV hs d i t) (evG hs d J) := by unfold evV; rw [up_next, ← hJ]
  obtain ⟨v, hv⟩ : ∃ v, v = evV hs d i t := ⟨_, rfl⟩
  obtain ⟨sq, hsq⟩ : ∃ x, x = (d - (pf hs J - pf hs i)) * (d - (pf hs J - pf hs i)) := ⟨_, rfl⟩
  rw [← hsq] at s1 s2 hco ⊢
  have hg0 : 0 ≤ evG hs d J := by omega
  by_cases hlt : v < 0 ∨ (evQa hs d).co i J + evG hs d J < v
  · left
    rw [← hv] at hstep ⊢
    have hnew := uc_new hokb hg0 hlt
    rw [hnew] at hstep
    have hn0 : ¬ (evQa hs d).co i J + evG hs d J < 0 := by omega
    refine ⟨?_, ?_, ?_, ?_⟩
    · unfold pgV sqV
      by_cases h0 : v < 0
      · rw [if_pos h0]; omega
      · rw [if_neg h0, if_neg h0]; omega
    · rw [hstep]; unfold pgV; rw [if_neg hn0]; omega
    · rw [hstep]; unfold sqV; rw [if_neg hn0]; omega
    · have := AtEnd.new (P := evQa hs d) (g := evG hs d) (i := i) (t := t) (evQ_nn ho i) (by rw [← hJ]; exact hokb) (by rw [← hJ]; exact hg0) (by rw [← hJ]; rw [hv] at hlt; exact hlt)
      rw [← hJ] at this
      exact this
  · right
    rw [← hv] at hstep ⊢
    have hold := uc_old (P := evQa hs d) (i := i) (j := J) (v := v) (x := evG hs d J) (fun h => hlt (.inl h)) (fun h => hlt (.inr h))
    rw [hold] at hstep
    refine ⟨?_, hstep, fun nx h => AtEnd.keep h (by show evV hs d i (t + 1) = evV hs d i t; rw [hstep, hv])⟩
    unfold pgV sqV
    have h0 : ¬ v < 0 := fun h => hlt (.inl h)
    rw [if_neg h0, if_neg h0]
    have h1 : ¬ (evQa hs d).co i J + evG hs d J < v := fun h => hlt (.inr h)
    refine ⟨by omega, ?_⟩
    omega
theorem AtEnd.wide {P : Pa} {g : Nat → Int} {i t t' nxt : Nat} (h : AtEnd P g i t nxt) (he : up P g (-1) i t' = up P g (-1) i t) (ht : t ≤ t') : AtEnd P g i t' nxt := by
  unfold AtEnd at h ⊢
  rw [he]
  rcases h with h | ⟨a, b, c⟩
  · exact .inl h
  · exact .inr ⟨a, by omega, c⟩
/-- What the row holds when no further end is possible. -/
theorem ev_stop {hs : List Int} {d : Int} (ho : EvOk hs d) {i t nx : Nat} (hi : i < hs.length) (ht : i + t ≤ hs.length) (hs2 : i + t = hs.length ∨ d < pf hs (i + 1 + t) - pf hs i) (ha : AtEnd (evQa hs d) (evG hs d) i t nx) :
    pgV (evV hs d i t) = evK hs d i ∧ sqV (evV hs d i t) = evS hs d i ∧ (nx : Int) = evN hs d i ∧ i < nx ∧ nx ≤ hs.length := by
  have hQn : (evQa hs d).n = hs.length + 1 := rfl
  have hf : (evQa hs d).fin i = false := by show decide (i = hs.length) = false; simp; omega
  have htab := bA_tab (P := evQa hs d) (evQ_nn ho) (g := evG hs d) (i := i) (by rw [hQn]; omega) (fun _ _ _ => rfl)
  rw [hf] at htab
  have htab : up (evQa hs d) (evG hs d) (-1) i (hs.length - i) = evG hs d i := by
    rw [hQn, show hs.length + 1 - 1 - i = hs.length - i by omega] at htab; exact htab
  have hsame : up (evQa hs d) (evG hs d) (-1) i (hs.length - i) = evV hs d i t := by
    rcases hs2 with h | h
    · rw [show hs.length - i = t by omega]; rfl
    · have := up_stop (P := evQa hs d) (g := evG hs d) (base := -1) (i := i) (t := t) (hs.length - i - t) (fun j h1 h2 => by
        rw [evQ_ok]
        have := pf_le ho.nn (i := i + 1 + t) (j := j) (by omega)
        exact decide_eq_false (by omega))
      rw [show t + (hs.length - i - t) = hs.length - i by omega] at this
      exact this
  have hv : evV hs d i t = evG hs d i := by rw [← hsame]; exact htab
  obtain ⟨g1, ⟨g2, g3⟩, g4, g5⟩ := ev_vals ho (j := i) (by omega)
  have h0 : ¬ evG hs d i < 0 := by omega
  obtain ⟨K, s, L, hat⟩ := ev_at ho (i := i) (by omega)
  obtain ⟨K', s', L', q1, q2, q3, _⟩ := AtEnd.is ho hat hi (n := hs.length - i) rfl (fun _ _ _ => rfl) (AtEnd.wide ha hsame (by omega)) htab
  obtain ⟨_, _, v3⟩ := hat.vals
  refine ⟨?_, ?_, ?_, q3, q2⟩
  · rw [hv]; unfold pgV; rw [if_neg h0]; omega
  · rw [hv]; unfold sqV; rw [if_neg h0]; omega
  · rw [v3, q1]; rfl
/-- On the path: where the first page ends. -/
theorem EvAt.next {hs : List Int} {d : Int} {i K : Nat} {s : Int} {L : List Int} (ho : EvOk hs d) (h : EvAt hs d i K s L) (hi : i < hs.length) :
    ∃ (j K' : Nat) (s' : Int) (L' : List Int), i < j ∧ j ≤ hs.length ∧ evN hs d i = (j : Int) ∧ L = (j : Int) :: L' ∧ EvAt hs d j K' s' L' := by
  obtain ⟨j, K', s', L', h1, h2, _, _, _, h6, h7, _⟩ := h.step ho hi
  refine ⟨j, K', s', L', h1, h2, ?_, h6, h7⟩
  rw [h.vals.2.2, h6]; rfl
end Go.Proofs.Ytnhddepmhelgiaa
