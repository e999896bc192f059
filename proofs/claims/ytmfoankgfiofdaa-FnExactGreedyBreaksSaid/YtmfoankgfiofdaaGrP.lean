/- Greedy breaks, plainly. No program in sight. -/
import Derived.Test.YtmfoankgfiofdaaParP
namespace Go.Proofs.Ytmfoankgfiofdaa
open Go.RowKit
set_option linter.unusedVariables false
/-- One more word fits. -/
def gOk (l : List Int) (r : Rul) (m : Int) (f n : Nat) : Bool := (decide (f + n < l.length) && decide (n < 20)) && decide (sumW (cutL l f (f + n + 1)) + (n : Int) * r.least ≤ m)
def gGo (l : List Int) (r : Rul) (m : Int) (f : Nat) : Nat → Nat → Nat
  | 0, n => n
  | k + 1, n => if gOk l r m f n then gGo l r m f k (n + 1) else n
def gN (l : List Int) (r : Rul) (m : Int) (f : Nat) : Nat := gGo l r m f 20 0
theorem gGo_no {l : List Int} {r : Rul} {m : Int} {f n : Nat} (h : gOk l r m f n = false) (k : Nat) : gGo l r m f k n = n := by cases k <;> simp [gGo, h]
theorem gGo_yes {l : List Int} {r : Rul} {m : Int} {f n : Nat} (h : gOk l r m f n = true) (k : Nat) : gGo l r m f (k + 1) n = gGo l r m f k (n + 1) := by simp [gGo, h]
theorem gOk_parts {l : List Int} {r : Rul} {m : Int} {f n : Nat} (h : gOk l r m f n = true) : f + n < l.length ∧ n < 20 ∧ sumW (cutL l f (f + n + 1)) + (n : Int) * r.least ≤ m := by
  simp only [gOk, Bool.and_eq_true, decide_eq_true_eq] at h
  exact ⟨h.1.1, h.1.2, h.2⟩
theorem gGo_le {l : List Int} {r : Rul} {m : Int} {f : Nat} : ∀ k n, n ≤ l.length - f → gGo l r m f k n ≤ l.length - f
  | 0, n, h => h
  | k + 1, n, h => by
    cases hg : gOk l r m f n
    · rw [gGo_no hg]; exact h
    · rw [gGo_yes hg]; exact gGo_le k (n + 1) (by have := (gOk_parts hg).1; omega)
theorem gGo_ge {l : List Int} {r : Rul} {m : Int} {f : Nat} : ∀ k n, n ≤ gGo l r m f k n
  | 0, n => Nat.le_refl _
  | k + 1, n => by
    cases hg : gOk l r m f n
    · rw [gGo_no hg]; exact Nat.le_refl _
    · rw [gGo_yes hg]; have := gGo_ge (l := l) (r := r) (m := m) (f := f) k (n + 1); omega
theorem gGo_ok {l : List Int} {r : Rul} {m : Int} {f : Nat} : ∀ k n, n < gGo l r m f k n → gOk l r m f (gGo l r m f k n - 1) = true
  | 0, n, h => absurd h (Nat.lt_irrefl _)
  | k + 1, n, h => by
    cases hg : gOk l r m f n
    · rw [gGo_no hg] at h; omega
    · rw [gGo_yes hg] at h ⊢
      by_cases he : gGo l r m f k (n + 1) = n + 1
      · rw [he]; exact hg
      · exact gGo_ok k (n + 1) (by have := gGo_ge (l := l) (r := r) (m := m) (f := f) k (n + 1); omega)
theorem gN_le (l : List Int) (r : Rul) (m : Int) (f : Nat) : gN l r m f ≤ l.length - f := gGo_le 20 0 (Nat.zero_le _)
theorem gN_zero {l : List Int} {r : Rul} {m : Int} {f : Nat} (h : gOk l r m f 0 = false) : gN l r m f = 0 := gGo_no h 20
theorem gN_one {l : List Int} {r : Rul} {m : Int} {f : Nat} (h : gOk l r m f 0 = true) : gGo l r m f 19 1 = gN l r m f := (gGo_yes h 19).symm
theorem gN_pos {l : List Int} {r : Rul} {m : Int} {f : Nat} (h : gOk l r m f 0 = true) : 1 ≤ gN l r m f := by rw [← gN_one h]; exact gGo_ge 19 1
theorem gGo_congr {l l' : List Int} {r : Rul} {m : Int} {f f' : Nat} (h : ∀ n, gOk l r m f n = gOk l' r m f' n) : ∀ k n, gGo l r m f k n = gGo l' r m f' k n
  | 0, n => rfl
  | k + 1, n => by
    cases hg : gOk l r m f n
    · rw [gGo_no hg, gGo_no (by rw [← h]; exact hg)]
    · rw [gGo_yes hg, gGo_yes (by rw [← h]; exact hg)]; exact gGo_congr h k (n + 1)
theorem gN_cut {l : List Int} {r : Rul} {m : Int} {f : Nat} (hf : f < l.length) : gN (cutL l f (min l.length (f + 20))) r m 0 = gN l r m f := by
  refine gGo_congr (fun n => ?_) 20 0
  have hlen := cutL_len l (i := f) (k := min l.length (f + 20)) (Nat.min_le_left _ _)
  by_cases hn : f + n < l.length ∧ n < 20
  · have e1 : decide (0 + n < (cutL l f (min l.length (f + 20))).length) = true := by rw [hlen]; simp; omega
    have e2 : decide (f + n < l.length) = true := by simp; omega
    have e3 : cutL (cutL l f (min l.length (f + 20))) 0 (0 + n + 1) = cutL l f (f + n + 1) := by
      apply List.ext_getElem?
      intro j
      by_cases hj : j < n + 1
      · rw [cutL_at (by omega), Nat.zero_add, cutL_at (by omega), cutL_at (by omega)]
      · rw [List.getElem?_eq_none (by simp [cutL]; omega), List.getElem?_eq_none (by simp [cutL]; omega)]
    simp only [gOk, e1, e2, e3]
  · have e : ∀ {P Q : Bool}, P = false → (P && Q) = false := fun h => by rw [h]; rfl
    rw [gOk, gOk, e (by rw [hlen]; simp; omega), e (by simp; omega)]
def gRest (l : List Int) (r : Rul) (m : Int) (F : Nat) : Option (List Int) :=
  if h : F < l.length then (if h0 : gN l r m F = 0 then none else (gRest l r m (F + gN l r m F)).map (fun R => if 0 < F then (F : Int) :: R else R)) else some []
termination_by l.length - F
theorem gRest_end {l : List Int} {r : Rul} {m : Int} {F : Nat} (h : l.length ≤ F) : gRest l r m F = some [] := by rw [gRest, dif_neg (by omega)]
theorem gRest_none {l : List Int} {r : Rul} {m : Int} {F : Nat} (h : F < l.length) (h0 : gN l r m F = 0) : gRest l r m F = none := by rw [gRest, dif_pos h, dif_pos h0]
theorem gRest_some {l : List Int} {r : Rul} {m : Int} {F : Nat} (h : F < l.length) (h0 : ¬ gN l r m F = 0) : gRest l r m F = (gRest l r m (F + gN l r m F)).map (fun R => if 0 < F then (F : Int) :: R else R) := by rw [gRest, dif_pos h, dif_neg h0]
theorem foldW : ∀ (c : List Int) (a : Int), 0 ≤ a → a + 600 * c.length ≤ 4611686018427387904 → (∀ x ∈ c, 1 ≤ x ∧ x ≤ 600) → a ≤ c.foldl (fun n x => wrap64 (n + x)) a ∧ ∀ x ∈ c, x ≤ c.foldl (fun n x => wrap64 (n + x)) a
  | [], a, _, _, _ => ⟨Int.le_refl _, fun x hx => by cases hx⟩
  | y :: ys, a, h0, hb, hm => by
    have hy := hm y (List.mem_cons_self ..)
    simp only [List.length_cons] at hb
    have hw : wrap64 (a + y) = a + y := w64 (by omega) (by omega)
    obtain ⟨i1, i2⟩ := foldW ys (a + y) (by omega) (by omega) fun x hx => hm x (List.mem_cons_of_mem _ hx)
    simp only [List.foldl_cons, hw]
    refine ⟨by omega, fun x hx => ?_⟩
    rcases List.mem_cons.1 hx with h | h
    · subst h; omega
    · exact i2 x h
theorem mem_sumW {c : List Int} (hl : c.length ≤ 1000) (hm : ∀ x ∈ c, 1 ≤ x ∧ x ≤ 600) {x : Int} (hx : x ∈ c) : x ≤ sumW c := (foldW c 0 (Int.le_refl _) (by omega) hm).2 x hx
theorem gOk_first {l : List Int} {r : Rul} {m : Int} {F : Nat} {x : Int} (hx : l[F]? = some x) (h1 : 1 ≤ x) (h2 : x ≤ 600) (h3 : x ≤ m) : gOk l r m F 0 = true := by
  have hF := (List.getElem?_eq_some_iff.1 hx).1
  have e : cutL l F (F + 0 + 1) = [x] := by rw [Nat.add_zero, cutL_succ hx (Nat.le_refl _), cutL_empty (Nat.le_refl _)]; rfl
  have e2 : sumW [x] = x := by show wrap64 (0 + x) = x; rw [w64 (by omega) (by omega)]; omega
  simp only [gOk, e, e2]
  simp; omega
theorem gRest_all {l : List Int} {r : Rul} {m : Int} (hm : ∀ x ∈ l, 1 ≤ x ∧ x ≤ 600) (ha : ∀ x ∈ l, x ≤ m) : ∀ d F : Nat, l.length - F ≤ d → ∃ B, gRest l r m F = some B
  | 0, F, h => ⟨[], gRest_end (by omega)⟩
  | d + 1, F, h => by
    by_cases hF : F < l.length
    · have hx := List.getElem?_eq_getElem hF
      have hmem := List.getElem_mem hF
      have hp := gN_pos (gOk_first (r := r) hx (hm _ hmem).1 (hm _ hmem).2 (ha _ hmem))
      obtain ⟨B, hB⟩ := gRest_all (r := r) hm ha d (F + gN l r m F) (by omega)
      rw [gRest_some hF (by omega), hB]
      exact ⟨_, rfl⟩
    · exact ⟨[], gRest_end (by omega)⟩
theorem gRest_bound {l : List Int} {r : Rul} {m : Int} (hr : 0 ≤ r.least) (hl : l.length ≤ 1000) (hm : ∀ x ∈ l, 1 ≤ x ∧ x ≤ 600) : ∀ (d F : Nat) (B : List Int), l.length - F ≤ d → gRest l r m F = some B → ∀ (j : Nat) x, F ≤ j → l[j]? = some x → x ≤ m
  | 0, F, B, h, _, j, x, hj, hx => by have := (List.getElem?_eq_some_iff.1 hx).1; omega
  | d + 1, F, B, h, hB, j, x, hj, hx => by
    have hjl := (List.getElem?_eq_some_iff.1 hx).1
    have hF : F < l.length := by omega
    by_cases h0 : gN l r m F = 0
    · rw [gRest_none hF h0] at hB; cases hB
    · rw [gRest_some hF h0] at hB
      by_cases hjn : j < F + gN l r m F
      · obtain ⟨q1, q2, q3⟩ := gOk_parts (gGo_ok (l := l) (r := r) (m := m) (f := F) 20 0 (by show 0 < gN l r m F; omega))
        have hq : gGo l r m F 20 0 = gN l r m F := rfl
        rw [hq] at q1 q2 q3
        rw [show F + (gN l r m F - 1) + 1 = F + gN l r m F from by omega] at q3
        have hmem : x ∈ cutL l F (F + gN l r m F) := by
          refine List.mem_of_getElem? (i := j - F) ?_
          rw [cutL_at (by omega), show F + (j - F) = j from by omega]; exact hx
        have hs := mem_sumW (by rw [cutL_len l (by omega)]; omega) (fun y hy => hm y (cutL_mem hy)) hmem
        have hp : 0 ≤ ((gN l r m F - 1 : Nat) : Int) * r.least := Int.mul_nonneg (by omega) hr
        omega
      · cases hR : gRest l r m (F + gN l r m F) with
        | none => rw [hR] at hB; cases hB
        | some R => exact gRest_bound hr hl hm d _ R (by omega) hR j x (by omega) hx
def gFin (B : List Int) : Option (List Int) → List Int × Bool
  | none => ([], false)
  | some R => (B ++ R, true)
def gAll (l : List Int) (m : Int) : Bool := l.all fun x => inB x 1 m
def gP (l : List Int) (r : Rul) (m : Int) : List Int × Bool := if asked l r m then gFin [] (gRest l r m 0) else ([], false)
theorem gP_bad {l : List Int} {r : Rul} {m : Int} (h : asked l r m = false) : gP l r m = ([], false) := by simp only [gP, h]; rfl
theorem gP_good {l : List Int} {r : Rul} {m : Int} (h : asked l r m = true) : gP l r m = gFin [] (gRest l r m 0) := by simp only [gP, h]; rfl
theorem gP_wide {l : List Int} {r : Rul} {m : Int} (h : asked l r m = true) (h' : gAll l m = false) : gP l r m = ([], false) := by
  obtain ⟨hp, ⟨r1, _, _, _⟩, _, _⟩ := asked_parts h
  rw [gP_good h]
  cases hR : gRest l r m 0 with
  | none => rfl
  | some R =>
    exfalso
    have hall : gAll l m = true := by
      rw [gAll, List.all_eq_true]
      intro x hx
      obtain ⟨j, hj⟩ := List.getElem?_of_mem hx
      exact inB_iff.2 ⟨(pw_mem hp x hx).1, gRest_bound (by omega) (by have := pw_len hp; omega) (pw_mem hp) _ 0 R (Nat.le_refl _) hR j x (Nat.zero_le _) hj⟩
    rw [hall] at h'; cases h'
theorem gAll_mem {l : List Int} {m : Int} (h : gAll l m = true) : ∀ x ∈ l, x ≤ m := fun x hx => (inB_iff.1 (List.all_eq_true.1 h x hx)).2
theorem gFin_step {l : List Int} {r : Rul} {m : Int} {F : Nat} (B : List Int) (h : F < l.length) (h0 : ¬ gN l r m F = 0) (hF : 0 < F) : gFin B (gRest l r m F) = gFin (B ++ [(F : Int)]) (gRest l r m (F + gN l r m F)) := by
  rw [gRest_some h h0]
  cases gRest l r m (F + gN l r m F) with
  | none => rfl
  | some R => simp [gFin, hF]
theorem gFin_step0 {l : List Int} {r : Rul} {m : Int} (B : List Int) (h : 0 < l.length) (h0 : ¬ gN l r m 0 = 0) : gFin B (gRest l r m 0) = gFin B (gRest l r m (gN l r m 0)) := by
  rw [gRest_some h h0, Nat.zero_add]
  cases gRest l r m (gN l r m 0) with
  | none => rfl
  | some R => simp [gFin]
end Go.Proofs.Ytmfoankgfiofdaa
