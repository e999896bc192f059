/- A slice of slices of int that a call makes: a row written anew in place. No program in sight. -/
import Derived.Test.YtllgjgoimnimaaaNestG
namespace Go.Proofs.Ytllgjgoimnimaaa
open Go.RowKit
set_option linter.unusedVariables false
theorem GrowII.upd {w : World} {base e : Nat} {v : Value} {ls : List (List Int)} {rs : List Row} (h : GrowII w base e v ls rs) {k : Nat} (hk : k < ls.length) :
    ∃ (r : Row) (l : List Int) (g c : Nat), Hid (ls[k]? = some l) ∧ v = .slice (some ⟨g, 0, none⟩) ls.length c ∧ ls.length ≤ c ∧ g < w.heap.size ∧ w.cell? ⟨g, k, none⟩ = some (.slice r.A l.length r.c) ∧ l.length ≤ r.c ∧ RdI w r.p r.q r.A l ∧ base ≤ r.p ∧
      Hid (∀ w' m, m.length = l.length → RdI w' r.p r.q r.A m → Out r.p r.q w w' → GrowII w' base e v (ls.set k m) rs) := by
  obtain ⟨h1, h2, h3, h4⟩ := h
  have hkr : k < rs.length := by omega
  obtain ⟨g, c, hv, hg1, hg2, hc⟩ := own_some h2 (by omega)
  obtain ⟨k1, k2, k3, k4⟩ := h3 k rs[k] ls[k] (List.getElem?_eq_getElem hkr) (List.getElem?_eq_getElem hk)
  have hgr : g < rs[k].p ∨ rs[k].q ≤ g := k4 g (by rw [hv]; rfl)
  have hcell : w.cell? ⟨g, k, none⟩ = some (.slice rs[k].A ls[k].length rs[k].c) := by
    have h2' := h2
    rw [hv] at h2'
    rw [World.ownsRow.cellAt h2' k (by omega), List.getElem?_zipWith, List.getElem?_eq_getElem hkr, List.getElem?_eq_getElem hk]; rfl
  refine ⟨rs[k], ls[k], g, c, List.getElem?_eq_getElem hk, hv, hc, hg2, hcell, k1, k2, k3, fun w' m hm hR hO => ?_⟩
  have hz : List.zipWith Row.val rs (ls.set k m) = List.zipWith Row.val rs ls := by
    apply List.ext_getElem?
    intro i
    rw [List.getElem?_zipWith, List.getElem?_zipWith]
    by_cases hik : k = i
    · subst hik
      rw [List.getElem?_set_self hk, List.getElem?_eq_getElem hk, List.getElem?_eq_getElem hkr]
      simp [Row.val, hm]
    · rw [List.getElem?_set_ne hik]
  refine ⟨by rw [List.length_set]; exact h1, ?_, fun i r l hr hl => ?_, h4⟩
  · rw [hz, List.length_set]
    refine ⟨h2.1, ?_⟩
    rcases h2.2 with h | ⟨g', cap, cur, q1, q2, q3, q4⟩
    · exact .inl h
    · refine .inr ⟨g', cap, cur, q1, q2, ?_, q4⟩
      have : g' = g := by rw [q1] at hv; injection hv with hv; injection hv with hv; injection hv
      subst this
      rw [hO.block g' hg2 hgr]; exact q3
  · by_cases hik : k = i
    · subst hik
      rw [List.getElem?_set_self hk] at hl
      injection hl with hl
      rw [List.getElem?_eq_getElem hkr] at hr
      injection hr with hr
      subst hl; subst hr
      exact ⟨by rw [hm]; exact k1, hR, k3, k4⟩
    · rw [List.getElem?_set_ne hik] at hl
      obtain ⟨f1, f2, f3, f4⟩ := h3 i r l hr hl
      refine ⟨f1, f2.out hO ?_, f3, f4⟩
      rcases Nat.lt_or_gt_of_ne hik with hlt | hlt
      · have := h4 k i rs[k] r hlt (List.getElem?_eq_getElem hkr) hr; omega
      · have := h4 i k r rs[k] hlt hr (List.getElem?_eq_getElem hkr); omega
end Go.Proofs.Ytllgjgoimnimaaa
