/- A slice of slices of int that a call makes by append. No program in sight. -/
import Derived.Test.YtnhddepmhelgiaaNest
namespace Go.Proofs.Ytnhddepmhelgiaa
open Go.RowKit
set_option linter.unusedVariables false
theorem zip_snoc {rs : List Row} {ls : List (List Int)} (h : rs.length = ls.length) (r : Row) (l : List Int) : List.zipWith Row.val (rs ++ [r]) (ls ++ [l]) = List.zipWith Row.val rs ls ++ [r.val l] := by
  rw [List.zipWith_append h]; rfl
/-- A row of the call's own whose elements are slices of the call's own, apart from each other and from it. -/
def GrowII (w : World) (base e : Nat) (v : Value) (ls : List (List Int)) (rs : List Row) : Prop :=
  rs.length = ls.length ∧ w.ownsRow base e 1 v ls.length (List.zipWith Row.val rs ls) ∧
    (∀ (i : Nat) r l, rs[i]? = some r → ls[i]? = some l → l.length ≤ r.c ∧ RdI w r.p r.q r.A l ∧ base ≤ r.p ∧ ∀ g, v.ownBlock = some g → (g < r.p ∨ r.q ≤ g)) ∧
    (∀ (i j : Nat) r s, i < j → rs[i]? = some r → rs[j]? = some s → r.q ≤ s.p ∨ s.q ≤ r.p)
section
variable {w w1 w2 : World} {base e : Nat} {v v' : Value} {ls : List (List Int)} {rs : List Row}
theorem GrowII.nil (w : World) (base e : Nat) : GrowII w base e (.slice none 0 0) [] [] := ⟨rfl, own_nil _ _ _ _, fun i r l hr => by simp at hr, fun i j r s _ hr => by simp at hr⟩
theorem GrowII.of0 (h : w.ownsRow base e 1 v 0 []) : GrowII w base e v [] [] := ⟨rfl, h, fun i r l hr => by simp at hr, fun i j r s _ hr => by simp at hr⟩
theorem GrowII.ext (h : GrowII w base e v ls rs) (hE : Ext w w1) : GrowII w1 base e v ls rs :=
  ⟨h.1, ownsRow_ext h.2.1 hE, fun i r l hr hl => by obtain ⟨g1, g2, g3, g4⟩ := h.2.2.1 i r l hr hl; exact ⟨g1, g2.ext hE, g3, g4⟩, h.2.2.2⟩
/-- One row more: it lies in the blocks that were made since. -/
theorem GrowII.push (h : GrowII w base e v ls rs) (hE : Ext w w1) {A : Option Addr} {c : Nat} {l : List Int} (hc : l.length ≤ c) (hR : RdI w1 w.heap.size w1.heap.size A l) (hb : base ≤ w.heap.size)
    (hown : w2.ownsRow base e 1 v' (ls.length + 1) (List.zipWith Row.val rs ls ++ [.slice A l.length c])) (o : Obj) (hg : (w1.alloc o).grownBy w2 v.ownBlock) (hat : v'.ownBlock = v.ownBlock ∨ v'.ownBlock = some (w1.alloc o).heap.size) :
    GrowII w2 base e v' (ls ++ [l]) (rs ++ [⟨A, c, w.heap.size, w1.heap.size⟩]) := by
  obtain ⟨h1, h2, h3, h4⟩ := h
  have hlt := h2.lt
  have hs := hE.size
  have hsz : (w1.alloc o).heap.size = w1.heap.size + 1 := by simp
  have keep : ∀ {p q : Nat} {B : Option Addr} {m : List Int}, RdI w1 p q B m → (∀ g, v.ownBlock = some g → (g < p ∨ q ≤ g)) → RdI w2 p q B m := by
    intro p q B m hm hne
    have hm' := RdI.ext hm (Ext.alloc w1 o)
    refine Rd.keep hm' (Nat.le_trans hm'.1 hg.size) fun k k1 k2 => hg.block k (by have := hm.1; omega) ?_
    intro hk
    have := hne k hk.symm
    omega
  refine ⟨by simp [h1], by rw [zip_snoc h1, List.length_append]; exact hown, fun i r m hr hm => ?_, fun i j r s hij hr hs' => ?_⟩
  · rcases Nat.lt_or_ge i rs.length with hi | hi
    · rw [List.getElem?_append_left hi] at hr
      rw [List.getElem?_append_left (by omega)] at hm
      obtain ⟨g1, g2, g3, g4⟩ := h3 i r m hr hm
      refine ⟨g1, keep (g2.ext hE) g4, g3, fun g hgv => ?_⟩
      rcases hat with ha | ha
      · exact g4 g (by rw [← ha]; exact hgv)
      · rw [ha] at hgv; injection hgv with hgv
        have := g2.1; omega
    · rw [List.getElem?_append_right hi] at hr
      have hi0 : i - rs.length = 0 := by have := (List.getElem?_eq_some_iff.1 hr).1; simpa using this
      rw [hi0] at hr
      simp at hr
      rw [List.getElem?_append_right (by omega), show i - ls.length = 0 by omega] at hm
      simp at hm
      subst hr; subst hm
      refine ⟨hc, keep hR (fun g hgv => .inl (hlt g hgv).2), hb, fun g hgv => ?_⟩
      rcases hat with ha | ha
      · rw [ha] at hgv; exact .inl (hlt g hgv).2
      · rw [ha] at hgv; injection hgv with hgv
        right; show w1.heap.size ≤ g; omega
  · have hj : j < rs.length + 1 := by have := (List.getElem?_eq_some_iff.1 hs').1; simpa using this
    rw [List.getElem?_append_left (by omega)] at hr
    rcases Nat.lt_or_ge j rs.length with hj' | hj'
    · rw [List.getElem?_append_left hj'] at hs'
      exact h4 i j r s hij hr hs'
    · rw [List.getElem?_append_right hj', show j - rs.length = 0 by omega] at hs'
      simp at hs'
      subst hs'
      obtain ⟨m, hm⟩ : ∃ m, ls[i]? = some m := ⟨_, List.getElem?_eq_getElem (by omega)⟩
      exact .inl (h3 i r m hr hm).2.1.1
theorem GrowII.rd {A : Option Addr} {n c : Nat} (h : GrowII w base e (.slice A n c) ls rs) (hb : base ≤ w.heap.size) : RdII w base w.heap.size A ls := by
  obtain ⟨h1, h2, h3, h4⟩ := h
  rcases h2.2 with ⟨hv, h0⟩ | ⟨g, cap, cur, hv, hg, hh, _⟩
  · obtain rfl : ls = [] := List.eq_nil_of_length_eq_zero h0
    obtain rfl : rs = [] := List.eq_nil_of_length_eq_zero h1
    exact ⟨[], base, base, rfl, Nat.le_refl _, hb, Nat.le_refl _, Rd.nil hb, fun i r l hr => by simp at hr, fun i j r s _ hr => by simp at hr⟩
  · injection hv with hA hn hc
    subst hA; subst hn; subst hc
    have hlt : g < w.heap.size := (Array.getElem?_eq_some_iff.1 hh).1
    have hRd := Rd.of_own h2
    refine ⟨rs, g, g + 1, h1, hg, by omega, Nat.le_refl _, ⟨by omega, fun hne => ?_⟩, fun i r l hr hl => ?_, h4⟩
    · obtain ⟨b, off, e1, k1, k2, hc⟩ := hRd.2 hne
      injection e1 with e1
      injection e1 with eb eo
      subst eb; subst eo
      exact ⟨g, 0, rfl, Nat.le_refl _, by omega, hc⟩
    · obtain ⟨g1, g2, g3, g4⟩ := h3 i r l hr hl
      have := g4 g rfl
      exact ⟨g1, g2, g3, g2.1, by omega⟩
end
/-- A fresh [][]int and a bool. -/
def RetII2 (w : World) (p : List (List Int) × Bool) (e : Ending) (w' : World) : Prop := ∃ A c, e = .returned (.tuple #[.slice A p.1.length c, .bool p.2]) ∧ p.1.length ≤ c ∧ RdII w' w.heap.size w'.heap.size A p.1 ∧ Ext w w'
theorem RdII.empty {w : World} {lo hi : Nat} (A : Option Addr) (h1 : lo ≤ hi) (h2 : hi ≤ w.heap.size) : RdII w lo hi A [] :=
  ⟨[], lo, lo, rfl, Nat.le_refl _, h1, h2, Rd.nil (by omega), fun i r l hr => by simp at hr, fun i j r s _ hr => by simp at hr⟩
theorem retII2_lit {w w' : World} {a : Option Addr} {c : Nat} (hE : Ext w w') : RetII2 w ([], false) (.returned (.tuple #[.slice a 0 c, .bool false])) w' := ⟨a, c, rfl, Nat.zero_le _, RdII.empty _ hE.size (Nat.le_refl _), hE⟩
theorem GrowII.form {w : World} {base e : Nat} {v : Value} {ls : List (List Int)} {rs : List Row} (h : GrowII w base e v ls rs) : ∃ A c, v = .slice A ls.length c ∧ ls.length ≤ c := by
  obtain ⟨A, c, h1, h2, _⟩ := own_form h.2.1
  exact ⟨A, c, h1, h2⟩
theorem RdII.toAA_ {w : World} {lo hi : Nat} {A : Option Addr} {ls : List (List Int)} (h : RdII w lo hi A ls) :
    ∃ rs : List Row, rs.length = ls.length ∧ RdA w 0 w.heap.size A (List.zipWith Row.val rs ls) ∧ ∀ (i : Nat) r l, rs[i]? = some r → ls[i]? = some l → RdA w 0 w.heap.size r.A (l.map (Value.int .i64)) := by
  obtain ⟨rs, p0, q0, h1, h2, h3, h4, h5, h6, h7⟩ := h
  have wd : ∀ {p q : Nat} {B : Option Addr} {xs : List Value}, Rd w p q B xs → RdA w 0 w.heap.size B xs := fun hr => Rd.toA (hr.wide (Nat.zero_le _) hr.1 (Nat.le_refl _))
  exact ⟨rs, h1, wd h5, fun i r l hr hl => wd (h6 i r l hr hl).2.1⟩
end Go.Proofs.Ytnhddepmhelgiaa
