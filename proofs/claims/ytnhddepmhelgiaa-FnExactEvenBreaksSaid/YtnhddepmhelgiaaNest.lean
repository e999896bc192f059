/- Slices of slices of int whose rows lie apart. No program in sight. -/
import Derived.Test.YtnhddepmhelgiaaApp
namespace Go.Proofs.Ytnhddepmhelgiaa
open Go.RowKit
set_option linter.unusedVariables false
/-- Where a row lies: its address, its capacity, the blocks p .. q-1. -/
structure Row where
  A : Option Addr
  c : Nat
  p : Nat
  q : Nat
def Row.val (r : Row) (l : List Int) : Value := .slice r.A l.length r.c
/-- The rows lie in blocks of their own, apart from each other and from the outer row. -/
def RdII (w : World) (lo hi : Nat) (A : Option Addr) (ls : List (List Int)) : Prop :=
  ∃ (rs : List Row) (p0 q0 : Nat), rs.length = ls.length ∧ lo ≤ p0 ∧ q0 ≤ hi ∧ hi ≤ w.heap.size ∧ Rd w p0 q0 A (List.zipWith Row.val rs ls) ∧
    (∀ (i : Nat) r l, rs[i]? = some r → ls[i]? = some l → l.length ≤ r.c ∧ RdI w r.p r.q r.A l ∧ lo ≤ r.p ∧ r.q ≤ hi ∧ (r.q ≤ p0 ∨ q0 ≤ r.p)) ∧
    (∀ (i j : Nat) r s, i < j → rs[i]? = some r → rs[j]? = some s → r.q ≤ s.p ∨ s.q ≤ r.p)
theorem RdII.ext {w w' : World} {lo hi : Nat} {A : Option Addr} {ls : List (List Int)} (h : RdII w lo hi A ls) (hE : Ext w w') : RdII w' lo hi A ls := by
  obtain ⟨rs, p0, q0, h1, h2, h3, h4, h5, h6, h7⟩ := h
  exact ⟨rs, p0, q0, h1, h2, h3, Nat.le_trans h4 hE.size, h5.ext hE, fun i r l hr hl => by
    obtain ⟨g1, g2, g3⟩ := h6 i r l hr hl
    exact ⟨g1, g2.ext hE, g3⟩, h7⟩
theorem RdII.out {w w' : World} {lo hi lo' hi' : Nat} {A : Option Addr} {ls : List (List Int)} (h : RdII w lo hi A ls) (ho : Out lo' hi' w w') (hd : hi ≤ lo' ∨ hi' ≤ lo) : RdII w' lo hi A ls := by
  obtain ⟨rs, p0, q0, h1, h2, h3, h4, h5, h6, h7⟩ := h
  exact ⟨rs, p0, q0, h1, h2, h3, Nat.le_trans h4 ho.size, h5.out ho (by omega), fun i r l hr hl => by
    obtain ⟨g1, g2, g3, g4, g5⟩ := h6 i r l hr hl
    exact ⟨g1, g2.out ho (by omega), g3, g4, g5⟩, h7⟩
theorem RdII.get {w : World} {lo hi : Nat} {A : Option Addr} {ls : List (List Int)} (h : RdII w lo hi A ls) {k : Nat} (hk : k < ls.length) :
    ∃ (r : Row) (l : List Int) (b off : Nat), Hid (ls[k]? = some l) ∧ A = some ⟨b, off, none⟩ ∧ b < w.heap.size ∧ w.cell? ⟨b, off + k, none⟩ = some (.slice r.A l.length r.c) ∧ l.length ≤ r.c ∧ RdI w r.p r.q r.A l ∧ lo ≤ r.p ∧ r.q ≤ hi := by
  obtain ⟨rs, p0, q0, h1, h2, h3, h4, h5, h6, h7⟩ := h
  have hkr : k < rs.length := by omega
  obtain ⟨b, off, e, _, _, hb, hc⟩ := h5.at_ (k := k) (by simp; omega)
  have hcell := (hc k (Row.val rs[k] ls[k]) (by rw [List.getElem?_zipWith, List.getElem?_eq_getElem hkr, List.getElem?_eq_getElem hk])).1
  obtain ⟨g1, g2, g3, g4, _⟩ := h6 k rs[k] ls[k] (List.getElem?_eq_getElem hkr) (List.getElem?_eq_getElem hk)
  exact ⟨rs[k], ls[k], b, off, List.getElem?_eq_getElem hk, e, hb, hcell, g1, g2, g3, g4⟩
end Go.Proofs.Ytnhddepmhelgiaa
