/- The reference's table of even pages; a row that is filled in place. No walk in sight. -/
import Derived.Test.YtnhddepmhelgiaaEvI
import Derived.Test.YtnhddepmhelgiaaNestG
import Derived.Test.YtnhddepmhelgiaaFill
namespace Go.Proofs.Ytnhddepmhelgiaa
open Go.RowKit
set_option linter.unusedVariables false
/-- A row whose numbers are f 0 .. f (N - 1). -/
def rowF (N : Nat) (f : Nat → Int) : List Int := (List.range N).map f
theorem rowF_len (N : Nat) (f : Nat → Int) : (rowF N f).length = N := by simp [rowF]
theorem rowF_at {N k : Nat} (f : Nat → Int) (h : k < N) : (rowF N f)[k]? = some (f k) := by simp [rowF, h]
theorem rowF_congr {N : Nat} {f g : Nat → Int} (h : ∀ i, i < N → f i = g i) : rowF N f = rowF N g := by
  refine List.map_congr_left fun i hi => h i (by simpa using hi)
theorem rowF_set {N k : Nat} {f : Nat → Int} (x : Int) (h : k < N) : (rowF N f).set k x = rowF N (fun i => if i = k then x else f i) := by
  apply List.ext_getElem?
  intro i
  by_cases hi : i < N
  · by_cases e : i = k
    · subst e
      rw [List.getElem?_set_self (by rw [rowF_len]; exact h), rowF_at _ hi, if_pos rfl]
    · rw [List.getElem?_set_ne (fun h => e h.symm), rowF_at _ hi, rowF_at _ hi, if_neg e]
  · rw [List.getElem?_eq_none (by rw [List.length_set, rowF_len]; omega), List.getElem?_eq_none (by rw [rowF_len]; omega)]
theorem rowF_snoc (N : Nat) (f : Nat → Int) : rowF (N + 1) f = rowF N f ++ [f N] := by simp [rowF, List.range_succ]
theorem RdI.setF {w : World} {lo hi b off N k : Nat} {f : Nat → Int} (h : RdI w lo hi (some ⟨b, off, none⟩) (rowF N f)) (hk : k < N) (x : Int) : RdI (w.setCell ⟨b, off + k, none⟩ (.int .i64 x)) lo hi (some ⟨b, off, none⟩) (rowF N (fun i => if i = k then x else f i)) := by
  have := Rd.set_ h k (.int .i64 x)
  rw [← List.map_set, rowF_set x hk] at this
  exact this
/-- Row p of the table: the least squares on p pages, from each row on. -/
def evR (hs : List Int) (d : Int) (p i : Nat) : Int := tv (bw (evPa hs d) false (p + 1) i).1
def evRow (hs : List Int) (d : Int) (p : Nat) : List Int := rowF (hs.length + 1) (evR hs d p)
def evTab (hs : List Int) (d : Int) (m : Nat) : List (List Int) := (List.range m).map (evRow hs d)
theorem evTab_len (hs : List Int) (d : Int) (m : Nat) : (evTab hs d m).length = m := by simp [evTab]
theorem evTab_at {hs : List Int} {d : Int} {m p : Nat} (h : p < m) : (evTab hs d m)[p]? = some (evRow hs d p) := by simp [evTab, h]
theorem evTab_snoc (hs : List Int) (d : Int) (m : Nat) : evTab hs d (m + 1) = evTab hs d m ++ [evRow hs d m] := by simp [evTab, List.range_succ]
theorem evR_zero (hs : List Int) (d : Int) (i : Nat) : evR hs d 0 i = if i = hs.length then 0 else -1 := by
  unfold evR
  rw [bw_one, tv_bw0]
  show (if decide (i = hs.length) = true then (0 : Int) else -1) = _
  by_cases h : i = hs.length <;> simp [h]
theorem evRow_zero (hs : List Int) (d : Int) : evRow hs d 0 = rowF hs.length (fun _ => -1) ++ [0] := by
  unfold evRow
  rw [rowF_snoc, evR_zero, if_pos rfl, rowF_congr (fun i hi => by rw [evR_zero, if_neg (by omega)])]
theorem evR_end (hs : List Int) (d : Int) (p : Nat) : evR hs d (p + 1) hs.length = -1 := by
  have hPn : (evPa hs d).n = hs.length + 1 := rfl
  unfold evR
  rw [bw_dn, hPn, show hs.length + 1 - 1 - hs.length = 0 by omega]
  rfl
theorem evP_nn {hs : List Int} {d : Int} (ho : EvOk hs d) (i j : Nat) : 0 ≤ (evPa hs d).co i j := (evPa_bd ho i j).1
theorem evR_bound {hs : List Int} {d : Int} (ho : EvOk hs d) {p i : Nat} (hi : i ≤ hs.length) : -1 ≤ evR hs d p i ∧ evR hs d p i ≤ 3000000000 := by
  have hPn : (evPa hs d).n = hs.length + 1 := rfl
  have hl := ho.len
  have hu := ub_bw (P := evPa hs d) (evP_nn ho) (fun i j => by have := (evPa_bd ho i j).2; omega) (by rw [hPn]; omega) false (p + 1)
  have hn := nn_bw (P := evPa hs d) (evP_nn ho) (by rw [hPn]; omega) false (p + 1)
  unfold evR
  cases h : (bw (evPa hs d) false (p + 1) i).1 with
  | none => exact ⟨Int.le_refl _, by show (-1 : Int) ≤ _; omega⟩
  | some y =>
    have h1 := hu.2 i y (by rw [hPn]; omega) h
    have h2 := hn.2 i y h
    rw [hPn] at h1
    exact ⟨by show -1 ≤ y.1; omega, by show y.1 ≤ _; omega⟩
/-- The least over the first t ends, on p + 1 pages. -/
def evW (hs : List Int) (d : Int) (p i t : Nat) : Int := up (evPa hs d) (evR hs d p) (-1) i t
theorem evW_zero (hs : List Int) (d : Int) (p i : Nat) : evW hs d p i 0 = -1 := rfl
theorem evW_ge {hs : List Int} {d : Int} (ho : EvOk hs d) (p i : Nat) : ∀ t, i + t ≤ hs.length → -1 ≤ evW hs d p i t ∧ evW hs d p i t ≤ 4000000000
  | 0, _ => by rw [evW_zero]; omega
  | t + 1, ht => by
    have ih := evW_ge ho p i t (by omega)
    have hb := evR_bound ho (p := p) (i := i + 1 + t) (by omega)
    have hc := evPa_bd ho i (i + 1 + t)
    have e : evW hs d p i (t + 1) = uc (evPa hs d) i (i + 1 + t) (evW hs d p i t) (evR hs d p (i + 1 + t)) := by unfold evW; rw [up_next]
    rw [e]
    unfold uc
    split
    · rename_i h; simp only [Bool.and_eq_true, decide_eq_true_eq] at h; omega
    · exact ih
/-- One end more. -/
theorem evW_step {hs : List Int} {d : Int} (ho : EvOk hs d) {p i t J : Nat} (hJ : J = i + t) (hj : J < hs.length) (hok : pf hs (J + 1) - pf hs i ≤ d) :
    (evR hs d p (J + 1) < 0 ∧ evW hs d p i (t + 1) = evW hs d p i t) ∨
    (0 ≤ evR hs d p (J + 1) ∧ (evW hs d p i t < 0 ∨ (d - (pf hs (J + 1) - pf hs i)) * (d - (pf hs (J + 1) - pf hs i)) + evR hs d p (J + 1) < evW hs d p i t) ∧ evW hs d p i (t + 1) = (d - (pf hs (J + 1) - pf hs i)) * (d - (pf hs (J + 1) - pf hs i)) + evR hs d p (J + 1)) ∨
    (0 ≤ evR hs d p (J + 1) ∧ ¬ evW hs d p i t < 0 ∧ ¬ (d - (pf hs (J + 1) - pf hs i)) * (d - (pf hs (J + 1) - pf hs i)) + evR hs d p (J + 1) < evW hs d p i t ∧ evW hs d p i (t + 1) = evW hs d p i t) := by
  have e0 : i + 1 + t = J + 1 := by omega
  have e : evW hs d p i (t + 1) = uc (evPa hs d) i (J + 1) (evW hs d p i t) (evR hs d p (J + 1)) := by unfold evW; rw [up_next, e0]
  have hokb : (evPa hs d).ok i (J + 1) = true := by rw [evPa_ok]; exact decide_eq_true hok
  have hco := evPa_co (hs := hs) (d := d) (i := i) (j := J + 1) (by omega) hok
  by_cases h0 : 0 ≤ evR hs d p (J + 1)
  · right
    by_cases h1 : evW hs d p i t < 0 ∨ (evPa hs d).co i (J + 1) + evR hs d p (J + 1) < evW hs d p i t
    · left
      rw [e, uc_new hokb h0 h1, hco]
      rw [hco] at h1
      exact ⟨h0, h1, rfl⟩
    · right
      have h2 : ¬ evW hs d p i t < 0 := fun h => h1 (.inl h)
      have h3 : ¬ (evPa hs d).co i (J + 1) + evR hs d p (J + 1) < evW hs d p i t := fun h => h1 (.inr h)
      rw [e, uc_old h2 h3]
      rw [hco] at h3
      exact ⟨h0, h2, h3, rfl⟩
  · left
    rw [e, uc_none h0]
    exact ⟨by omega, rfl⟩
theorem evW_stop {hs : List Int} {d : Int} (ho : EvOk hs d) {p i t : Nat} (hi : i < hs.length) (ht : i + t ≤ hs.length) (h : i + t = hs.length ∨ d < pf hs (i + t + 1) - pf hs i) : evW hs d p i t = evR hs d (p + 1) i := by
  have hPn : (evPa hs d).n = hs.length + 1 := rfl
  have htab := bw_tab (P := evPa hs d) (evP_nn ho) (k := p) (g := evR hs d p) (i := i) (by rw [hPn]; omega) (fun _ _ _ => rfl)
  rw [hPn, show hs.length + 1 - 1 - i = hs.length - i by omega] at htab
  have htab : up (evPa hs d) (evR hs d p) (-1) i (hs.length - i) = evR hs d (p + 1) i := htab
  rw [← htab]
  unfold evW
  rcases h with h | h
  · rw [show hs.length - i = t by omega]
  · have := up_stop (P := evPa hs d) (g := evR hs d p) (base := -1) (i := i) (t := t) (hs.length - i - t) (fun j h1 h2 => by
      rw [evPa_ok]
      have := pf_le ho.nn (i := i + t + 1) (j := j) (by omega)
      exact decide_eq_false (by omega))
    rw [show t + (hs.length - i - t) = hs.length - i by omega] at this
    exact this.symm
/-- A literal of one row. -/
theorem GrowII.one {w : World} {base e : Nat} {A : Option Addr} {c p : Nat} {l : List Int} (hc : l.length ≤ c) (hR : RdI w p w.heap.size A l) (hb : base ≤ p) (hbw : base ≤ w.heap.size) :
    GrowII (w.alloc (.cells #[.slice A l.length c] e)) base e (.slice (some ⟨w.heap.size, 0, none⟩) 1 1) [l] [⟨A, c, p, w.heap.size⟩] := by
  refine ⟨rfl, ⟨by simp, .inr ⟨w.heap.size, 1, #[.slice A l.length c], rfl, hbw, heap_alloc_new w _, Nat.le_refl _, by simp [maxLen], by simp, by simp [Row.val]⟩⟩, fun i r m hr hm => ?_, fun i j r s hij hr hs => ?_⟩
  · have hi : i = 0 := by have := (List.getElem?_eq_some_iff.1 hm).1; simpa using this
    subst hi
    simp at hr hm
    subst hr; subst hm
    refine ⟨hc, RdI.ext hR (Ext.alloc _ _), hb, fun g hg => ?_⟩
    have : g = w.heap.size := by simp [Value.ownBlock] at hg; exact hg.symm
    right; show w.heap.size ≤ g; omega
  · have hj : j < 1 := by have := (List.getElem?_eq_some_iff.1 hs).1; simpa using this
    omega
end Go.Proofs.Ytnhddepmhelgiaa
