/- Even pages, plainly. No program in sight. -/
import Derived.Test.YtnhddepmhelgiaaEvG
namespace Go.Proofs.Ytnhddepmhelgiaa
open Go.RowKit
set_option linter.unusedVariables false
/-- The same pages, each counted as 10^9 besides. -/
def evQa (hs : List Int) (d : Int) : Pa := ⟨hs.length + 1, (evPa hs d).ok, fun i j => 1000000000 + (evPa hs d).co i j, (evPa hs d).fin⟩
/-- What both programs take for granted. -/
structure EvOk (hs : List Int) (d : Int) : Prop where
  d1 : 1 ≤ d
  d2 : d ≤ 1000
  row : ∀ x ∈ hs, 0 ≤ x ∧ x ≤ d
  len : hs.length ≤ 24
theorem EvOk.nn {hs : List Int} {d : Int} (h : EvOk hs d) : ∀ x ∈ hs, 0 ≤ x := fun x hx => (h.row x hx).1
theorem evPa_ok (hs : List Int) (d : Int) (i j : Nat) : (evPa hs d).ok i j = decide (pf hs j - pf hs i ≤ d) := rfl
theorem evPa_co {hs : List Int} {d : Int} {i j : Nat} (h : i < j) (h2 : pf hs j - pf hs i ≤ d) : (evPa hs d).co i j = (d - (pf hs j - pf hs i)) * (d - (pf hs j - pf hs i)) := if_pos ⟨h, h2⟩
theorem sq_small {t : Int} (h0 : 0 ≤ t) (h1 : t ≤ 1000) : 0 ≤ t * t ∧ t * t ≤ 1000000 :=
  ⟨Int.mul_nonneg h0 h0, by have := Int.mul_le_mul h1 h1 h0 (by omega); omega⟩
theorem evPa_bd {hs : List Int} {d : Int} (h : EvOk hs d) (i j : Nat) : 0 ≤ (evPa hs d).co i j ∧ (evPa hs d).co i j ≤ 1000000 := by
  show 0 ≤ (if i < j ∧ pf hs j - pf hs i ≤ d then (d - (pf hs j - pf hs i)) * (d - (pf hs j - pf hs i)) else 0) ∧ (if i < j ∧ pf hs j - pf hs i ≤ d then (d - (pf hs j - pf hs i)) * (d - (pf hs j - pf hs i)) else 0) ≤ 1000000
  split
  · rename_i hh
    have h1 := pf_le h.nn (Nat.le_of_lt hh.1)
    have h2 := h.d2
    have h3 := hh.2
    exact sq_small (by omega) (by omega)
  · omega
theorem ev_both {hs : List Int} {d : Int} (h : EvOk hs d) : Both (evPa hs d) (evQa hs d) :=
  ⟨rfl, fun _ _ => rfl, fun _ => rfl, fun _ _ => rfl, fun i j => (evPa_bd h i j).1, fun i j => (evPa_bd h i j).2, by have := h.len; show hs.length + 1 ≤ 100; omega⟩
/-- A row a page. -/
theorem ev_single {hs : List Int} {d : Int} (h : EvOk hs d) : ∀ t i, i + t = hs.length → OnPages (evPa hs d) t i := by
  intro t
  have hPn : (evPa hs d).n = hs.length + 1 := rfl
  induction t with
  | zero => intro i hi; exact on_zero.2 (by show decide (i = hs.length) = true; simp; omega)
  | succ t ih =>
    intro i hi
    refine (on_succ (by rw [hPn]; omega)).2 ⟨i + 1, Nat.lt_succ_self i, by rw [hPn]; omega, ?_, ih (i + 1) (by omega)⟩
    obtain ⟨x, hx⟩ : ∃ x, hs[i]? = some x := ⟨_, List.getElem?_eq_getElem (by omega)⟩
    have h1 := h.row x (List.mem_of_getElem? hx)
    rw [evPa_ok, pf_succ hx]
    exact decide_eq_true (by omega)
/-- What is known from row i on: the pages, their squares, their ends. -/
structure EvAt (hs : List Int) (d : Int) (i K : Nat) (s : Int) (L : List Int) : Prop where
  q : (bA (evQa hs d) i).1 = some ((K : Int) * 1000000000 + s, L)
  p : (bw (evPa hs d) false (K + 1) i).1 = some (s, L)
  few : ∀ k, k ≤ K → (bw (evPa hs d) false k i).1 = none
  s0 : 0 ≤ s
  s1 : s ≤ 25000000
theorem ev_at {hs : List Int} {d : Int} (h : EvOk hs d) {i : Nat} (hi : i ≤ hs.length) : ∃ K s L, EvAt hs d i K s L := by
  have hPn : (evPa hs d).n = hs.length + 1 := rfl
  have hl := h.len
  rcases says (ev_both h) (hs.length + 1) i (by rw [hPn]; omega) (by rw [hPn]; omega) with ⟨_, hno⟩ | ⟨K, s, L, q1, q2, q3, q4, q5⟩
  · exact absurd (hno _) (ev_single h (hs.length - i) i (by omega))
  · rw [hPn] at q5
    exact ⟨K, s, L, q1, q2, q3, q4, by omega⟩
theorem EvAt.fewest {hs : List Int} {d : Int} {i K : Nat} {s : Int} {L : List Int} (h : EvAt hs d i K s L) : Few (evPa hs d) K i :=
  ⟨(fun e => by rw [h.p] at e; cases e), fun k' hk e => e (h.few (k' + 1) (by omega))⟩
theorem EvAt.brk {hs : List Int} {d : Int} {K : Nat} {s : Int} {L : List Int} (h : EvAt hs d 0 K s L) (ho : EvOk hs d) (hn : 0 < hs.length) : K = (brkL hs d).length + 1 := brk_few ho.row h.fewest hn
theorem EvAt.last {hs : List Int} {d : Int} {K : Nat} {s : Int} {L : List Int} (ho : EvOk hs d) (h : EvAt hs d hs.length K s L) : K = 0 ∧ s = 0 ∧ L = [] := by
  have hf : (evPa hs d).fin hs.length = true := by show decide (hs.length = hs.length) = true; simp
  have h0 : (bw (evPa hs d) false 1 hs.length).1 = some (0, []) := by rw [bw_one, hf]; rfl
  have hK : K = 0 := by
    rcases Nat.eq_zero_or_pos K with h1 | h1
    · exact h1
    · have := h.few 1 h1; rw [h0] at this; cases this
  subst hK
  have := h.p
  rw [h0] at this
  injection this with this
  injection this with h1 h2
  exact ⟨rfl, h1.symm, h2.symm⟩
/-- The first page: where it ends, and what is behind it; the first end of that cost among those that leave a page less. -/
theorem EvAt.step {hs : List Int} {d : Int} {i K : Nat} {s : Int} {L : List Int} (ho : EvOk hs d) (h : EvAt hs d i K s L) (hi : i < hs.length) :
    ∃ (j K' : Nat) (s' : Int) (L' : List Int), i < j ∧ j ≤ hs.length ∧ K = K' + 1 ∧ pf hs j - pf hs i ≤ d ∧ s = (evPa hs d).co i j + s' ∧ L = (j : Int) :: L' ∧ EvAt hs d j K' s' L' ∧
      (∀ j', i < j' → j' < j → ¬ (0 ≤ tv (bw (evPa hs d) false K j').1 ∧ (evPa hs d).co i j' + tv (bw (evPa hs d) false K j').1 = s)) := by
  have hPn : (evPa hs d).n = hs.length + 1 := rfl
  have hf : (evPa hs d).fin i = false := by show decide (i = hs.length) = false; simp; omega
  cases K with
  | zero =>
    exfalso
    have := h.p
    rw [bw_one, hf] at this
    cases this
  | succ K =>
    obtain ⟨j, z, hst⟩ := bw_step (by rw [hPn]; omega) h.p
    have hgt := hst.gt
    have hjl : j ≤ hs.length := by have := hst.lt; rw [hPn] at this; omega
    obtain ⟨K2, s2, L2, hj⟩ := ev_at ho hjl
    have hok : pf hs j - pf hs i ≤ d := by have := hst.ok; rw [evPa_ok] at this; exact of_decide_eq_true this
    have hK2 : K2 ≤ K := by
      rcases Nat.lt_or_ge K K2 with hl | hl
      · have h1 := hj.few (K + 1) hl
        have h2 := hst.hz
        rw [h1] at h2; cases h2
      · exact hl
    have hK3 : K2 = K := by
      rcases Nat.lt_or_ge K2 K with hl | hl
      · exfalso
        have h1 : OnPages (evPa hs d) (K2 + 1) i := (on_succ (by rw [hPn]; omega)).2 ⟨j, hgt, by rw [hPn]; omega, hst.ok, fun e => by rw [hj.p] at e; cases e⟩
        exact h.fewest.2 (K2 + 1) (by omega) h1
      · omega
    subst hK3
    have hz : z = (s2, L2) := by have := hst.hz; rw [hj.p] at this; injection this with this; exact this.symm
    subst hz
    refine ⟨j, K2, s2, L2, hgt, hjl, rfl, hok, hst.cost, hst.list, hj, fun j' h1 h2 => ?_⟩
    refine hst.first j' h1 h2 ?_
    rw [evPa_ok]
    have := pf_le ho.nn (Nat.le_of_lt h2)
    exact decide_eq_true (by omega)
/-- What both return. -/
def evP (ls : List (List Int)) (d : Int) : List Int × Int × Bool := if rowsOn ls d then (match (bA (evQa (ls.map grt) d) 0).1 with | some y => (y.2.dropLast, y.1 % 1000000000, true) | none => ([], 0, false)) else ([], 0, false)
theorem evP_bad {ls : List (List Int)} {d : Int} (h : rowsOn ls d = false) : evP ls d = ([], 0, false) := by simp only [evP, h]; rfl
theorem evP_good {ls : List (List Int)} {d : Int} {K : Nat} {s : Int} {L : List Int} (h : rowsOn ls d = true) (h2 : EvAt (ls.map grt) d 0 K s L) : evP ls d = (L.dropLast, s, true) := by
  have h3 := h2.s0; have h4 := h2.s1
  have e : ((K : Int) * 1000000000 + s) % 1000000000 = s := by omega
  simp only [evP, h, h2.q]
  rw [e]; rfl
end Go.Proofs.Ytnhddepmhelgiaa
