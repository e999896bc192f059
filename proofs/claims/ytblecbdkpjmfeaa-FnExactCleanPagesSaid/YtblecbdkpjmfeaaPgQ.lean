/- More plain functions of galleys: ends of pages. No program in sight. -/
import Derived.Test.YtblecbdkpjmfeaaPgP
namespace Go.Proofs.Ytblecbdkpjmfeaa
open Go.RowKit
def riseAt (l : List Int) (lo hi : Int) (k : Nat) (x : Int) : Bool := inB x lo hi && (decide (k = 0) || match l[k - 1]? with | some y => decide (y < x) | none => true)
def riseTo (l : List Int) (lo hi : Int) (k : Nat) : Bool := (List.range k).all fun i => match l[i]? with | some x => riseAt l lo hi i x | none => true
def rise (l : List Int) (lo hi : Int) : Bool := riseTo l lo hi l.length
theorem riseTo_succ {l : List Int} {lo hi : Int} {k : Nat} {x : Int} (h : l[k]? = some x) : riseTo l lo hi (k + 1) = (riseTo l lo hi k && riseAt l lo hi k x) := by simp [riseTo, List.range_succ, h]
theorem rise_bad {l : List Int} {lo hi : Int} {k : Nat} {x : Int} (hx : l[k]? = some x) (h : riseAt l lo hi k x = false) : rise l lo hi = false := by
  have hk : k < l.length := (List.getElem?_eq_some_iff.1 hx).1
  rw [rise, riseTo, List.all_eq_false]
  exact ⟨k, List.mem_range.2 hk, by rw [hx]; simp [h]⟩
theorem rise_at {l : List Int} {lo hi : Int} (h : rise l lo hi = true) {k : Nat} {x : Int} (hx : l[k]? = some x) : (lo ≤ x ∧ x ≤ hi) ∧ ∀ y, 0 < k → l[k - 1]? = some y → y < x := by
  have hk : k < l.length := (List.getElem?_eq_some_iff.1 hx).1
  have h1 := List.all_eq_true.1 h k (List.mem_range.2 hk)
  rw [hx] at h1
  simp only [riseAt, Bool.and_eq_true] at h1
  refine ⟨inB_iff.1 h1.1, fun y hk0 hy => ?_⟩
  have h2 := h1.2
  rw [hy] at h2
  simp at h2
  omega
theorem rise_lt {l : List Int} {lo hi : Int} (h : rise l lo hi = true) : ∀ (d i : Nat) (x y : Int), l[i]? = some x → l[i + d]? = some y → x + d ≤ y := by
  intro d
  induction d with
  | zero => intro i x y hx hy; rw [Nat.add_zero] at hy; have := hx.symm.trans hy; injection this with this; omega
  | succ d ih =>
    intro i x y hx hy
    have hl : i + (d + 1) < l.length := (List.getElem?_eq_some_iff.1 hy).1
    obtain ⟨z, hz⟩ : ∃ z, l[i + d]? = some z := ⟨_, List.getElem?_eq_getElem (by omega)⟩
    have h1 := ih i x z hx hz
    have h2 := (rise_at h hy).2 z (by omega) (by rw [show i + (d + 1) - 1 = i + d by omega]; exact hz)
    omega

def areE (l : List SetL) (ends : List Int) : Bool := ((gal l && decide (0 < ends.length)) && rise ends 1 l.length) && (match ends[ends.length - 1]? with | some x => decide (x = l.length) | none => false)
theorem areE_parts {l : List SetL} {ends : List Int} (h : areE l ends = true) : gal l = true ∧ 0 < ends.length ∧ rise ends 1 l.length = true ∧ ends[ends.length - 1]? = some (l.length : Int) ∧ l.length ≤ 40 ∧ ends.length ≤ 40 := by
  simp only [areE, Bool.and_eq_true] at h
  obtain ⟨⟨⟨h1, h2⟩, h3⟩, h4⟩ := h
  have h2 : 0 < ends.length := by simpa using h2
  obtain ⟨y, hy⟩ : ∃ y, ends[ends.length - 1]? = some y := ⟨_, List.getElem?_eq_getElem (by omega)⟩
  rw [hy] at h4
  simp at h4
  have hg := h1
  simp only [gal, Bool.and_eq_true] at hg
  have hl := inB_iff.1 hg.2
  obtain ⟨z, hz⟩ : ∃ z, ends[0]? = some z := ⟨_, List.getElem?_eq_getElem (by omega)⟩
  have hz1 := (rise_at h3 hz).1
  have := rise_lt h3 (ends.length - 1) 0 z y hz (by rw [Nat.zero_add]; exact hy)
  exact ⟨h1, h2, h3, by rw [hy, h4], by omega, by omega⟩

/-- The paragraph of line i. -/
def pa (l : List SetL) (i : Nat) : Int := match l[i]? with | some x => x.para | none => 0
theorem pa_at {l : List SetL} {i : Nat} {x : SetL} (h : l[i]? = some x) : pa l i = x.para := by simp [pa, h]
def firstP (l : List SetL) (i : Nat) : Bool := decide (i = 0) || decide (pa l (i - 1) ≠ pa l i)
def lastP (l : List SetL) (i : Nat) : Bool := decide (i + 1 = l.length) || decide (pa l (i + 1) ≠ pa l i)
def widow (l : List SetL) (i : Nat) : Bool := decide (0 < i) && lastP l i && !firstP l i
def orphan (l : List SetL) (i : Nat) : Bool := decide (i < l.length) && firstP l (i - 1) && !lastP l (i - 1)
def endAt (ends : List Int) (p : Nat) : Nat := match ends[p]? with | some x => x.toNat | none => 0
theorem endAt_at {ends : List Int} {p : Nat} {x : Int} (h : ends[p]? = some x) : endAt ends p = x.toNat := by simp [endAt, h]
def widTo (l : List SetL) (ends : List Int) : Nat → List Int
  | 0 => []
  | k + 1 => widTo l ends k ++ if widow l (endAt ends k) then [(k : Int) + 1] else []
def orpTo (l : List SetL) (ends : List Int) : Nat → List Int
  | 0 => []
  | k + 1 => orpTo l ends k ++ if orphan l (endAt ends k) then [(k : Int)] else []
theorem widTo_len (l : List SetL) (ends : List Int) (k : Nat) : (widTo l ends k).length ≤ k := by
  induction k with
  | zero => simp [widTo]
  | succ k ih => rw [widTo, List.length_append]; split <;> simp <;> omega
theorem orpTo_len (l : List SetL) (ends : List Int) (k : Nat) : (orpTo l ends k).length ≤ k := by
  induction k with
  | zero => simp [orpTo]
  | succ k ih => rw [orpTo, List.length_append]; split <;> simp <;> omega
def widP (l : List SetL) (ends : List Int) : List Int × Bool := if areE l ends then (widTo l ends (ends.length - 1), true) else ([], false)
def orpP (l : List SetL) (ends : List Int) : List Int × Bool := if areE l ends then (orpTo l ends (ends.length - 1), true) else ([], false)
theorem widP_len (l : List SetL) (ends : List Int) : (widP l ends).1.length ≤ 4000000 := by
  unfold widP
  split
  · rename_i h
    have := areE_parts h
    have := widTo_len l ends (ends.length - 1)
    simp only
    omega
  · simp
theorem orpP_len (l : List SetL) (ends : List Int) : (orpP l ends).1.length ≤ 4000000 := by
  unfold orpP
  split
  · rename_i h
    have := areE_parts h
    have := orpTo_len l ends (ends.length - 1)
    simp only
    omega
  · simp
/-- The last end is the galley's: no orphan there. -/
theorem orp_last {l : List SetL} {ends : List Int} (h : areE l ends = true) : orpTo l ends ends.length = orpTo l ends (ends.length - 1) := by
  obtain ⟨_, h2, _, h4, _, _⟩ := areE_parts h
  obtain ⟨k, hk⟩ : ∃ k, ends.length = k + 1 := ⟨ends.length - 1, by omega⟩
  have h5 : ends[k]? = some (l.length : Int) := by rw [← h4, hk, Nat.add_sub_cancel]
  rw [hk, Nat.add_sub_cancel]
  rw [orpTo, endAt_at h5]
  have : orphan l ((l.length : Int)).toNat = false := by simp [orphan]
  rw [this]; simp

/-- The leads: the first r of n are one greater. -/
def leadAt (left gaps : Int) (i : Nat) : Int := if (i : Int) < left % gaps then left / gaps + 1 else left / gaps
def leadL (left gaps : Int) (n : Nat) : List Int := (List.range n).map (leadAt left gaps)
theorem leadL_len (left gaps : Int) (n : Nat) : (leadL left gaps n).length = n := by simp [leadL]
theorem leadL_succ (left gaps : Int) (n : Nat) : leadL left gaps (n + 1) = leadL left gaps n ++ [leadAt left gaps n] := by simp [leadL, List.range_succ]
theorem deep_bound {l : List SetL} (h : ∀ x ∈ l, (1 ≤ x.depth ∧ x.depth ≤ 40) ∧ (0 ≤ x.note ∧ x.note ≤ 60)) (hl : l.length ≤ 1048577) : 0 ≤ deep l ∧ deep l ≤ 100 * l.length := by
  have key : ∀ (l : List SetL) (a : Int), 0 ≤ a → (∀ x ∈ l, (1 ≤ x.depth ∧ x.depth ≤ 40) ∧ (0 ≤ x.note ∧ x.note ≤ 60)) → a + 100 * l.length ≤ 1000000000 →
      0 ≤ l.foldl (fun n x => wrap64 (n + wrap64 (x.depth + x.note))) a ∧ l.foldl (fun n x => wrap64 (n + wrap64 (x.depth + x.note))) a ≤ a + 100 * l.length := by
    intro l
    induction l with
    | nil => intro a h0 _ _; simp; exact h0
    | cons x l ih =>
      intro a h0 hx hb
      have h1 := hx x (by simp)
      simp only [List.length_cons, Int.natCast_add] at hb
      simp only [List.foldl_cons, List.length_cons, Int.natCast_add]
      rw [w64 (n := x.depth + x.note) (by omega) (by omega), w64 (by omega) (by omega)]
      have := ih (a + (x.depth + x.note)) (by omega) (fun y hy => hx y (by simp [hy])) (by omega)
      omega
  have := key l 0 (by omega) h (by omega)
  unfold deep
  omega
def leP (l : List SetL) (d : Int) : List Int × Bool :=
  if paged l d && (decide (0 ≤ d - deep l) && !(decide (l.length = 1) && decide (0 < d - deep l))) then (leadL (d - deep l) ((l.length : Int) - 1) (l.length - 1), true) else ([], false)
theorem leP_len (l : List SetL) (d : Int) (hl : l.length ≤ 1048576) : (leP l d).1.length ≤ 4000000 := by
  unfold leP
  split
  · simp only [leadL_len]; omega
  · simp
end Go.Proofs.Ytblecbdkpjmfeaa
