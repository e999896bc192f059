/- Plain: numbers that increase within bounds; the pieces of a list between them. No program in sight. -/
import Derived.Test.YtmfoankgfiofdaaFlat
namespace Go.Proofs.Ytmfoankgfiofdaa
open Go.RowKit
set_option linter.unusedVariables false
theorem inB_iff {n lo hi : Int} : inB n lo hi = true ↔ lo ≤ n ∧ n ≤ hi := by simp [inB]
theorem w64 {n : Int} (h : -9223372036854775808 ≤ n) (h' : n ≤ 9223372036854775807) : wrap64 n = n := IntWalk.wrap64_in n ⟨h, h'⟩
def riseAt (l : List Int) (lo hi : Int) (k : Nat) (x : Int) : Bool := inB x lo hi && (decide (k = 0) || match l[k - 1]? with | some y => decide (y < x) | none => true)
def riseTo (l : List Int) (lo hi : Int) (k : Nat) : Bool := (List.range k).all fun i => match l[i]? with | some x => riseAt l lo hi i x | none => true
def rise (l : List Int) (lo hi : Int) : Bool := riseTo l lo hi l.length
theorem riseTo_succ {l : List Int} {lo hi : Int} {k : Nat} {x : Int} (h : l[k]? = some x) : riseTo l lo hi (k + 1) = (riseTo l lo hi k && riseAt l lo hi k x) := by simp [riseTo, List.range_succ, h]
theorem rise_bad {l : List Int} {lo hi : Int} {k : Nat} {x : Int} (hx : l[k]? = some x) (h : riseAt l lo hi k x = false) : rise l lo hi = false := by
  have hk : k < l.length := (List.getElem?_eq_some_iff.1 hx).1
  rw [rise, riseTo, List.all_eq_false]
  exact ⟨k, List.mem_range.2 hk, by rw [hx]; simp [h]⟩
theorem rise_at {l : List Int} {lo hi : Int} (h : rise l lo hi = true) {k : Nat} {x : Int} (hx : l[k]? = some x) : (lo ≤ x ∧ x ≤ hi) ∧ ∀ y, 0 < k → l[k - 1]? = some y → y < x := by
  have hk : k < l.length := (List.getElem?_eq_some_iff.1 hx).1
  have h1 := List.all_eq_true.1 h k (List.mem_range.2 hk)
  rw [hx] at h1
  simp only [riseAt, Bool.and_eq_true] at h1
  refine ⟨inB_iff.1 h1.1, fun y hk0 hy => ?_⟩
  have h2 := h1.2
  rw [hy] at h2
  simp at h2
  omega
theorem rise_lt {l : List Int} {lo hi : Int} (h : rise l lo hi = true) : ∀ (d i : Nat) (x y : Int), l[i]? = some x → l[i + d]? = some y → x + d ≤ y := by
  intro d
  induction d with
  | zero => intro i x y hx hy; rw [Nat.add_zero] at hy; have := hx.symm.trans hy; injection this with this; omega
  | succ d ih =>
    intro i x y hx hy
    have hl : i + (d + 1) < l.length := (List.getElem?_eq_some_iff.1 hy).1
    obtain ⟨z, hz⟩ : ∃ z, l[i + d]? = some z := ⟨_, List.getElem?_eq_getElem (by omega)⟩
    have h1 := ih i x z hx hz
    have h2 := (rise_at h hy).2 z (by omega) (by rw [show i + (d + 1) - 1 = i + d by omega]; exact hz)
    omega
def endAt (ends : List Int) (p : Nat) : Nat := match ends[p]? with | some x => x.toNat | none => 0
theorem endAt_at {ends : List Int} {p : Nat} {x : Int} (h : ends[p]? = some x) : endAt ends p = x.toNat := by simp [endAt, h]
def fr (ends : List Int) (p : Nat) : Nat := if p = 0 then 0 else endAt ends (p - 1)
theorem fr_succ (ends : List Int) (p : Nat) : fr ends (p + 1) = endAt ends p := by simp [fr]
/-- A slice of int, cut. -/
theorem RdI.cut {w : World} {lo hi b off : Nat} {l : List Int} (h : RdI w lo hi (some ⟨b, off, none⟩) l) (i k : Nat) : RdI w lo hi (some ⟨b, off + i, none⟩) (cutL l i k) := by
  unfold RdI at h ⊢
  rw [cutL, List.map_drop, List.map_take]
  exact Rd.drop (Rd.take h _) _
theorem cutL_at {α : Type} {l : List α} {i k j : Nat} (hj : i + j < k) : (cutL l i k)[j]? = l[i + j]? := by
  rw [cutL, List.getElem?_drop, List.getElem?_take_of_lt hj]
theorem cutL_mem {α : Type} {l : List α} {i k : Nat} {x : α} (h : x ∈ cutL l i k) : x ∈ l := List.mem_of_mem_take (List.mem_of_mem_drop h)
theorem cutL_succ {α : Type} {l : List α} {i k : Nat} {x : α} (h : l[k]? = some x) (hi : i ≤ k) : cutL l i (k + 1) = cutL l i k ++ [x] := by
  have hk : k < l.length := (List.getElem?_eq_some_iff.1 h).1
  rw [cutL, take_snoc h, List.drop_append_of_le_length (by simp; omega)]; rfl
theorem cutL_empty {α : Type} {l : List α} {i k : Nat} (h : k ≤ i) : cutL l i k = [] := by
  rw [cutL, List.drop_eq_nil_of_le (by simp; omega)]
end Go.Proofs.Ytmfoankgfiofdaa
