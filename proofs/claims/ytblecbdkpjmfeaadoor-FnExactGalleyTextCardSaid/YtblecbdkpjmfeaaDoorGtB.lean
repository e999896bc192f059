/- GalleyText, plainly. No walk in sight. -/
import Derived.Test.YtblecbdkpjmfeaaDoorGtA
import Derived.Test.YtblecbdkpjmfeaaDoorNum
namespace Go.Proofs.YtblecbdkpjmfeaaDoor
open Go.RowKit
set_option linter.unusedVariables false
/-- One line behind the text so far: its depth; its note; the mark behind it. -/
def gtD (s : ByteArray) (x : SetL) : ByteArray := s ++ numS x.depth.toNat
def gtN (s : ByteArray) (x : SetL) : ByteArray := if 0 < x.note then s ++ (⟨#[43]⟩ ++ numS x.note.toNat) else s
def gtE (s : ByteArray) (b : Bool) : ByteArray := s ++ (if b then ⟨#[59]⟩ else ⟨#[44]⟩)
def gtTo (l : List SetL) : Nat → ByteArray
  | 0 => ByteArray.empty
  | k + 1 => match l[k]? with | some x => gtE (gtN (gtD (gtTo l k) x) x) (lastP l k) | none => gtTo l k
theorem gtTo_succ {l : List SetL} {k : Nat} {x : SetL} (h : l[k]? = some x) : gtTo l (k + 1) = gtE (gtN (gtD (gtTo l k) x) x) (lastP l k) := by simp only [gtTo, h]
theorem gtD_size {s : ByteArray} {x : SetL} (h : x.depth.toNat < 100) : (gtD s x).size ≤ s.size + 2 := by
  have := numS_size h
  unfold gtD; rw [ByteArray.size_append]; omega
theorem gtN_size {s : ByteArray} {x : SetL} (h : x.note.toNat < 100) : (gtN s x).size ≤ s.size + 3 := by
  have := numS_size h
  unfold gtN
  split
  · rw [ByteArray.size_append, ByteArray.size_append]
    have e : (ByteArray.mk #[43]).size = 1 := rfl
    rw [e]; omega
  · omega
theorem gtE_size {s : ByteArray} {b : Bool} : (gtE s b).size = s.size + 1 := by
  unfold gtE
  rw [ByteArray.size_append]
  cases b <;> rfl
def gtV (l : List SetL) : Value := if gal l then .tuple #[.string (gtTo l l.length), .bool true] else .tuple #[.string ByteArray.empty, .bool false]
theorem gtV_bad {l : List SetL} (h : gal l = false) : gtV l = .tuple #[.string ByteArray.empty, .bool false] := by simp only [gtV, h]; rfl
theorem gtV_good {l : List SetL} (h : gal l = true) : gtV l = .tuple #[.string (gtTo l l.length), .bool true] := by simp only [gtV, h]; rfl
theorem gtV_form (l : List SetL) : ∃ x z, gtV l = .tuple #[.string x, .bool z] := by unfold gtV; split <;> exact ⟨_, _, rfl⟩
theorem gal_len {l : List SetL} (h : gal l = true) : l.length ≤ 40 := by
  simp only [gal, Bool.and_eq_true] at h
  have := inB_iff.1 h.2
  omega
theorem gtTo_size {l : List SetL} (h : gal l = true) : ∀ k, (gtTo l k).size ≤ 6 * k
  | 0 => Nat.le_refl _
  | k + 1 => by
    have ih := gtTo_size h k
    cases hx : l[k]? with
    | none =>
      have e : gtTo l (k + 1) = gtTo l k := by simp only [gtTo, hx]
      rw [e]; omega
    | some x =>
      obtain ⟨⟨d1, d2⟩, n1, n2⟩ := gal_each h (List.mem_of_getElem? hx)
      rw [gtTo_succ hx, gtE_size]
      have h1 := gtN_size (s := gtD (gtTo l k) x) (x := x) (by omega)
      have h2 := gtD_size (s := gtTo l k) (x := x) (by omega)
      omega
end Go.Proofs.YtblecbdkpjmfeaaDoor
