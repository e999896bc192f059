/- The plain functions of fonts. No program in sight. -/
import Derived.Test.YtnkkpphjahpadaaRecS
namespace Go.Proofs.Ytnkkpphjahpadaa
open Go.RowKit
set_option linter.unusedVariables false
theorem inB_iff {n lo hi : Int} : inB n lo hi = true ↔ lo ≤ n ∧ n ≤ hi := by simp [inB]
def chL (n : Int) : Bool := decide (97 ≤ n) && decide (n ≤ 122)
def chLOk (c : UInt8) : Bool := chL c.toNat
def lets (s : ByteArray) (lo hi : Int) : Bool := s.data.toList.all chLOk && inB s.size lo hi
theorem snocB (s : ByteArray) (k : Nat) (h : k < s.size) : s.data.toList.take (k + 1) = s.data.toList.take k ++ [s[k]] := by
  rw [List.take_succ_eq_append_getElem (by simpa using h)]; rfl
theorem lets_bad {s : ByteArray} {k : Nat} (hk : k < s.size) (lo hi : Int) (h : chLOk s[k] = false) : lets s lo hi = false := by
  have : s.data.toList.all chLOk = false := by
    rw [List.all_eq_false]
    exact ⟨s[k], by show s.data[k] ∈ _; exact Array.getElem_mem_toList _, by simp [h]⟩
  simp [lets, this]
theorem lets_size {s : ByteArray} {lo hi : Int} (h : lets s lo hi = true) : lo ≤ s.size ∧ (s.size : Int) ≤ hi := by
  simp only [lets, Bool.and_eq_true] at h
  exact inB_iff.1 h.2
def srtOk (s : Srt) : Bool := lets s.code 1 3 && inB s.set 1 54
theorem srtOk_parts {s : Srt} (h : srtOk s = true) : lets s.code 1 3 = true ∧ 1 ≤ s.code.size ∧ s.code.size ≤ 3 ∧ 1 ≤ s.set ∧ s.set ≤ 54 := by
  simp only [srtOk, Bool.and_eq_true] at h
  have h1 := lets_size h.1
  have h2 := inB_iff.1 h.2
  exact ⟨h.1, by omega, by omega, h2.1, h2.2⟩
def lessB (a b : Srt) : Bool := Op.bytesLess a.code.toList b.code.toList
/-- The i-th sort of a font is valid, and its code is behind the one before it. -/
def fontAt (f : List Srt) (i : Nat) : Bool := match f[i]? with
  | some s => srtOk s && (decide (i = 0) || (match f[i - 1]? with | some a => lessB a s | none => false))
  | none => false
def fontTo (f : List Srt) (k : Nat) : Bool := (List.range k).all (fontAt f)
theorem fontTo_succ (f : List Srt) (k : Nat) : fontTo f (k + 1) = (fontTo f k && fontAt f k) := by simp [fontTo, List.range_succ]
def font (f : List Srt) : Bool := fontTo f f.length && inB f.length 1 32
theorem font_no {f : List Srt} {k : Nat} (hk : k < f.length) (h : fontAt f k = false) : font f = false := by
  have : fontTo f f.length = false := by
    rw [fontTo, List.all_eq_false]
    exact ⟨k, List.mem_range.2 hk, by simp [h]⟩
  simp [font, this]
theorem fontAt_bad {f : List Srt} {k : Nat} {s : Srt} (hs : f[k]? = some s) (h : srtOk s = false) : fontAt f k = false := by simp [fontAt, hs, h]
theorem fontAt_zero {f : List Srt} {s : Srt} (hs : f[0]? = some s) : fontAt f 0 = srtOk s := by simp [fontAt, hs]
theorem fontAt_pos {f : List Srt} {k : Nat} {s a : Srt} (hk : 0 < k) (hs : f[k]? = some s) (ha : f[k - 1]? = some a) : fontAt f k = (srtOk s && lessB a s) := by
  have : ¬ k = 0 := by omega
  simp [fontAt, hs, ha, this]
theorem font_len {f : List Srt} (h : font f = true) : 1 ≤ f.length ∧ f.length ≤ 32 := by
  simp only [font, Bool.and_eq_true] at h
  have := inB_iff.1 h.2
  omega
theorem font_at {f : List Srt} (h : font f = true) {k : Nat} {s : Srt} (hs : f[k]? = some s) : srtOk s = true := by
  simp only [font, fontTo, Bool.and_eq_true, List.all_eq_true] at h
  have := h.1 k (List.mem_range.2 (List.getElem?_eq_some_iff.1 hs).1)
  simp only [fontAt, hs, Bool.and_eq_true] at this
  exact this.1
theorem font_less {f : List Srt} (h : font f = true) {k : Nat} {a s : Srt} (ha : f[k]? = some a) (hs : f[k + 1]? = some s) : lessB a s = true := by
  simp only [font, fontTo, Bool.and_eq_true, List.all_eq_true] at h
  have := h.1 (k + 1) (List.mem_range.2 (List.getElem?_eq_some_iff.1 hs).1)
  rw [fontAt_pos (by omega) hs (by simpa using ha)] at this
  simp only [Bool.and_eq_true] at this
  exact this.2
/-- The first place of a code, or -1. -/
def findTo (f : List Srt) (c : ByteArray) (k : Nat) : Bool := (f.take k).all fun s => !(s.code.toList == c.toList)
def findP (f : List Srt) (c : ByteArray) : Int := match f.findIdx? (fun s => s.code.toList == c.toList) with | some i => i | none => -1
theorem findP_at {f : List Srt} {c : ByteArray} {k : Nat} {s : Srt} (h : findTo f c k = true) (hs : f[k]? = some s) (he : (s.code.toList == c.toList) = true) : findP f c = k := by
  have : f.findIdx? (fun s => s.code.toList == c.toList) = some k := by
    rw [List.findIdx?_eq_some_iff_getElem]
    obtain ⟨hk, hg⟩ := List.getElem?_eq_some_iff.1 hs
    refine ⟨hk, by rw [hg]; exact he, fun j hj => ?_⟩
    simp only [findTo, List.all_eq_true] at h
    have := h f[j] (List.mem_iff_getElem?.2 ⟨j, by rw [List.getElem?_take_of_lt hj]; exact List.getElem?_eq_getElem (by omega)⟩)
    simpa using this
  simp [findP, this]
theorem findP_none {f : List Srt} {c : ByteArray} (h : findTo f c f.length = true) : findP f c = -1 := by
  have : f.findIdx? (fun s => s.code.toList == c.toList) = none := by
    rw [List.findIdx?_eq_none_iff]
    intro s hs
    simp only [findTo, List.take_of_length_le (Nat.le_refl _), List.all_eq_true] at h
    simpa using h s hs
  simp [findP, this]
theorem findTo_succ {f : List Srt} {c : ByteArray} {k : Nat} {s : Srt} (hs : f[k]? = some s) : findTo f c (k + 1) = (findTo f c k && !(s.code.toList == c.toList)) := by
  rw [findTo, take_snoc hs]; simp [findTo]
theorem findP_cases (f : List Srt) (c : ByteArray) : (findP f c = -1 ∧ ∀ (j : Nat) s, f[j]? = some s → (s.code.toList == c.toList) = false) ∨ ∃ (k : Nat) (s : Srt), findP f c = k ∧ f[k]? = some s ∧ (s.code.toList == c.toList) = true ∧ ∀ (j : Nat) t, j < k → f[j]? = some t → (t.code.toList == c.toList) = false := by
  cases h : f.findIdx? (fun s => s.code.toList == c.toList) with
  | none =>
    left
    refine ⟨by simp [findP, h], fun j s hs => ?_⟩
    rw [List.findIdx?_eq_none_iff] at h
    exact h s (List.mem_of_getElem? hs)
  | some k =>
    right
    rw [List.findIdx?_eq_some_iff_getElem] at h
    obtain ⟨hk, he, hn⟩ := h
    refine ⟨k, f[k], ?_, List.getElem?_eq_getElem hk, he, fun j t hj ht => ?_⟩
    · have : f.findIdx? (fun s => s.code.toList == c.toList) = some k := by
        rw [List.findIdx?_eq_some_iff_getElem]; exact ⟨hk, he, hn⟩
      simp [findP, this]
    · have := hn j hj
      obtain ⟨hj', hg⟩ := List.getElem?_eq_some_iff.1 ht
      rw [hg] at this
      simpa using this
theorem findP_lt (f : List Srt) (c : ByteArray) : -1 ≤ findP f c ∧ findP f c < f.length := by
  rcases findP_cases f c with ⟨h, _⟩ | ⟨k, s, h, hs, _⟩
  · omega
  · have := (List.getElem?_eq_some_iff.1 hs).1; omega
end Go.Proofs.Ytnkkpphjahpadaa
