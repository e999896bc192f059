/- The plain functions of setting a word. No program in sight. -/
import Derived.Test.YtnkkpphjahpadaaFoP
namespace Go.Proofs.Ytnkkpphjahpadaa
open Go.RowKit
set_option linter.unusedVariables false
/-- A text's bytes. -/
def bl (s : ByteArray) : List UInt8 := s.data.toList
theorem bl_len (s : ByteArray) : (bl s).length = s.size := by simp [bl]
theorem bl_toList (s : ByteArray) : s.toList = bl s := ByteArray.toList_eq s
theorem bl_extract (s : ByteArray) (i j : Nat) : bl (s.extract i j) = ((bl s).drop i).take (j - i) := by
  simp [bl, ByteArray.data_extract, Array.toList_extract, List.extract_eq_take_drop]
def preB (c r : List UInt8) : Bool := decide (c.length ≤ r.length) && (r.take c.length == c)
theorem preB_iff {c r : List UInt8} : preB c r = true ↔ c.length ≤ r.length ∧ r.take c.length = c := by simp [preB]
def cl (f : List Srt) (i : Nat) : Nat := match f[i]? with | some s => s.code.size | none => 0
theorem cl_of {f : List Srt} {i : Nat} {s : Srt} (h : f[i]? = some s) : cl f i = s.code.size := by simp [cl, h]
def preAt (f : List Srt) (r : List UInt8) (i : Nat) : Bool := match f[i]? with | some s => preB (bl s.code) r | none => false
theorem preAt_of {f : List Srt} {r : List UInt8} {i : Nat} {s : Srt} (h : f[i]? = some s) : preAt f r i = preB (bl s.code) r := by simp [preAt, h]
/-- The longest code among the first k with which the rest begins (the first of these), or -1. -/
def bestTo (f : List Srt) (r : List UInt8) : Nat → Int
  | 0 => -1
  | k + 1 => if preAt f r k && (decide (bestTo f r k < 0) || decide (cl f (bestTo f r k).toNat < cl f k)) then (k : Int) else bestTo f r k
def bestP (f : List Srt) (r : List UInt8) : Int := bestTo f r f.length
theorem bestTo_range (f : List Srt) (r : List UInt8) (k : Nat) : bestTo f r k = -1 ∨ ∃ i : Nat, i < k ∧ bestTo f r k = i := by
  induction k with
  | zero => exact .inl rfl
  | succ k ih =>
    rw [bestTo]
    split
    · exact .inr ⟨k, by omega, rfl⟩
    · rcases ih with h | ⟨i, hi, h⟩
      · exact .inl h
      · exact .inr ⟨i, by omega, h⟩
/-- i is the first longest code among the first k with which the rest begins. -/
def IsBest (f : List Srt) (r : List UInt8) (k i : Nat) : Prop := i < k ∧ preAt f r i = true ∧ ∀ j, j < k → preAt f r j = true → cl f j ≤ cl f i ∧ (j < i → cl f j < cl f i)
theorem isBest_unique {f : List Srt} {r : List UInt8} {k i j : Nat} (h : IsBest f r k i) (h' : IsBest f r k j) : i = j := by
  rcases Nat.lt_trichotomy i j with hlt | rfl | hlt
  · have h1 := (h'.2.2 i h.1 h.2.1).2 hlt
    have h2 := (h.2.2 j h'.1 h'.2.1).1
    omega
  · rfl
  · have h1 := (h.2.2 j h'.1 h'.2.1).2 hlt
    have h2 := (h'.2.2 i h.1 h.2.1).1
    omega
theorem bestTo_spec (f : List Srt) (r : List UInt8) (k : Nat) : (bestTo f r k = -1 ∧ ∀ j, j < k → preAt f r j = false) ∨ ∃ i : Nat, bestTo f r k = i ∧ IsBest f r k i := by
  induction k with
  | zero => exact .inl ⟨rfl, fun j hj => absurd hj (by omega)⟩
  | succ k ih =>
    rw [bestTo]
    rcases ih with ⟨h, hn⟩ | ⟨i, h, hb⟩
    · rw [h]
      cases hp : preAt f r k
      · left
        refine ⟨by simp, fun j hj => ?_⟩
        by_cases e : j = k
        · subst e; exact hp
        · exact hn j (by omega)
      · right
        refine ⟨k, by simp, by omega, hp, fun j hj hj' => ?_⟩
        by_cases e : j = k
        · subst e; exact ⟨Nat.le_refl _, fun h => absurd h (Nat.lt_irrefl _)⟩
        · rw [hn j (by omega)] at hj'; cases hj'
    · rw [h]
      have hi : ¬ ((i : Int) < 0) := by omega
      right
      by_cases hc : preAt f r k = true ∧ cl f i < cl f k
      · refine ⟨k, by simp [hc.1, hc.2], by omega, hc.1, fun j hj hj' => ?_⟩
        by_cases e : j = k
        · subst e; exact ⟨Nat.le_refl _, fun h => absurd h (Nat.lt_irrefl _)⟩
        · have := (hb.2.2 j (by omega) hj').1
          exact ⟨by omega, fun _ => by omega⟩
      · refine ⟨i, ?_, by have := hb.1; omega, hb.2.1, fun j hj hj' => ?_⟩
        · cases hp : preAt f r k
          · simp
          · have : ¬ cl f i < cl f k := fun h => hc ⟨hp, h⟩
            simp [this]; omega
        · by_cases e : j = k
          · subst e
            have : ¬ cl f i < cl f j := fun h => hc ⟨hj', h⟩
            exact ⟨by omega, fun h => by have := hb.1; omega⟩
          · exact hb.2.2 j (by omega) hj'
theorem bestP_none {f : List Srt} {r : List UInt8} (h : ∀ j, j < f.length → preAt f r j = false) : bestP f r = -1 := by
  rcases bestTo_spec f r f.length with ⟨h1, _⟩ | ⟨i, _, hb⟩
  · exact h1
  · have := h i hb.1; rw [hb.2.1] at this; cases this
theorem bestP_of {f : List Srt} {r : List UInt8} {i : Nat} (h : IsBest f r f.length i) : bestP f r = i := by
  rcases bestTo_spec f r f.length with ⟨_, h1⟩ | ⟨j, h1, hb⟩
  · have := h1 i h.1; rw [h.2.1] at this; cases this
  · rw [isBest_unique h hb]; exact h1
/-- No code of more than n letters fits. -/
def noLong (f : List Srt) (r : List UInt8) (n : Nat) : Prop := ∀ j, j < f.length → preAt f r j = true → cl f j ≤ n
theorem noLong_top {f : List Srt} {r : List UInt8} (hf : ∀ s ∈ f, s.code.size ≤ 3) : noLong f r (min 3 r.length) := by
  intro j hj hp
  obtain ⟨s, hs⟩ : ∃ s, f[j]? = some s := ⟨_, List.getElem?_eq_getElem hj⟩
  rw [preAt_of hs, preB_iff, bl_len] at hp
  rw [cl_of hs]
  have := hf s (List.mem_of_getElem? hs)
  omega
theorem find_pre {f : List Srt} {r : List UInt8} {c : List UInt8} {n i : Nat} {s : Srt} (hs : f[i]? = some s) (hn : n ≤ r.length) (he : (s.code.toList == c) = true) (hc : c = r.take n) : preAt f r i = true ∧ cl f i = n := by
  subst hc
  rw [bl_toList] at he
  have he : bl s.code = r.take n := by simpa using he
  have hl : (bl s.code).length = n := by rw [he, List.length_take]; omega
  refine ⟨by rw [preAt_of hs, preB_iff, hl]; exact ⟨hn, he.symm⟩, by rw [cl_of hs, ← bl_len]; exact hl⟩
theorem pre_find {f : List Srt} {r : List UInt8} {n i : Nat} {s : Srt} (hs : f[i]? = some s) (hp : preAt f r i = true) (hl : cl f i = n) : (s.code.toList == r.take n) = true := by
  rw [preAt_of hs, preB_iff, bl_len] at hp
  rw [cl_of hs] at hl
  rw [hl] at hp
  rw [bl_toList, hp.2]; simp
/-- One round of the reference's search: no code has just n letters. -/
theorem noLong_down {f : List Srt} {r : List UInt8} {n : Nat} {c : ByteArray} (hc : c.toList = r.take (n + 1)) (h : noLong f r (n + 1)) (hf : findP f c = -1) : noLong f r n := by
  intro j hj hp
  have h1 := h j hj hp
  by_cases e : cl f j = n + 1
  · obtain ⟨s, hs⟩ : ∃ s, f[j]? = some s := ⟨_, List.getElem?_eq_getElem hj⟩
    have h2 := pre_find hs hp e
    rcases findP_cases f c with ⟨_, hn⟩ | ⟨k, t, hk, _⟩
    · have := hn j s hs; rw [hc, h2] at this; cases this
    · omega
  · omega
theorem found_best {f : List Srt} {r : List UInt8} {n : Nat} {c : ByteArray} (hc : c.toList = r.take n) (hn : n ≤ r.length) (h : noLong f r n) (hf : 0 ≤ findP f c) : bestP f r = findP f c := by
  rcases findP_cases f c with ⟨h1, _⟩ | ⟨k, s, hk, hs, he, hb⟩
  · omega
  · rw [hk]
    have h2 := find_pre hs hn he hc
    refine bestP_of ⟨(List.getElem?_eq_some_iff.1 hs).1, h2.1, fun j hj hp => ?_⟩
    have h3 := h j hj hp
    refine ⟨by omega, fun hjk => ?_⟩
    by_cases e : cl f j = n
    · obtain ⟨t, ht⟩ : ∃ t, f[j]? = some t := ⟨_, List.getElem?_eq_getElem hj⟩
      have := hb j t hjk ht
      rw [hc, pre_find ht hp e] at this; cases this
    · omega
theorem noLong_zero {f : List Srt} {r : List UInt8} (hf : ∀ s ∈ f, 1 ≤ s.code.size) (h : noLong f r 0) : bestP f r = -1 := by
  refine bestP_none fun j hj => ?_
  cases hp : preAt f r j
  · rfl
  · have h1 := h j hj hp
    obtain ⟨s, hs⟩ : ∃ s, f[j]? = some s := ⟨_, List.getElem?_eq_getElem hj⟩
    rw [cl_of hs] at h1
    have := hf s (List.mem_of_getElem? hs)
    omega
/-- The sorts with which the rest is set, behind those that are set. -/
def setF (f : List Srt) : Nat → List UInt8 → List Int → List Int × Bool
  | 0, _, _ => ([], false)
  | n + 1, r, acc => if r.isEmpty then (acc, true) else if bestP f r < 0 then ([], false) else setF f n (r.drop (cl f (bestP f r).toNat)) (acc ++ [bestP f r])
theorem setF_nil (f : List Srt) (n : Nat) (acc : List Int) : setF f (n + 1) [] acc = (acc, true) := rfl
theorem setF_bad {f : List Srt} {n : Nat} {r : List UInt8} {acc : List Int} (hr : r ≠ []) (h : bestP f r = -1) : setF f (n + 1) r acc = ([], false) := by
  simp [setF, hr, h]
theorem setF_step {f : List Srt} {n i : Nat} {r : List UInt8} {acc : List Int} (hr : r ≠ []) (h : bestP f r = i) : setF f (n + 1) r acc = setF f n (r.drop (cl f i)) (acc ++ [(i : Int)]) := by
  have : ¬ ((i : Int) < 0) := by omega
  simp [setF, hr, h, this]
def setP (f : List Srt) (word : ByteArray) : List Int × Bool := setF f (word.size + 1) (bl word) []
theorem bestP_lt {f : List Srt} {r : List UInt8} {i : Nat} (h : bestP f r = i) : i < f.length := by
  rcases bestTo_range f r f.length with h1 | ⟨j, hj, h1⟩
  · unfold bestP at h; omega
  · unfold bestP at h; omega
theorem bestP_pre {f : List Srt} {r : List UInt8} {i : Nat} (h : bestP f r = i) : preAt f r i = true := by
  rcases bestTo_spec f r f.length with ⟨h1, _⟩ | ⟨j, h1, hb⟩
  · unfold bestP at h; omega
  · unfold bestP at h
    have : i = j := by omega
    subst this
    exact hb.2.1
theorem setF_len (f : List Srt) (hf : ∀ s ∈ f, 1 ≤ s.code.size) (n : Nat) : ∀ (r : List UInt8) (acc : List Int), (setF f n r acc).1.length ≤ acc.length + r.length := by
  induction n with
  | zero => intro r acc; simp [setF]
  | succ n ih =>
    intro r acc
    rw [setF]
    split
    · show acc.length ≤ _; omega
    · split
      · simp
      · rename_i h1 h2
        have := ih (r.drop (cl f (bestP f r).toNat)) (acc ++ [bestP f r])
        have hr : 1 ≤ r.length := by
          cases r with
          | nil => simp at h1
          | cons a r => simp
        obtain ⟨i, hi⟩ : ∃ i : Nat, bestP f r = i := ⟨(bestP f r).toNat, by omega⟩
        have hil := bestP_lt hi
        have hc : 1 ≤ cl f (bestP f r).toNat := by
          rw [hi, Int.toNat_natCast, cl_of (List.getElem?_eq_getElem hil)]
          exact hf _ (List.getElem_mem hil)
        simp only [List.length_append, List.length_drop, List.length_singleton] at this
        omega
theorem setF_in (f : List Srt) (n : Nat) : ∀ (r : List UInt8) (acc : List Int), (∀ x ∈ acc, 0 ≤ x ∧ x < f.length) → ∀ x ∈ (setF f n r acc).1, 0 ≤ x ∧ x < f.length := by
  induction n with
  | zero => intro r acc _ x hx; simp [setF] at hx
  | succ n ih =>
    intro r acc ha
    rw [setF]
    split
    · exact ha
    · split
      · intro x hx; simp at hx
      · refine ih _ _ fun x hx => ?_
        rcases List.mem_append.1 hx with h | h
        · exact ha x h
        · simp at h
          subst h
          obtain ⟨i, hi⟩ : ∃ i : Nat, bestP f r = i := ⟨(bestP f r).toNat, by omega⟩
          have := bestP_lt hi
          omega
theorem setP_len {f : List Srt} (hf : font f = true) (word : ByteArray) : (setP f word).1.length ≤ word.size := by
  have := setF_len f (fun s hs => by obtain ⟨k, hk⟩ := List.mem_iff_getElem?.1 hs; exact (srtOk_parts (font_at hf hk)).2.1) (word.size + 1) (bl word) []
  rw [bl_len] at this
  simp only [List.length_nil, Nat.zero_add] at this
  exact this
theorem setP_in (f : List Srt) (word : ByteArray) : ∀ x ∈ (setP f word).1, 0 ≤ x ∧ x < f.length := setF_in f _ _ _ (fun x hx => by simp at hx)
theorem setF_false (f : List Srt) (n : Nat) : ∀ (r : List UInt8) (acc : List Int), (setF f n r acc).2 = false → (setF f n r acc).1 = [] := by
  induction n with
  | zero => intro r acc _; rfl
  | succ n ih =>
    intro r acc
    rw [setF]
    split
    · intro h; cases h
    · split
      · intro _; rfl
      · exact ih _ _
def asked (f : List Srt) (word : ByteArray) : Bool := font f && lets word 1 16
def swP (f : List Srt) (word : ByteArray) : List Int × Bool := if asked f word then setP f word else ([], false)
theorem swP_bad {f : List Srt} {word : ByteArray} (h : asked f word = false) : swP f word = ([], false) := by simp [swP, h]
theorem swP_good {f : List Srt} {word : ByteArray} (h : asked f word = true) : swP f word = setP f word := by simp [swP, h]
theorem asked_parts {f : List Srt} {word : ByteArray} (h : asked f word = true) : font f = true ∧ 1 ≤ word.size ∧ word.size ≤ 16 := by
  simp only [asked, Bool.and_eq_true] at h
  have := lets_size h.2
  exact ⟨h.1, by omega, by omega⟩
theorem swP_len (f : List Srt) (word : ByteArray) : (swP f word).1.length ≤ 4000000 := by
  cases h : asked f word
  · rw [swP_bad h]; simp
  · rw [swP_good h]
    have h1 := asked_parts h
    have := setP_len h1.1 word
    omega
theorem font_all {f : List Srt} (h : font f = true) : ∀ s ∈ f, lets s.code 1 3 = true ∧ 1 ≤ s.code.size ∧ s.code.size ≤ 3 ∧ 1 ≤ s.set ∧ s.set ≤ 54 := fun s hs => by
  obtain ⟨k, hk⟩ := List.mem_iff_getElem?.1 hs
  exact srtOk_parts (font_at h hk)
end Go.Proofs.Ytnkkpphjahpadaa
