/- The plain functions of the narrowest way to set a word. No program in sight (but the widths of FoK). -/
import Derived.Test.YtnkkpphjahpadaaFoK
namespace Go.Proofs.Ytnkkpphjahpadaa
open Go.RowKit
set_option linter.unusedVariables false
/-- The way that begins with sort i; g n is the way behind n letters. -/
def candW (f : List Srt) (g : Nat → Option (List Int)) (s : List UInt8) (i : Nat) : Option (List Int) := if preAt f s i then (g (cl f i)).map (fun ys => (i : Int) :: ys) else none
def bestW (f : List Srt) (g : Nat → Option (List Int)) (s : List UInt8) : Nat → Option (List Int)
  | 0 => none
  | k + 1 => match candW f g s k with
    | none => bestW f g s k
    | some next => match bestW f g s k with
      | none => some next
      | some cur => if wsum f next < wsum f cur then some next else some cur
theorem candW_head {f : List Srt} {g : Nat → Option (List Int)} {s : List UInt8} {i : Nat} {xs : List Int} (h : candW f g s i = some xs) : preAt f s i = true ∧ ∃ ys, g (cl f i) = some ys ∧ xs = (i : Int) :: ys := by
  unfold candW at h
  split at h
  · rename_i hp
    cases hg : g (cl f i) with
    | none => rw [hg] at h; cases h
    | some ys => rw [hg] at h; simp at h; exact ⟨hp, ys, rfl, h.symm⟩
  · cases h
theorem candW_of {f : List Srt} {g : Nat → Option (List Int)} {s : List UInt8} {i : Nat} {ys : List Int} (hp : preAt f s i = true) (hg : g (cl f i) = some ys) : candW f g s i = some ((i : Int) :: ys) := by simp [candW, hp, hg]
theorem candW_pre {f : List Srt} {g : Nat → Option (List Int)} {s : List UInt8} {i : Nat} (hp : preAt f s i = false) : candW f g s i = none := by simp [candW, hp]
theorem candW_rest {f : List Srt} {g : Nat → Option (List Int)} {s : List UInt8} {i : Nat} (hg : g (cl f i) = none) : candW f g s i = none := by simp [candW, hg]
theorem bestW_no {f : List Srt} {g : Nat → Option (List Int)} {s : List UInt8} {k : Nat} (h : candW f g s k = none) : bestW f g s (k + 1) = bestW f g s k := by simp [bestW, h]
theorem bestW_first {f : List Srt} {g : Nat → Option (List Int)} {s : List UInt8} {k : Nat} {xs : List Int} (h : candW f g s k = some xs) (hb : bestW f g s k = none) : bestW f g s (k + 1) = some xs := by simp [bestW, h, hb]
theorem bestW_less {f : List Srt} {g : Nat → Option (List Int)} {s : List UInt8} {k : Nat} {xs cur : List Int} (h : candW f g s k = some xs) (hb : bestW f g s k = some cur) (hl : wsum f xs < wsum f cur) : bestW f g s (k + 1) = some xs := by simp [bestW, h, hb, hl]
theorem bestW_more {f : List Srt} {g : Nat → Option (List Int)} {s : List UInt8} {k : Nat} {xs cur : List Int} (h : candW f g s k = some xs) (hb : bestW f g s k = some cur) (hl : ¬ wsum f xs < wsum f cur) : bestW f g s (k + 1) = some cur := by simp [bestW, h, hb, hl]
/-- xs is the way with the least width among those that begin with the first k sorts, and the first of these. -/
structure LeastW (f : List Srt) (g : Nat → Option (List Int)) (s : List UInt8) (k i : Nat) (xs : List Int) : Prop where
  lt : i < k
  cand : candW f g s i = some xs
  least : ∀ j zs, j < k → candW f g s j = some zs → wsum f xs ≤ wsum f zs
  first : ∀ j zs, j < i → candW f g s j = some zs → wsum f xs < wsum f zs
theorem bestW_spec (f : List Srt) (g : Nat → Option (List Int)) (s : List UInt8) (k : Nat) : (bestW f g s k = none ∧ ∀ j, j < k → candW f g s j = none) ∨ ∃ i xs, bestW f g s k = some xs ∧ LeastW f g s k i xs := by
  induction k with
  | zero => exact .inl ⟨rfl, fun j hj => absurd hj (Nat.not_lt_zero j)⟩
  | succ k ih =>
    cases hc : candW f g s k with
    | none =>
      rw [bestW_no hc]
      rcases ih with ⟨h, hn⟩ | ⟨i, xs, h, hl⟩
      · refine .inl ⟨h, fun j hj => ?_⟩
        by_cases e : j = k
        · subst e; exact hc
        · exact hn j (by omega)
      · refine .inr ⟨i, xs, h, by have := hl.lt; omega, hl.cand, fun j zs hj hz => ?_, hl.first⟩
        by_cases e : j = k
        · subst e; rw [hc] at hz; cases hz
        · exact hl.least j zs (by omega) hz
    | some next =>
      rcases ih with ⟨h, hn⟩ | ⟨i, xs, h, hl⟩
      · refine .inr ⟨k, next, bestW_first hc h, by omega, hc, fun j zs hj hz => ?_, fun j zs hj hz => ?_⟩
        · by_cases e : j = k
          · subst e; rw [hc] at hz; injection hz with hz; subst hz; exact Int.le_refl _
          · rw [hn j (by omega)] at hz; cases hz
        · rw [hn j hj] at hz; cases hz
      · by_cases hlt : wsum f next < wsum f xs
        · refine .inr ⟨k, next, bestW_less hc h hlt, by omega, hc, fun j zs hj hz => ?_, fun j zs hj hz => ?_⟩
          · by_cases e : j = k
            · subst e; rw [hc] at hz; injection hz with hz; subst hz; exact Int.le_refl _
            · have := hl.least j zs (by omega) hz; omega
          · have := hl.least j zs hj hz; omega
        · refine .inr ⟨i, xs, bestW_more hc h hlt, by have := hl.lt; omega, hl.cand, fun j zs hj hz => ?_, hl.first⟩
          by_cases e : j = k
          · subst e; rw [hc] at hz; injection hz with hz; subst hz; omega
          · exact hl.least j zs (by omega) hz
/-- The best ways behind e letters from the end, once d letters from the end are done. -/
def nwT (f : List Srt) (r : List UInt8) : Nat → Nat → Option (List Int)
  | 0, e => if e = 0 then some [] else none
  | d + 1, e => if e = d + 1 then bestW f (fun c => nwT f r d (d + 1 - c)) (r.drop (r.length - (d + 1))) f.length else nwT f r d e
theorem nwT_same {f : List Srt} {r : List UInt8} {d e : Nat} (h : e ≠ d + 1) : nwT f r (d + 1) e = nwT f r d e := by simp [nwT, h]
theorem nwT_new {f : List Srt} {r : List UInt8} {d : Nat} : nwT f r (d + 1) (d + 1) = bestW f (fun c => nwT f r d (d + 1 - c)) (r.drop (r.length - (d + 1))) f.length := by simp [nwT]
theorem nwT_zero (f : List Srt) (r : List UInt8) (d : Nat) : nwT f r d 0 = some [] := by
  induction d with
  | zero => rfl
  | succ d ih => rw [nwT_same (by omega), ih]
theorem nwT_later {f : List Srt} {r : List UInt8} {d e n : Nat} (h : e ≤ d) (hd : d ≤ n) : nwT f r n e = nwT f r d e := by
  induction n with
  | zero => obtain rfl : d = 0 := by omega
            rfl
  | succ n ih =>
    by_cases e1 : d = n + 1
    · rw [e1]
    · rw [nwT_same (by omega), ih (by omega)]
/-- What a way holds: few sorts, all of the font. -/
structure WayOk (f : List Srt) (e : Nat) (xs : List Int) : Prop where
  len : xs.length ≤ e
  ran : ∀ x ∈ xs, 0 ≤ x ∧ x < f.length
theorem preAt_cl {f : List Srt} {s : List UInt8} {i : Nat} (h : preAt f s i = true) : i < f.length ∧ cl f i ≤ s.length := by
  unfold preAt at h
  cases hs : f[i]? with
  | none => rw [hs] at h; cases h
  | some x =>
    rw [hs] at h
    have h1 := preB_iff.1 h
    rw [bl_len] at h1
    exact ⟨(List.getElem?_eq_some_iff.1 hs).1, by rw [cl_of hs]; exact h1.1⟩
theorem cl_pos {f : List Srt} (hf : font f = true) {i : Nat} (h : i < f.length) : 1 ≤ cl f i ∧ cl f i ≤ 3 := by
  have := (font_all hf) f[i] (List.getElem_mem h)
  rw [cl_of (List.getElem?_eq_getElem h)]
  exact ⟨this.2.1, this.2.2.1⟩
theorem cand_ok {f : List Srt} (hf : font f = true) {g : Nat → Option (List Int)} {s : List UInt8} {i e : Nat} {xs : List Int} (hg : ∀ c ys, 1 ≤ c → g c = some ys → WayOk f (e - 1) ys) (he : 1 ≤ e) (h : candW f g s i = some xs) : WayOk f e xs := by
  obtain ⟨hp, ys, hy, rfl⟩ := candW_head h
  obtain ⟨h1, h2⟩ := preAt_cl hp
  have h3 := hg _ ys (cl_pos hf h1).1 hy
  refine ⟨by have := h3.len; simp only [List.length_cons]; omega, fun x hx => ?_⟩
  rcases List.mem_cons.1 hx with rfl | hx
  · omega
  · exact h3.ran x hx
theorem nwT_ok {f : List Srt} (hf : font f = true) (r : List UInt8) : ∀ d e xs, nwT f r d e = some xs → WayOk f e xs := by
  intro d
  induction d with
  | zero =>
    intro e xs h
    unfold nwT at h
    split at h
    · injection h with h; subst h; exact ⟨Nat.zero_le _, fun x hx => by simp at hx⟩
    · cases h
  | succ d ih =>
    intro e xs h
    by_cases e1 : e = d + 1
    · subst e1
      rw [nwT_new] at h
      rcases bestW_spec f (fun c => nwT f r d (d + 1 - c)) (r.drop (r.length - (d + 1))) f.length with ⟨h1, _⟩ | ⟨i, ys, h1, h2⟩
      · rw [h1] at h; cases h
      · rw [h1] at h; injection h with h; subst h
        exact cand_ok hf (fun c zs hc hz => by
          have h3 := ih _ zs hz
          exact ⟨by have := h3.len; omega, h3.ran⟩) (by omega) h2.cand
    · rw [nwT_same e1] at h; exact ih e xs h
theorem wsum_cons {f : List Srt} {i : Nat} {s : Srt} {ys : List Int} (hs : f[i]? = some s) : wsum f ((i : Int) :: ys) = s.set + wsum f ys := by
  simp [wsum, setAt, hs]
theorem wsum_in {f : List Srt} (hf : font f = true) (xs : List Int) : 0 ≤ wsum f xs ∧ wsum f xs ≤ 54 * xs.length := by
  have := wsum_bound hf xs xs.length
  rwa [List.take_of_length_le (Nat.le_refl _)] at this
/-- A way's width, -1 if there is none. -/
def tv (f : List Srt) (o : Option (List Int)) : Int := match o with | none => -1 | some xs => wsum f xs
def nwB (f : List Srt) (word : ByteArray) : Option (List Int) := nwT f (bl word) word.size word.size
def nwP (f : List Srt) (word : ByteArray) : List Int × Int × Bool := if asked f word then (match nwB f word with | some xs => (xs, wsum f xs, true) | none => ([], 0, false)) else ([], 0, false)
theorem nwP_bad {f : List Srt} {word : ByteArray} (h : asked f word = false) : nwP f word = ([], 0, false) := by simp [nwP, h]
theorem nwP_none {f : List Srt} {word : ByteArray} (h : nwB f word = none) : nwP f word = ([], 0, false) := by unfold nwP; rw [h]; split <;> rfl
theorem nwP_some {f : List Srt} {word : ByteArray} {xs : List Int} (h : asked f word = true) (hx : nwB f word = some xs) : nwP f word = (xs, wsum f xs, true) := by simp [nwP, h, hx]
theorem nwP_len (f : List Srt) (word : ByteArray) : (nwP f word).1.length ≤ 4000000 := by
  cases h : asked f word
  · rw [nwP_bad h]; simp
  · obtain ⟨hf, h1, h2⟩ := asked_parts h
    cases hx : nwB f word with
    | none => rw [nwP_none hx]; simp
    | some xs =>
      rw [nwP_some h hx]
      have := (nwT_ok hf _ _ _ _ hx).len
      show xs.length ≤ _
      omega
end Go.Proofs.Ytnkkpphjahpadaa
