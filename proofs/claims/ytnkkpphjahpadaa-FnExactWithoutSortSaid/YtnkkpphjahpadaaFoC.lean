/- The plain functions of a font with one more sort, and without one. No program in sight. -/
import Derived.Test.YtnkkpphjahpadaaFoQ
namespace Go.Proofs.Ytnkkpphjahpadaa
open Go.RowKit
set_option linter.unusedVariables false
theorem bless_irrefl (x : List UInt8) : Op.bytesLess x x = false := by
  induction x with
  | nil => rfl
  | cons a x ih => simp [Op.bytesLess, ih]
theorem bless_trans : ∀ (x y z : List UInt8), Op.bytesLess x y = true → Op.bytesLess y z = true → Op.bytesLess x z = true := by
  intro x
  induction x with
  | nil =>
    intro y z h1 h2
    cases y with
    | nil => simp [Op.bytesLess] at h1
    | cons b y =>
      cases z with
      | nil => simp [Op.bytesLess] at h2
      | cons c z => simp [Op.bytesLess]
  | cons a x ih =>
    intro y z h1 h2
    cases y with
    | nil => simp [Op.bytesLess] at h1
    | cons b y =>
      cases z with
      | nil => simp [Op.bytesLess] at h2
      | cons c z =>
        simp only [Op.bytesLess, Bool.or_eq_true, Bool.and_eq_true, decide_eq_true_eq, beq_iff_eq] at h1 h2 ⊢
        rcases h1 with h1 | ⟨rfl, h1⟩
        · rcases h2 with h2 | ⟨rfl, h2⟩
          · exact .inl (UInt8.lt_trans h1 h2)
          · exact .inl h1
        · rcases h2 with h2 | ⟨rfl, h2⟩
          · exact .inl h2
          · exact .inr ⟨rfl, ih y z h1 h2⟩
theorem lessB_trans {a b c : Srt} (h1 : lessB a b = true) (h2 : lessB b c = true) : lessB a c = true := bless_trans _ _ _ h1 h2
theorem font_mono {f : List Srt} (h : font f = true) {i : Nat} {a : Srt} (ha : f[i]? = some a) : ∀ (d : Nat) (b : Srt), f[i + 1 + d]? = some b → lessB a b = true := by
  intro d
  induction d with
  | zero => intro b hb; exact font_less h ha hb
  | succ d ih =>
    intro b hb
    have hl := (List.getElem?_eq_some_iff.1 hb).1
    have hc : f[i + 1 + d]? = some f[i + 1 + d] := List.getElem?_eq_getElem (by omega)
    exact lessB_trans (ih _ hc) (font_less h hc hb)
/-- Where a sort belongs. -/
def insP (f : List Srt) (s : Srt) : Nat := f.findIdx (fun a => !lessB a s)
def insTo (f : List Srt) (s : Srt) (k : Nat) : Bool := (f.take k).all fun a => lessB a s
theorem insTo_succ {f : List Srt} {s a : Srt} {k : Nat} (h : f[k]? = some a) : insTo f s (k + 1) = (insTo f s k && lessB a s) := by
  rw [insTo, take_snoc h]; simp [insTo]
theorem insP_at {f : List Srt} {s a : Srt} {k : Nat} (h : insTo f s k = true) (ha : f[k]? = some a) (hn : lessB a s = false) : insP f s = k := by
  obtain ⟨hk, hg⟩ := List.getElem?_eq_some_iff.1 ha
  rw [insP, List.findIdx_eq hk]
  refine ⟨by rw [hg, hn]; rfl, fun j hj => ?_⟩
  simp only [insTo, List.all_eq_true] at h
  have := h f[j] (List.mem_iff_getElem?.2 ⟨j, by rw [List.getElem?_take_of_lt hj]; exact List.getElem?_eq_getElem (by omega)⟩)
  simp [this]
theorem insP_end {f : List Srt} {s : Srt} (h : insTo f s f.length = true) : insP f s = f.length := by
  rw [insP, List.findIdx_eq_length]
  intro a ha
  simp only [insTo, List.take_of_length_le (Nat.le_refl _), List.all_eq_true] at h
  simp [h a ha]
theorem insP_le (f : List Srt) (s : Srt) : insP f s ≤ f.length := List.findIdx_le_length
def ins (f : List Srt) (s : Srt) : List Srt := f.take (insP f s) ++ [s] ++ f.drop (insP f s)
theorem ins_len (f : List Srt) (s : Srt) : (ins f s).length = f.length + 1 := by
  have := insP_le f s
  simp [ins]; omega
theorem ins_mem {f : List Srt} {s x : Srt} (h : x ∈ ins f s) : x ∈ f ∨ x = s := by
  simp only [ins, List.mem_append, List.mem_singleton] at h
  rcases h with (h | h) | h
  · exact .inl (List.mem_of_mem_take h)
  · exact .inr h
  · exact .inl (List.mem_of_mem_drop h)
theorem ins_double {f : List Srt} {s : Srt} (hf : font f = true) (h : 0 ≤ findP f s.code) : font (ins f s) = false := by
  rcases findP_cases f s.code with ⟨h1, _⟩ | ⟨k, t, hk, ht, he, _⟩
  · omega
  · have he' : t.code.toList = s.code.toList := by simpa using he
    have hle : insP f s ≤ k := by
      rcases Nat.lt_or_ge k (insP f s) with hlt | hge
      · have := List.not_of_lt_findIdx (p := fun a => !lessB a s) (xs := f) (i := k) hlt
        obtain ⟨hkl, hg⟩ := List.getElem?_eq_some_iff.1 ht
        rw [hg] at this
        have hb : lessB t s = false := by rw [lessB, he']; exact bless_irrefl _
        simp [hb] at this
      · exact hge
    have hkl := (List.getElem?_eq_some_iff.1 ht).1
    have hkk : insP f s = k := by
      rcases Nat.lt_or_ge (insP f s) k with hlt | hge
      · have hil : insP f s < f.length := by omega
        have hp := List.findIdx_getElem (p := fun a => !lessB a s) (xs := f) (w := hil)
        have hq := font_mono hf (i := insP f s) (a := f[insP f s]) (List.getElem?_eq_getElem hil) (k - (insP f s + 1)) t (by rw [show insP f s + 1 + (k - (insP f s + 1)) = k by omega]; exact ht)
        have hq' : lessB f[insP f s] s = true := by rw [lessB, ← he']; exact hq
        have hp' : (!lessB f[insP f s] s) = true := hp
        rw [hq'] at hp'
        cases hp'
      · omega
    have e1 : (ins f s)[k]? = some s := by
      rw [ins, hkk, List.append_assoc, List.getElem?_append_right (by simp; omega)]
      simp [Nat.min_eq_left (show k ≤ f.length by omega)]
    have e2 : (ins f s)[k + 1]? = some t := by
      rw [ins, hkk, List.append_assoc, List.getElem?_append_right (by simp; omega)]
      simp [Nat.min_eq_left (show k ≤ f.length by omega), ht]
    refine font_no (k := k + 1) (by rw [ins_len]; omega) ?_
    rw [fontAt_pos (by omega) e2 (by simpa using e1)]
    have : lessB s t = false := by rw [lessB, he']; exact bless_irrefl _
    rw [this]; simp
def wsP (f : List Srt) (s : Srt) : List Srt × Bool := if (font f && srtOk s) && font (ins f s) then (ins f s, true) else ([], false)
theorem wsP_bad {f : List Srt} {s : Srt} (h : ((font f && srtOk s) && font (ins f s)) = false) : wsP f s = ([], false) := by simp only [wsP, h]; rfl
theorem wsP_good {f : List Srt} {s : Srt} (h1 : font f = true) (h2 : srtOk s = true) (h3 : font (ins f s) = true) : wsP f s = (ins f s, true) := by simp only [wsP, h1, h2, h3]; rfl
theorem wsP_len (f : List Srt) (s : Srt) : (wsP f s).1.length ≤ 4000000 := by
  cases h : (font f && srtOk s) && font (ins f s)
  · rw [wsP_bad h]; simp
  · simp only [Bool.and_eq_true] at h
    rw [wsP_good h.1.1 h.1.2 h.2]
    have := font_len h.2
    show (ins f s).length ≤ _
    omega
def del (f : List Srt) (i : Nat) : List Srt := f.take i ++ f.drop (i + 1)
theorem del_len {f : List Srt} {i : Nat} (h : i < f.length) : (del f i).length = f.length - 1 := by simp [del]; omega
def woB (f : List Srt) (c : ByteArray) : Bool := (font f && decide (0 ≤ findP f c)) && !decide (f.length = 1)
def woP (f : List Srt) (c : ByteArray) : List Srt × Bool := if woB f c then (del f (findP f c).toNat, true) else ([], false)
theorem woP_bad {f : List Srt} {c : ByteArray} (h : woB f c = false) : woP f c = ([], false) := by simp [woP, h]
theorem woP_good {f : List Srt} {c : ByteArray} (h : woB f c = true) : woP f c = (del f (findP f c).toNat, true) := by simp [woP, h]
theorem woP_len (f : List Srt) (c : ByteArray) : (woP f c).1.length ≤ 4000000 := by
  cases h : woB f c
  · rw [woP_bad h]; simp
  · rw [woP_good h]
    simp only [woB, Bool.and_eq_true] at h
    have := font_len h.1.1
    show (del f _).length ≤ _
    simp [del]; omega
end Go.Proofs.Ytnkkpphjahpadaa
