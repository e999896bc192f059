/- The plain functions of galleys: no program in sight. -/
import Derived.Test.YtblecbdkpjmfeaaDoorFlat
namespace Go.Proofs.YtblecbdkpjmfeaaDoor
open Go.RowKit
set_option linter.unusedVariables false
structure SetL where
  depth : Int
  note : Int
  para : Int
def SetL.enc (x : SetL) : List Value := [.int .i64 x.depth, .int .i64 x.note, .int .i64 x.para]
theorem SetL.enc_len (x : SetL) : x.enc.length = 3 := rfl
def RdS (w : World) (lo hi : Nat) (A : Option Addr) (l : List SetL) : Prop := Rd w lo hi A (l.flatMap SetL.enc)
def InRS (l : List SetL) : Prop := ∀ x ∈ l, InR x.para
section
variable {w w' : World} {lo hi : Nat} {A : Option Addr} {l : List SetL}
theorem RdS.ext (h : RdS w lo hi A l) (hb : Ext w w') : RdS w' lo hi A l := Rd.ext h hb
theorem RdS.out {lo' hi' : Nat} (h : RdS w lo hi A l) (ho : Out lo' hi' w w') (hd : hi ≤ lo' ∨ hi' ≤ lo) : RdS w' lo hi A l := Rd.out h ho hd
theorem getS (h : RdA w lo hi A (l.flatMap SetL.enc)) {k : Nat} (hk : k < l.length) :
    ∃ x b off, Hid (l[k]? = some x) ∧ A = some ⟨b, off, none⟩ ∧ lo ≤ b ∧ b < hi ∧ b < w.heap.size ∧
      w.cell? ⟨b, off + k * 3, none⟩ = some (.int .i64 x.depth) ∧ w.cell? ⟨b, off + k * 3 + 1, none⟩ = some (.int .i64 x.note) ∧ w.cell? ⟨b, off + k * 3 + 2, none⟩ = some (.int .i64 x.para) := by
  obtain ⟨b, off, e, h1, h2, h3, hc⟩ := h.at_ (k := k * 3) (by rw [flat_len _ 3 SetL.enc_len]; omega)
  have g := fun j hj => flat_get _ 3 SetL.enc_len l k hk j hj
  exact ⟨l[k], b, off, List.getElem?_eq_getElem hk, e, h1, h2, h3, hc _ _ (g 0 (by omega)), hc _ _ (g 1 (by omega)), hc _ _ (g 2 (by omega))⟩
theorem RdS.get (h : RdS w lo hi A l) {k : Nat} (hk : k < l.length) :
    ∃ x b off, Hid (l[k]? = some x) ∧ A = some ⟨b, off, none⟩ ∧ lo ≤ b ∧ b < hi ∧ b < w.heap.size ∧
      w.cell? ⟨b, off + k * 3, none⟩ = some (.int .i64 x.depth) ∧ w.cell? ⟨b, off + k * 3 + 1, none⟩ = some (.int .i64 x.note) ∧ w.cell? ⟨b, off + k * 3 + 2, none⟩ = some (.int .i64 x.para) := getS (Rd.toA h) hk
theorem RdS.cut {b off : Nat} (h : RdS w lo hi (some ⟨b, off, none⟩) l) (i k : Nat) : RdS w lo hi (some ⟨b, off + i * 3, none⟩) (cutL l i k) := Rd.cut SetL.enc_len h i k
end
theorem inB_iff {n lo hi : Int} : inB n lo hi = true ↔ lo ≤ n ∧ n ≤ hi := by simp [inB]
theorem w64 {n : Int} (h : -9223372036854775808 ≤ n) (h' : n ≤ 9223372036854775807) : wrap64 n = n := IntWalk.wrap64_in n ⟨h, h'⟩

/-- The paragraph of the line before line k. -/
def prevP (l : List SetL) (k : Nat) : Int := if k = 0 then 0 else match l[k - 1]? with | some x => x.para | none => 0
theorem prevP_succ {l : List SetL} {k : Nat} {x : SetL} (h : l[k]? = some x) : prevP l (k + 1) = x.para := by simp [prevP, h]
def okAt (l : List SetL) (k : Nat) (x : SetL) : Bool := ((inB x.depth 1 40 && inB x.note 0 60) && inB x.para (prevP l k) (prevP l k + 1)) && (decide (k ≠ 0) || decide (x.para = 0))
def galTo (l : List SetL) (k : Nat) : Bool := (List.range k).all fun i => match l[i]? with | some x => okAt l i x | none => true
def gal (l : List SetL) : Bool := galTo l l.length && inB l.length 1 40
theorem galTo_succ {l : List SetL} {k : Nat} {x : SetL} (h : l[k]? = some x) : galTo l (k + 1) = (galTo l k && okAt l k x) := by simp [galTo, List.range_succ, h]
theorem galTo_mono {l : List SetL} {k : Nat} (n : Nat) (hk : k ≤ n) (h : galTo l k = false) : galTo l n = false := by
  rw [galTo, List.all_eq_false] at h ⊢
  obtain ⟨i, hi, hp⟩ := h
  exact ⟨i, List.mem_range.2 (by have := List.mem_range.1 hi; omega), hp⟩
theorem gal_bad {l : List SetL} {k : Nat} {x : SetL} (hx : l[k]? = some x) (h : okAt l k x = false) : gal l = false := by
  have hk : k < l.length := (List.getElem?_eq_some_iff.1 hx).1
  have : galTo l l.length = false := galTo_mono (k := k + 1) _ (by omega) (by rw [galTo_succ hx, h]; simp)
  simp [gal, this]
theorem galTo_all {l : List SetL} {n : Nat} (h : galTo l n = true) {i : Nat} {x : SetL} (hi : i < n) (hx : l[i]? = some x) : okAt l i x = true := by
  have := List.all_eq_true.1 h i (List.mem_range.2 hi)
  rwa [hx] at this
theorem prevP_bound {l : List SetL} {k : Nat} (hk : k ≤ l.length) (h : galTo l k = true) : 0 ≤ prevP l k ∧ prevP l k ≤ k := by
  induction k with
  | zero => simp [prevP]
  | succ k ih =>
    obtain ⟨x, hx⟩ : ∃ x, l[k]? = some x := ⟨_, List.getElem?_eq_getElem (by omega)⟩
    rw [galTo_succ hx, Bool.and_eq_true] at h
    have := ih (by omega) h.1
    have h2 := h.2
    simp only [okAt, Bool.and_eq_true] at h2
    have := inB_iff.1 h2.1.2
    rw [prevP_succ hx]
    omega
/-- How the program asks for it. -/
theorem okAt_impl {l : List SetL} {k : Nat} {x : SetL} (hr : InR x.para) (hb : 0 ≤ prevP l k ∧ prevP l k ≤ 1048577) (h1 : inB x.depth 1 40 = true) (h2 : inB x.note 0 60 = true) :
    okAt l k x = if k = 0 then decide (x.para = 0) else inB (wrap64 (x.para - prevP l k)) 0 1 := by
  obtain ⟨r1, r2⟩ := hr
  simp only [okAt, h1, h2, Bool.true_and]
  by_cases hk : k = 0
  · subst hk
    have : prevP l 0 = 0 := rfl
    rw [this, if_pos rfl]
    by_cases h0 : x.para = 0
    · simp [h0, inB]
    · simp [h0]
  · rw [if_neg hk]
    simp only [hk, ne_eq, not_false_eq_true, decide_true, Bool.true_or, Bool.and_true]
    by_cases hw : -9223372036854775808 ≤ x.para - prevP l k
    · rw [w64 hw (by omega), Bool.eq_iff_iff, inB_iff, inB_iff]; omega
    · have e : wrap64 (x.para - prevP l k) = x.para - prevP l k + 18446744073709551616 := by unfold wrap64; omega
      rw [e, Bool.eq_iff_iff, inB_iff, inB_iff]; omega

/-- The depth of some lines, as Go adds it. -/
def deep (l : List SetL) : Int := l.foldl (fun n x => wrap64 (n + wrap64 (x.depth + x.note))) 0
theorem deep_snoc {l : List SetL} {k : Nat} {x : SetL} (h : l[k]? = some x) : deep (l.take (k + 1)) = wrap64 (deep (l.take k) + wrap64 (x.depth + x.note)) := by
  rw [take_snoc h]; simp [deep]
def paged (l : List SetL) (d : Int) : Bool := gal l && inB d 40 2000 && l.all fun x => decide (x.depth + x.note ≤ d)
theorem gal_each {l : List SetL} (h : gal l = true) {x : SetL} (hx : x ∈ l) : (1 ≤ x.depth ∧ x.depth ≤ 40) ∧ (0 ≤ x.note ∧ x.note ≤ 60) := by
  obtain ⟨i, hi, rfl⟩ := List.mem_iff_getElem.1 hx
  simp only [gal, Bool.and_eq_true] at h
  have := galTo_all h.1 hi (List.getElem?_eq_getElem hi)
  simp only [okAt, Bool.and_eq_true] at this
  exact ⟨inB_iff.1 this.1.1.1, inB_iff.1 this.1.1.2⟩
theorem paged_badI {l : List SetL} {d : Int} {x : SetL} (hx : x ∈ l) (h : d < wrap64 (x.depth + x.note)) : paged l d = false := by
  cases hg : gal l
  · simp [paged, hg]
  · have := gal_each hg hx
    rw [w64 (by omega) (by omega)] at h
    have : (l.all fun x => decide (x.depth + x.note ≤ d)) = false := by
      rw [List.all_eq_false]; exact ⟨x, hx, by simp; omega⟩
    simp [paged, this]
theorem paged_goodI {l : List SetL} {d : Int} (h : ∀ x ∈ l, wrap64 (x.depth + x.note) ≤ d) : paged l d = (gal l && inB d 40 2000) := by
  cases hg : gal l
  · simp [paged, hg]
  · have : (l.all fun x => decide (x.depth + x.note ≤ d)) = true := by
      rw [List.all_eq_true]; intro x hx
      have e := gal_each hg hx
      have := h x hx
      rw [w64 (by omega) (by omega)] at this
      simpa using this
    simp [paged, this, hg]
theorem paged_badS {l : List SetL} {d : Int} {x : SetL} (hx : x ∈ l) (h : d < x.depth + x.note) : paged l d = false := by
  have : (l.all fun x => decide (x.depth + x.note ≤ d)) = false := by
    rw [List.all_eq_false]; exact ⟨x, hx, by simp; omega⟩
  simp [paged, this]
theorem paged_goodS {l : List SetL} {d : Int} (h : ∀ x ∈ l, (inB x.depth 1 40 && inB x.note 0 60) = true → x.depth + x.note ≤ d) : paged l d = (gal l && inB d 40 2000) := by
  cases hg : gal l
  · simp [paged, hg]
  · have : (l.all fun x => decide (x.depth + x.note ≤ d)) = true := by
      rw [List.all_eq_true]; intro x hx
      have e := gal_each hg hx
      have := h x hx (by rw [Bool.and_eq_true, inB_iff, inB_iff]; exact e)
      simpa using this
    simp [paged, this, hg]
theorem paged_parts {l : List SetL} {d : Int} (h : paged l d = true) : gal l = true ∧ (40 ≤ d ∧ d ≤ 2000) ∧ 1 ≤ l.length ∧ l.length ≤ 40 := by
  simp only [paged, Bool.and_eq_true] at h
  have h2 := h.1.1
  simp only [gal, Bool.and_eq_true] at h2
  have := inB_iff.1 h2.2
  exact ⟨h.1.1, inB_iff.1 h.1.2, by omega, by omega⟩

/-- The ends of pages that have as many lines as fit, and the first line of the page at hand. -/
def fillTo (l : List SetL) (d : Int) : Nat → List Int × Nat
  | 0 => ([], 0)
  | i + 1 => if d < deep (cutL l (fillTo l d i).2 (i + 1)) then ((fillTo l d i).1 ++ [(i : Int)], i) else fillTo l d i
theorem fillTo_bound (l : List SetL) (d : Int) (k : Nat) : (fillTo l d k).1.length ≤ k ∧ ((fillTo l d k).2 < k ∨ (fillTo l d k).2 = 0) := by
  induction k with
  | zero => simp [fillTo]
  | succ k ih =>
    rw [fillTo]
    split
    · simp; omega
    · omega
def fillL (l : List SetL) (d : Int) : List Int := (fillTo l d l.length).1 ++ [(l.length : Int)]
end Go.Proofs.YtblecbdkpjmfeaaDoor
