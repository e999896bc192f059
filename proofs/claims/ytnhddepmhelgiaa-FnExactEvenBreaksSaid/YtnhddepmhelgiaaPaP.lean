/- Plain laws of parallel texts. No walk in sight. -/
import Derived.Test.YtnhddepmhelgiaaPaC
namespace Go.Proofs.Ytnhddepmhelgiaa
open Go.RowKit
set_option linter.unusedVariables false
theorem par_row {ls : List (List Int)} (h : par ls = true) {k : Nat} {l : List Int} (hl : ls[k]? = some l) : l.length = hdLen ls ∧ (1 ≤ l.length ∧ l.length ≤ 6) ∧ ∀ x ∈ l, 0 ≤ x ∧ x ≤ 200 := by
  simp only [par, Bool.and_eq_true] at h
  have hk : k < ls.length := (List.getElem?_eq_some_iff.1 hl).1
  have h1 := List.all_eq_true.1 h.1 k (List.mem_range.2 hk)
  rw [hl] at h1
  simp only [rowOk, Bool.and_eq_true, decide_eq_true_eq] at h1
  have h2 := inB_iff.1 h1.1.2
  exact ⟨h1.1.1, by omega, fun x hx => inB_iff.1 (List.all_eq_true.1 h1.2 x hx)⟩
theorem par_len {ls : List (List Int)} (h : par ls = true) : ls.length ≤ 24 := by
  simp only [par, Bool.and_eq_true, decide_eq_true_eq] at h; exact h.2
theorem par_mem {ls : List (List Int)} (h : par ls = true) {l : List Int} (hl : l ∈ ls) : l.length = hdLen ls ∧ (1 ≤ l.length ∧ l.length ≤ 6) ∧ ∀ x ∈ l, 0 ≤ x ∧ x ≤ 200 := by
  obtain ⟨k, hk⟩ := List.mem_iff_getElem?.1 hl
  exact par_row h hk
theorem hdLen_le {ls : List (List Int)} (h : par ls = true) : hdLen ls ≤ 6 := by
  cases h0 : ls[0]? with
  | none => simp [hdLen, h0]
  | some l => have := par_row h h0; omega
theorem most_ge (a b : Int) : a ≤ most a b ∧ b ≤ most a b ∧ (most a b = a ∨ most a b = b) := by unfold most; split <;> omega
theorem grt_foldl (l : List Int) : ∀ a : Int, a ≤ l.foldl most a ∧ (∀ x ∈ l, x ≤ l.foldl most a) ∧ (l.foldl most a = a ∨ l.foldl most a ∈ l) := by
  induction l with
  | nil => intro a; simp
  | cons y l ih =>
    intro a
    have h := ih (most a y)
    have hm := most_ge a y
    rw [List.foldl_cons]
    refine ⟨by omega, fun x hx => ?_, ?_⟩
    · rcases List.mem_cons.1 hx with rfl | hx
      · omega
      · exact h.2.1 x hx
    · rcases h.2.2 with e | e
      · rw [e]; rcases hm.2.2 with e2 | e2
        · left; exact e2
        · right; rw [e2]; exact List.mem_cons_self
      · right; exact List.mem_cons_of_mem _ e
theorem grt_nonneg (l : List Int) : 0 ≤ grt l := (grt_foldl l 0).1
theorem grt_ge {l : List Int} {x : Int} (h : x ∈ l) : x ≤ grt l := (grt_foldl l 0).2.1 x h
theorem grt_le_iff (l : List Int) {d : Int} (hd : 0 ≤ d) : grt l ≤ d ↔ ∀ x ∈ l, x ≤ d := by
  constructor
  · intro h x hx; have := grt_ge hx; omega
  · intro h
    rcases (grt_foldl l 0).2.2 with e | e
    · have : grt l = 0 := e; omega
    · exact h _ e
theorem grt_bound {l : List Int} {d : Int} (hd : 0 ≤ d) (h : ∀ x ∈ l, 0 ≤ x ∧ x ≤ d) : 0 ≤ grt l ∧ grt l ≤ d := ⟨grt_nonneg l, (grt_le_iff l hd).2 fun x hx => (h x hx).2⟩
theorem heights_mem {ls : List (List Int)} (h : par ls = true) {x : Int} (hx : x ∈ ls.map grt) : 0 ≤ x ∧ x ≤ 200 := by
  obtain ⟨l, hl, rfl⟩ := List.mem_map.1 hx
  exact grt_bound (by omega) (par_mem h hl).2.2
def rhP (ls : List (List Int)) : List Int × Bool := if par ls then (ls.map grt, true) else ([], false)
theorem rhP_bad {ls : List (List Int)} (h : par ls = false) : rhP ls = ([], false) := by simp only [rhP, h]; rfl
theorem rhP_good {ls : List (List Int)} (h : par ls = true) : rhP ls = (ls.map grt, true) := by simp only [rhP, h]; rfl
theorem rhP_len (ls : List (List Int)) : (rhP ls).1.length ≤ 4000000 := by
  cases h : par ls
  · rw [rhP_bad h]; simp
  · rw [rhP_good h]; have := par_len h; simp; omega
/-- The blank lines of column c in the first k rows, as Go adds them. -/
def blkTo (ls : List (List Int)) (k c : Nat) : Int := (ls.take k).foldl (fun n l => wrap64 (n + wrap64 (grt l - l[c]?.getD 0))) 0
theorem blkTo_succ {ls : List (List Int)} {k c : Nat} {l : List Int} {x : Int} (h : ls[k]? = some l) (hx : l[c]? = some x) : blkTo ls (k + 1) c = wrap64 (blkTo ls k c + wrap64 (grt l - x)) := by
  rw [blkTo, take_snoc h]; simp [blkTo, hx]
def blkL (ls : List (List Int)) : List Int := (List.range (hdLen ls)).map (blkTo ls ls.length)
theorem blkL_len (ls : List (List Int)) : (blkL ls).length = hdLen ls := by simp [blkL]
theorem blkL_at {ls : List (List Int)} {i : Nat} (h : i < hdLen ls) : (blkL ls)[i]? = some (blkTo ls ls.length i) := by simp [blkL, h]
def blP (ls : List (List Int)) : List Int × Bool := if par ls then (blkL ls, true) else ([], false)
theorem blP_bad {ls : List (List Int)} (h : par ls = false) : blP ls = ([], false) := by simp only [blP, h]; rfl
theorem blP_good {ls : List (List Int)} (h : par ls = true) : blP ls = (blkL ls, true) := by simp only [blP, h]; rfl
theorem blP_len (ls : List (List Int)) : (blP ls).1.length ≤ 4000000 := by
  cases h : par ls
  · rw [blP_bad h]; simp
  · rw [blP_good h]; have := hdLen_le h; simp only [blkL_len]; omega
/-- The place of the first greatest number among the first k. -/
def mbTo (xs : List Int) : Nat → Nat
  | 0 => 0
  | k + 1 => if xs[mbTo xs k]?.getD 0 < xs[k]?.getD 0 then k else mbTo xs k
theorem mbTo_lt (xs : List Int) (k : Nat) : mbTo xs k < k ∨ mbTo xs k = 0 := by
  induction k with
  | zero => exact .inr rfl
  | succ k ih => rw [mbTo]; split <;> omega
theorem mbTo_step {xs : List Int} {k j : Nat} {x y : Int} (hj : mbTo xs k = j) (hx : xs[k]? = some x) (hy : xs[j]? = some y) : mbTo xs (k + 1) = if y < x then k else j := by
  rw [mbTo, hj, hx, hy]; rfl
def mbV (ls : List (List Int)) : Value := if par ls && decide (0 < ls.length) then .tuple #[.int .i64 (mbTo (blkL ls) (blkL ls).length), .bool true] else .tuple #[.int .i64 0, .bool false]
theorem mbV_bad {ls : List (List Int)} (h : (par ls && decide (0 < ls.length)) = false) : mbV ls = .tuple #[.int .i64 0, .bool false] := by simp only [mbV, h]; rfl
theorem mbV_good {ls : List (List Int)} (h : par ls = true) (h2 : 0 < ls.length) : mbV ls = .tuple #[.int .i64 (mbTo (blkL ls) (blkL ls).length), .bool true] := by simp [mbV, h, h2]
theorem mbV_form (ls : List (List Int)) : ∃ x z, mbV ls = .tuple #[.int .i64 x, .bool z] := by unfold mbV; split <;> exact ⟨_, _, rfl⟩
/-- The breaks of pages that are as full as can be, and how full the page at hand is. -/
def brkTo (hs : List Int) (d : Int) : Nat → List Int × Int
  | 0 => ([], 0)
  | k + 1 => if d < (brkTo hs d k).2 + hs[k]?.getD 0 then ((brkTo hs d k).1 ++ [(k : Int)], hs[k]?.getD 0) else ((brkTo hs d k).1, (brkTo hs d k).2 + hs[k]?.getD 0)
theorem brkTo_yes {hs : List Int} {d : Int} {k : Nat} {E : List Int} {u n : Int} (h : brkTo hs d k = (E, u)) (hn : hs[k]? = some n) (hd : d < u + n) : brkTo hs d (k + 1) = (E ++ [(k : Int)], n) := by
  rw [brkTo, h, hn]; exact if_pos hd
theorem brkTo_no {hs : List Int} {d : Int} {k : Nat} {E : List Int} {u n : Int} (h : brkTo hs d k = (E, u)) (hn : hs[k]? = some n) (hd : ¬ d < u + n) : brkTo hs d (k + 1) = (E, u + n) := by
  rw [brkTo, h, hn]; exact if_neg hd
theorem brkTo_len (hs : List Int) (d : Int) (k : Nat) : (brkTo hs d k).1.length ≤ k := by
  induction k with
  | zero => simp [brkTo]
  | succ k ih => rw [brkTo]; split <;> simp <;> omega
def brkL (hs : List Int) (d : Int) : List Int := (brkTo hs d hs.length).1
def rowsOn (ls : List (List Int)) (d : Int) : Bool := par ls && inB d 1 1000 && decide (grt (ls.map grt) ≤ d)
theorem rowsOn_parts {ls : List (List Int)} {d : Int} (h : rowsOn ls d = true) : par ls = true ∧ (1 ≤ d ∧ d ≤ 1000) ∧ ∀ x ∈ ls.map grt, 0 ≤ x ∧ x ≤ 200 ∧ x ≤ d := by
  simp only [rowsOn, Bool.and_eq_true, decide_eq_true_eq] at h
  have h2 := inB_iff.1 h.1.2
  refine ⟨h.1.1, h2, fun x hx => ?_⟩
  have := heights_mem h.1.1 hx
  exact ⟨this.1, this.2, (grt_le_iff _ (by omega)).1 h.2 x hx⟩
theorem rowsOn_spec {ls : List (List Int)} {d : Int} (h1 : par ls = true) (h2 : inB d 1 1000 = true) : rowsOn ls d = (ls.map grt).all fun x => inB x 0 d := by
  have hd := inB_iff.1 h2
  simp only [rowsOn, h1, h2, Bool.true_and]
  rw [Bool.eq_iff_iff, decide_eq_true_eq, List.all_eq_true, grt_le_iff _ (by omega)]
  constructor
  · intro h x hx; have := heights_mem h1 hx; exact inB_iff.2 ⟨this.1, h x hx⟩
  · intro h x hx; exact (inB_iff.1 (h x hx)).2
def pbP (ls : List (List Int)) (d : Int) : List Int × Bool := if rowsOn ls d then (brkL (ls.map grt) d, true) else ([], false)
theorem pbP_bad {ls : List (List Int)} {d : Int} (h : rowsOn ls d = false) : pbP ls d = ([], false) := by simp only [pbP, h]; rfl
theorem pbP_good {ls : List (List Int)} {d : Int} (h : rowsOn ls d = true) : pbP ls d = (brkL (ls.map grt) d, true) := by simp only [pbP, h]; rfl
theorem pbP_len (ls : List (List Int)) (d : Int) : (pbP ls d).1.length ≤ 4000000 := by
  cases h : rowsOn ls d
  · rw [pbP_bad h]; simp
  · rw [pbP_good h]
    have := par_len (rowsOn_parts h).1
    have := brkTo_len (ls.map grt) d (ls.map grt).length
    simp only [brkL]; simp at this ⊢; omega
end Go.Proofs.Ytnhddepmhelgiaa
