/- Plain facts on cut-ins: no program in sight. -/
import Derived.Test.YtllgjgoimnimaaaCutP
namespace Go.Proofs.Ytllgjgoimnimaaa
open Go.RowKit
set_option linter.unusedVariables false

theorem inB_iff {n lo hi : Int} : inB n lo hi = true ↔ lo ≤ n ∧ n ≤ hi := by simp [inB]
theorem w64 {n : Int} (h : -9223372036854775808 ≤ n) (h' : n ≤ 9223372036854775807) : wrap64 n = n := IntWalk.wrap64_in n ⟨h, h'⟩
theorem isCut_iff {x : Cut} : isCut x = true ↔ (0 ≤ x.line ∧ x.line ≤ 200) ∧ (1 ≤ x.lines ∧ x.lines ≤ 30) ∧ (1 ≤ x.wide ∧ x.wide ≤ 600) ∧ (0 ≤ x.side ∧ x.side ≤ 1) := by
  simp [isCut, inB]
  omega
theorem areCut_parts {m : Int} {l : List Cut} (h : areCut m l = true) : goodTo l l.length = true ∧ roomTo m l 230 = true ∧ (40 ≤ m ∧ m ≤ 600) ∧ l.length ≤ 10 := by
  simp [areCut, inB] at h
  exact ⟨h.1.1.1, h.1.1.2, h.1.2, h.2⟩
theorem goodTo_all {l : List Cut} {k : Nat} (h : goodTo l k = true) : ∀ (i : Nat) x, i < k → l[i]? = some x → isCut x = true ∧ ∀ (j : Nat) y, j < i → l[j]? = some y → clashC x y = false := by
  intro i x hi hx
  have h1 := List.all_eq_true.1 h i (List.mem_range.2 hi)
  rw [hx] at h1
  simp only [goodAt, Bool.and_eq_true] at h1
  refine ⟨h1.1, fun j y hj hy => ?_⟩
  have h2 := List.all_eq_true.1 h1.2 y (by
    rw [List.mem_iff_getElem?]
    exact ⟨j, by rw [List.getElem?_take, if_pos hj]; exact hy⟩)
  simpa using h2
theorem areCut_each {m : Int} {l : List Cut} (h : areCut m l = true) {x : Cut} (hx : x ∈ l) : isCut x = true := by
  obtain ⟨i, hi, rfl⟩ := List.mem_iff_getElem.1 hx
  exact (goodTo_all (areCut_parts h).1 i _ hi (List.getElem?_eq_getElem hi)).1
theorem beside_iff {x : Cut} (h : isCut x = true) (n : Int) : beside x n = true ↔ x.line ≤ n ∧ n ≤ x.line + x.lines - 1 := by
  obtain ⟨h1, h2, _, _⟩ := isCut_iff.1 h
  rw [beside, w64 (n := x.line + x.lines) (by omega) (by omega), w64 (by omega) (by omega), inB_iff]
theorem meas_bound (n : Int) (l : List Cut) : ∀ m : Int, (∀ x ∈ l, isCut x = true) → -1000000000 ≤ m - 600 * l.length → m ≤ 1000000000 → m - 600 * l.length ≤ meas m l n ∧ meas m l n ≤ m := by
  induction l with
  | nil => intro m _ _ _; simp [meas]
  | cons x l ih =>
    intro m hx h1 h2
    obtain ⟨_, _, h5, _⟩ := isCut_iff.1 (hx x (by simp))
    simp only [List.length_cons, Int.natCast_add] at h1
    have e : meas m (x :: l) n = meas (measStep n m x) l n := rfl
    rw [e]
    have hs : measStep n m x ≤ m ∧ m - 600 ≤ measStep n m x := by
      unfold measStep
      split
      · rw [w64 (by omega) (by omega)]; omega
      · omega
    have := ih (measStep n m x) (fun y hy => hx y (by simp [hy])) (by omega) (by omega)
    simp only [List.length_cons, Int.natCast_add]
    omega
theorem meas_far (n : Int) (hn : 230 ≤ n) (l : List Cut) : ∀ m : Int, (∀ x ∈ l, isCut x = true) → meas m l n = m := by
  induction l with
  | nil => intro m _; rfl
  | cons x l ih =>
    intro m hx
    obtain ⟨h3, h4, _, _⟩ := isCut_iff.1 (hx x (by simp))
    have e : meas m (x :: l) n = meas (measStep n m x) l n := rfl
    have hb : beside x n = false := by
      cases hc : beside x n
      · rfl
      · have := (beside_iff (hx x (by simp)) n).1 hc; omega
    rw [e, measStep, hb]
    exact ih m fun y hy => hx y (by simp [hy])
theorem meas_room {m : Int} {l : List Cut} (h : areCut m l = true) (n : Nat) : 40 ≤ meas m l n ∧ meas m l n ≤ m ∧ m ≤ 600 := by
  obtain ⟨_, h2, h3, h4⟩ := areCut_parts h
  have hb := meas_bound n l m (fun x hx => areCut_each h hx) (by omega) (by omega)
  refine ⟨?_, hb.2, h3.2⟩
  by_cases hn : n < 230
  · have := List.all_eq_true.1 h2 n (List.mem_range.2 hn)
    simpa using this
  · rw [meas_far n (by omega) l m (fun x hx => areCut_each h hx)]; exact h3.1

/-- The sum of f 0 .. f (n - 1). -/
def sumTo (f : Nat → Int) (n : Nat) : Int := ((List.range n).map f).sum
theorem sumTo_zero (f : Nat → Int) : sumTo f 0 = 0 := rfl
theorem sumTo_succ (f : Nat → Int) (n : Nat) : sumTo f (n + 1) = sumTo f n + f n := by
  simp [sumTo, List.range_succ]
theorem sumTo_ge (f : Nat → Int) (c : Int) (h : ∀ i, c ≤ f i) (n : Nat) : c * n ≤ sumTo f n := by
  induction n with
  | zero => simp [sumTo_zero]
  | succ n ih => rw [sumTo_succ]; have := h n; rw [Int.natCast_add, Int.mul_add]; omega
theorem sumTo_le (f : Nat → Int) (c : Int) (h : ∀ i, f i ≤ c) (n : Nat) : sumTo f n ≤ c * n := by
  induction n with
  | zero => simp [sumTo_zero]
  | succ n ih => rw [sumTo_succ]; have := h n; rw [Int.natCast_add, Int.mul_add]; omega

def loiN (size body lead : Int) : Int := (size + lead + body + lead - 1) / (body + lead)
theorem loi_done {size body lead h : Int} {k : Nat} (hb : 1 ≤ body) (hl : 0 ≤ lead) (he : h = body + k * (lead + body)) (h1 : size ≤ h) (h0 : k = 0 ∨ h - (lead + body) < size) (hs : 1 ≤ size) :
    loiN size body lead = k + 1 := by
  unfold loiN
  have hd : 0 < body + lead := by omega
  have e2 : ((k : Int) + 1) * (body + lead) = h + lead := by
    rw [he, Int.add_mul, Int.one_mul, Int.add_comm lead body]; omega
  have e1 : (k : Int) * (body + lead) = h - body := by rw [he, Int.add_comm lead body]; omega
  have e3 : ((k : Int) + 1 + 1) * (body + lead) = h + lead + (body + lead) := by rw [Int.add_mul, Int.one_mul, e2]
  have u1 : (k : Int) + 1 ≤ (size + lead + body + lead - 1) / (body + lead) := by
    rw [Int.le_ediv_iff_mul_le hd, e2]
    rcases h0 with h0 | h0
    · subst h0; simp at he; omega
    · omega
  have u2 : (size + lead + body + lead - 1) / (body + lead) < (k : Int) + 1 + 1 := by
    rw [Int.ediv_lt_iff_lt_mul hd, e3]; omega
  omega

def atP (line side : Int) (x : Cut) : Bool := x.side == side && beside x line
def atIdx (l : List Cut) (line side : Int) : Option Nat := l.findIdx? (atP line side)
theorem atIdx_some {l : List Cut} {line side : Int} {k : Nat} {x : Cut} (hx : l[k]? = some x) (hp : atP line side x = true) (hn : ∀ (j : Nat) y, j < k → l[j]? = some y → atP line side y = false) : atIdx l line side = some k := by
  have hk : k < l.length := (List.getElem?_eq_some_iff.1 hx).1
  refine List.findIdx?_eq_some_iff_getElem.2 ⟨hk, by rw [(List.getElem?_eq_some_iff.1 hx).2]; exact hp, fun j hj => ?_⟩
  rw [hn j _ hj (List.getElem?_eq_getElem (by omega))]
  simp
theorem atIdx_none {l : List Cut} {line side : Int} (hn : ∀ (j : Nat) y, j < l.length → l[j]? = some y → atP line side y = false) : atIdx l line side = none := by
  refine List.findIdx?_eq_none_iff.2 fun x hx => ?_
  obtain ⟨i, hi, rfl⟩ := List.mem_iff_getElem.1 hx
  exact hn i _ hi (List.getElem?_eq_getElem hi)
theorem atIdx_lt {l : List Cut} {line side : Int} {k : Nat} (h : atIdx l line side = some k) : k < l.length := by
  obtain ⟨hk, _⟩ := List.findIdx?_eq_some_iff_getElem.1 h
  exact hk
def idxInt (o : Option Nat) : Int := match o with | some k => k | none => -1

/-- The measures' sum; the least number of lines that have it. -/
def msum (m : Int) (l : List Cut) (n : Nat) : Int := sumTo (fun i => meas m l i) n
def lfIdx (m : Int) (l : List Cut) (sum : Int) : Option Nat := (List.range 301).find? fun n => decide (sum ≤ msum m l n)
theorem lfIdx_some {m : Int} {l : List Cut} {sum : Int} {k : Nat} (hk : k ≤ 300) (h : sum ≤ msum m l k) (hn : ∀ i, i < k → msum m l i < sum) : lfIdx m l sum = some k := by
  refine List.find?_range_eq_some.2 ⟨by simpa using h, List.mem_range.2 (by omega), fun j hj => ?_⟩
  have := hn j hj
  simp; omega
theorem lfIdx_none {m : Int} {l : List Cut} {sum : Int} {k : Nat} (hk : 300 < k) (hn : ∀ i, i < k → msum m l i < sum) : lfIdx m l sum = none := by
  refine List.find?_range_eq_none.2 fun i hi => ?_
  have := hn i (by omega)
  simp; omega
/-- The room beside cut-ins. -/
def besideF (m : Int) (l : List Cut) (i : Nat) : Int := if meas m l i < m then meas m l i else 0
def roomB (m : Int) (l : List Cut) (n : Nat) : Int := sumTo (besideF m l) n
theorem roomB_bound {m : Int} {l : List Cut} (h : areCut m l = true) (n : Nat) : 0 ≤ roomB m l n ∧ roomB m l n ≤ 600 * n := by
  have h1 : ∀ i, 0 ≤ besideF m l i ∧ besideF m l i ≤ 600 := fun i => by
    have := meas_room h i
    unfold besideF; split <;> omega
  have a := sumTo_ge (besideF m l) 0 (fun i => (h1 i).1) n
  have b := sumTo_le (besideF m l) 600 (fun i => (h1 i).2) n
  simp at a
  exact ⟨a, b⟩
theorem roomB_succ (m : Int) (l : List Cut) (n : Nat) : roomB m l (n + 1) = roomB m l n + if meas m l n < m then meas m l n else 0 := sumTo_succ _ _
def measL (m : Int) (l : List Cut) (n : Nat) : List Int := (List.range n).map fun (i : Nat) => meas m l i
theorem measL_succ (m : Int) (l : List Cut) (n : Nat) : measL m l (n + 1) = measL m l n ++ [meas m l n] := by simp [measL, List.range_succ]
theorem measL_len (m : Int) (l : List Cut) (n : Nat) : (measL m l n).length = n := by simp [measL]
theorem measL_at {m : Int} {l : List Cut} {n k : Nat} {x : Int} (h : (measL m l n)[k]? = some x) : x = meas m l k := by
  simp only [measL, List.getElem?_map, Option.map_eq_some_iff] at h
  obtain ⟨a, ha, rfl⟩ := h
  have := (List.getElem?_eq_some_iff.1 ha).2
  simp at this
  subst this
  rfl
end Go.Proofs.Ytllgjgoimnimaaa
