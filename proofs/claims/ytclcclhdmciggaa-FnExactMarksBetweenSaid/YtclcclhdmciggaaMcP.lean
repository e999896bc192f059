/- The plain functions of clashing marks. No program in sight. -/
import Derived.Test.YtclcclhdmciggaaMkP
import Derived.Test.YtclcclhdmciggaaNestS
namespace Go.Proofs.Ytclcclhdmciggaa
open Go.RowKit
set_option linter.unusedVariables false
def stetAt (m x : Mrk) : Bool := (decide (x.kind = 4) && decide (x.line = m.line)) && decide (x.place = m.place)
def liveB (ms : List Mrk) (i : Nat) : Bool := match ms[i]? with | some m => !((ms.drop (i + 1)).any (stetAt m)) && !decide (m.kind = 4) | none => false
theorem liveB_of {ms : List Mrk} {i : Nat} {m : Mrk} (h : ms[i]? = some m) : liveB ms i = (!((ms.drop (i + 1)).any (stetAt m)) && !decide (m.kind = 4)) := by simp [liveB, h]
def clashB (m n : Mrk) : Bool := (decide (m.line = n.line) && decide (m.place = n.place)) && (decide (m.kind = 2) == decide (n.kind = 2))
def clashAt (ms : List Mrk) (i k : Nat) : Bool := match ms[i]?, ms[k]? with | some m, some n => clashB m n | _, _ => false
theorem clashAt_of {ms : List Mrk} {i k : Nat} {m n : Mrk} (h : ms[i]? = some m) (h' : ms[k]? = some n) : clashAt ms i k = clashB m n := by simp [clashAt, h, h']
def pairB (ms : List Mrk) (i k : Nat) : Bool := (liveB ms i && liveB ms k) && clashAt ms i k
def prow (i k : Nat) : List Int := [(i : Int), (k : Int)]
/-- The pairs of i with what lies behind it and before k. -/
def cfI (ms : List Mrk) (i k : Nat) : List (List Int) := ((List.range k).filter fun j => decide (i < j) && pairB ms i j).map (prow i)
def cfTo (ms : List Mrk) (i : Nat) : List (List Int) := (List.range i).flatMap fun j => cfI ms j ms.length
theorem cfI_start (ms : List Mrk) (i : Nat) : cfI ms i (i + 1) = [] := by
  rw [cfI, List.filter_eq_nil_iff.2, List.map_nil]
  intro j hj
  have := List.mem_range.1 hj
  simp; omega
theorem cfI_yes {ms : List Mrk} {i k : Nat} (h : i < k) (hp : pairB ms i k = true) : cfI ms i (k + 1) = cfI ms i k ++ [prow i k] := by
  simp [cfI, List.range_succ, List.filter_append, h, hp]
theorem cfI_no {ms : List Mrk} {i k : Nat} (hp : pairB ms i k = false) : cfI ms i (k + 1) = cfI ms i k := by
  simp [cfI, List.range_succ, List.filter_append, hp]
theorem cfI_len (ms : List Mrk) (i k : Nat) : (cfI ms i k).length ≤ k := by
  rw [cfI, List.length_map]
  refine Nat.le_trans (List.length_filter_le _ _) ?_
  simp
theorem cfTo_succ (ms : List Mrk) (i : Nat) : cfTo ms (i + 1) = cfTo ms i ++ cfI ms i ms.length := by
  simp [cfTo, List.range_succ]
theorem cfTo_len (ms : List Mrk) (i : Nat) : (cfTo ms i).length ≤ i * ms.length := by
  induction i with
  | zero => simp [cfTo]
  | succ i ih =>
    rw [cfTo_succ, List.length_append, Nat.add_mul]
    have := cfI_len ms i ms.length
    omega
theorem cfTo_two (ms : List Mrk) (i : Nat) : ∀ l ∈ cfTo ms i, l.length = 2 := by
  intro l hl
  simp only [cfTo, List.mem_flatMap, cfI, List.mem_map] at hl
  obtain ⟨_, _, _, _, rfl⟩ := hl
  rfl
def mcP (l : List ByteArray) (ms : List Mrk) : List (List Int) × Bool := if aMk l ms then (cfTo ms ms.length, true) else ([], false)
theorem mcP_bad {l : List ByteArray} {ms : List Mrk} (h : aMk l ms = false) : mcP l ms = ([], false) := by simp [mcP, h]
theorem mcP_good {l : List ByteArray} {ms : List Mrk} (h : aMk l ms = true) : mcP l ms = (cfTo ms ms.length, true) := by simp [mcP, h]
theorem aMk_len {l : List ByteArray} {ms : List Mrk} (h : aMk l ms = true) : ms.length ≤ 20 := by
  simp only [aMk, Bool.and_eq_true, decide_eq_true_eq] at h
  exact h.2
theorem totL_two {ls : List (List Int)} (h : ∀ l ∈ ls, l.length = 2) (k : Nat) : totL ls k ≤ 2 * k := by
  induction k with
  | zero => simp [totL]
  | succ k ih =>
    by_cases hk : k < ls.length
    · rw [totL_succ (List.getElem?_eq_getElem hk), h _ (List.getElem_mem hk)]; omega
    · have e : totL ls (k + 1) = totL ls k := by simp only [totL]; rw [List.take_of_length_le (by omega), List.take_of_length_le (by omega)]
      omega
theorem mcP_lim (l : List ByteArray) (ms : List Mrk) : bulk (mcP l ms).1 ≤ 1048577000 := by
  cases h : aMk l ms
  · rw [mcP_bad h]; simp [bulk, totL]
  · rw [mcP_good h]
    have h1 := cfTo_len ms ms.length
    have h2 := aMk_len h
    have h3 := totL_two (cfTo_two ms ms.length) (cfTo ms ms.length).length
    have h4 : ms.length * ms.length ≤ 20 * 20 := Nat.mul_le_mul h2 h2
    show (cfTo ms ms.length).length + totL (cfTo ms ms.length) (cfTo ms ms.length).length ≤ _
    omega
/-- The live marks among the first i. -/
def lvTo (ms : List Mrk) (i : Nat) : List Nat := (List.range i).filter (liveB ms)
theorem lvTo_yes {ms : List Mrk} {i : Nat} (h : liveB ms i = true) : lvTo ms (i + 1) = lvTo ms i ++ [i] := by simp [lvTo, List.range_succ, List.filter_append, h]
theorem lvTo_no {ms : List Mrk} {i : Nat} (h : liveB ms i = false) : lvTo ms (i + 1) = lvTo ms i := by simp [lvTo, List.range_succ, List.filter_append, h]
theorem lvTo_len (ms : List Mrk) (i : Nat) : (lvTo ms i).length ≤ i := by
  refine Nat.le_trans (List.length_filter_le _ _) ?_
  simp
theorem lvTo_lt {ms : List Mrk} {i j x : Nat} (h : (lvTo ms i)[j]? = some x) : x < i ∧ liveB ms x = true := by
  have := List.mem_of_getElem? h
  simp only [lvTo, List.mem_filter, List.mem_range] at this
  exact this
theorem lvTo_rise (ms : List Mrk) (i : Nat) : (lvTo ms i).Pairwise (· < ·) := List.Pairwise.filter _ (List.pairwise_lt_range)
theorem drop_rise {l : List Nat} (h : l.Pairwise (· < ·)) {j x : Nat} (hx : l[j]? = some x) : l.drop (j + 1) = l.filter fun y => decide (x < y) := by
  induction l generalizing j with
  | nil => simp at hx
  | cons a l ih =>
    rw [List.pairwise_cons] at h
    cases j with
    | zero =>
      simp at hx
      subst hx
      rw [List.drop_succ_cons, List.drop_zero, List.filter_cons_of_neg (by simp)]
      exact (List.filter_eq_self.2 fun y hy => by simpa using h.1 y hy).symm
    | succ j =>
      have hx' : l[j]? = some x := by simpa using hx
      have := h.1 x (List.mem_of_getElem? hx')
      rw [List.drop_succ_cons, ih h.2 hx', List.filter_cons_of_neg (by simp; omega)]
/-- The reference's rows of the j-th live mark, with the first k of those behind it. -/
def spI (ms : List Mrk) (x : Nat) (ks : List Nat) : List (List Int) := (ks.filter fun k => clashAt ms x k).map (prow x)
theorem spI_yes {ms : List Mrk} {x k y : Nat} {ks : List Nat} (hy : ks[k]? = some y) (hp : clashAt ms x y = true) : spI ms x (ks.take (k + 1)) = spI ms x (ks.take k) ++ [prow x y] := by
  rw [spI, take_snoc hy]; simp [spI, hp]
theorem spI_no {ms : List Mrk} {x k y : Nat} {ks : List Nat} (hy : ks[k]? = some y) (hp : clashAt ms x y = false) : spI ms x (ks.take (k + 1)) = spI ms x (ks.take k) := by
  rw [spI, take_snoc hy]; simp [spI, hp]
def spTo (ms : List Mrk) (j : Nat) : List (List Int) := ((lvTo ms ms.length).take j).flatMap fun x => cfI ms x ms.length
theorem spTo_succ {ms : List Mrk} {j x : Nat} (h : (lvTo ms ms.length)[j]? = some x) : spTo ms (j + 1) = spTo ms j ++ spI ms x ((lvTo ms ms.length).drop (j + 1)) := by
  rw [spTo, take_snoc h]
  have e : spI ms x ((lvTo ms ms.length).drop (j + 1)) = cfI ms x ms.length := by
    rw [drop_rise (lvTo_rise _ _) h, spI, cfI, lvTo, List.filter_filter, List.filter_filter]
    congr 1
    apply List.filter_congr
    intro k _
    have hl := (lvTo_lt h).2
    simp only [pairB, hl, Bool.true_and]
    cases clashAt ms x k <;> cases decide (x < k) <;> cases liveB ms k <;> rfl
  rw [e]
  simp [spTo]
theorem spTo_all (ms : List Mrk) : spTo ms (lvTo ms ms.length).length = cfTo ms ms.length := by
  rw [spTo, List.take_of_length_le (Nat.le_refl _)]
  have key : ∀ (n : Nat), ((List.range n).filter (liveB ms)).flatMap (fun x => cfI ms x ms.length) = (List.range n).flatMap fun x => cfI ms x ms.length := by
    intro n
    induction n with
    | zero => rfl
    | succ n ih =>
      rw [List.range_succ, List.filter_append, List.flatMap_append, List.flatMap_append, ih]
      congr 1
      cases h : liveB ms n
      · have : cfI ms n ms.length = [] := by
          rw [cfI, List.filter_eq_nil_iff.2, List.map_nil]
          intro j _
          simp [pairB, h]
        simp [h, this]
      · simp [h]
  exact key _
theorem spTo_len {ms : List Mrk} (j : Nat) : (spTo ms j).length ≤ j * ms.length := by
  rw [spTo, List.length_flatMap]
  induction j with
  | zero => simp
  | succ j ih =>
    by_cases hj : j < (lvTo ms ms.length).length
    · rw [take_snoc (List.getElem?_eq_getElem hj), List.map_append, List.sum_append, Nat.add_mul]
      have := cfI_len ms ((lvTo ms ms.length)[j]) ms.length
      simp only [List.map_cons, List.map_nil, List.sum_cons, List.sum_nil]
      omega
    · have e : (lvTo ms ms.length).take (j + 1) = (lvTo ms ms.length).take j := by rw [List.take_of_length_le (by omega), List.take_of_length_le (by omega)]
      rw [e, Nat.add_mul]
      omega
def lvI (ms : List Mrk) (i : Nat) : List Int := (lvTo ms i).map fun (j : Nat) => (j : Int)
theorem lvI_yes {ms : List Mrk} {i : Nat} (h : liveB ms i = true) : lvI ms (i + 1) = lvI ms i ++ [(i : Int)] := by rw [lvI, lvTo_yes h, List.map_append]; rfl
theorem lvI_no {ms : List Mrk} {i : Nat} (h : liveB ms i = false) : lvI ms (i + 1) = lvI ms i := by rw [lvI, lvTo_no h]; rfl
theorem lvI_len (ms : List Mrk) (i : Nat) : (lvI ms i).length ≤ i := by rw [lvI, List.length_map]; exact lvTo_len ms i
theorem lvI_at {ms : List Mrk} {j : Nat} {x : Int} (h : (lvI ms ms.length)[j]? = some x) : ∃ y : Nat, x = y ∧ y < ms.length ∧ (lvTo ms ms.length)[j]? = some y := by
  simp only [lvI, List.getElem?_map, Option.map_eq_some_iff] at h
  obtain ⟨y, hy, rfl⟩ := h
  exact ⟨y, rfl, (lvTo_lt hy).1, hy⟩
end Go.Proofs.Ytclcclhdmciggaa
