/- Plain laws of rows that are joined. No walk in sight. -/
import Derived.Test.YtnhddepmhelgiaaPaP
import Derived.Test.YtnhddepmhelgiaaPaD
import Derived.Test.YtnhddepmhelgiaaNestS
namespace Go.Proofs.Ytnhddepmhelgiaa
open Go.RowKit
set_option linter.unusedVariables false
theorem w64 {n : Int} (h : -9223372036854775808 ≤ n) (h' : n ≤ 9223372036854775807) : wrap64 n = n := IntWalk.wrap64_in n ⟨h, h'⟩
theorem sumW_from (l : List Int) : ∀ a : Int, 0 ≤ a → a + 1000000 * l.length ≤ 4611686018427387904 → (∀ x ∈ l, 0 ≤ x ∧ x ≤ 1000000) → l.foldl (fun n x => wrap64 (n + x)) a = a + l.sum := by
  induction l with
  | nil => intro a _ _ _; simp
  | cons x l ih =>
    intro a h0 h1 h2
    have hx := h2 x List.mem_cons_self
    rw [List.length_cons] at h1
    rw [List.foldl_cons, w64 (by omega) (by omega), ih _ (by omega) (by omega) (fun y hy => h2 y (List.mem_cons_of_mem _ hy)), List.sum_cons]
    omega
theorem sumW_eq {l : List Int} (hl : l.length ≤ 1000000) (h : ∀ x ∈ l, 0 ≤ x ∧ x ≤ 1000000) : sumW l = l.sum := by
  rw [sumW, sumW_from l 0 (by omega) (by omega) h]; omega
theorem sum_bound (l : List Int) (B : Int) (h : ∀ x ∈ l, 0 ≤ x ∧ x ≤ B) : 0 ≤ l.sum ∧ l.sum ≤ B * l.length := by
  induction l with
  | nil => simp
  | cons x l ih =>
    have hx := h x List.mem_cons_self
    have := ih fun y hy => h y (List.mem_cons_of_mem _ hy)
    rw [List.sum_cons, List.length_cons, Int.natCast_add, Int.mul_add]
    omega
def joinR (a b : List Int) : List Int := List.zipWith (· + ·) a b
theorem joinR_len {a b : List Int} (h : a.length = b.length) : (joinR a b).length = a.length := by simp [joinR, h]
theorem joinR_take {a b : List Int} {k : Nat} {x y : Int} (hx : a[k]? = some x) (hy : b[k]? = some y) : joinR (a.take (k + 1)) (b.take (k + 1)) = joinR (a.take k) (b.take k) ++ [x + y] := by
  have hk : k < a.length := (List.getElem?_eq_some_iff.1 hx).1
  have hk' : k < b.length := (List.getElem?_eq_some_iff.1 hy).1
  rw [take_snoc hx, take_snoc hy, joinR, List.zipWith_append (by simp; omega)]; rfl
theorem joinR_takeAll {a b : List Int} (h : a.length = b.length) : joinR (a.take a.length) (b.take a.length) = joinR a b := by
  rw [List.take_of_length_le (Nat.le_refl _), List.take_of_length_le (by omega)]
theorem joinR_bound {a b : List Int} {A B : Int} (ha : ∀ x ∈ a, 0 ≤ x ∧ x ≤ A) (hb : ∀ x ∈ b, 0 ≤ x ∧ x ≤ B) : ∀ x ∈ joinR a b, 0 ≤ x ∧ x ≤ A + B := by
  intro x hx
  obtain ⟨i, hi⟩ := List.mem_iff_getElem?.1 hx
  rw [joinR, List.getElem?_zipWith] at hi
  cases h1 : a[i]? with
  | none => rw [h1] at hi; simp at hi
  | some y =>
    cases h2 : b[i]? with
    | none => rw [h1, h2] at hi; simp at hi
    | some z =>
      rw [h1, h2] at hi
      simp at hi
      have := ha y (List.mem_of_getElem? h1)
      have := hb z (List.mem_of_getElem? h2)
      omega
def rowAt (ls : List (List Int)) (i : Nat) : List Int := ls[i]?.getD []
theorem rowAt_of {ls : List (List Int)} {i : Nat} {l : List Int} (h : ls[i]? = some l) : rowAt ls i = l := by simp [rowAt, h]
def joinL (ls : List (List Int)) (i : Nat) : List (List Int) := ls.take i ++ joinR (rowAt ls i) (rowAt ls (i + 1)) :: ls.drop (i + 2)
theorem joinL_len {ls : List (List Int)} {i : Nat} (h : i + 1 < ls.length) : (joinL ls i).length = ls.length - 1 := by simp [joinL]; omega
theorem split2 {ls : List (List Int)} {i : Nat} (h : i + 1 < ls.length) : ls = ls.take i ++ rowAt ls i :: rowAt ls (i + 1) :: ls.drop (i + 2) := by
  have e1 : ls[i]? = some ls[i] := List.getElem?_eq_getElem (by omega)
  have e2 : ls[i + 1]? = some ls[i + 1] := List.getElem?_eq_getElem h
  rw [rowAt_of e1, rowAt_of e2]
  have := List.take_append_drop i ls
  rw [List.drop_eq_getElem_cons (by omega), List.drop_eq_getElem_cons h] at this
  exact this.symm
def savF (ls : List (List Int)) (i : Nat) : Int := grt (rowAt ls i) + grt (rowAt ls (i + 1)) - grt (joinR (rowAt ls i) (rowAt ls (i + 1)))
theorem tot_join {ls : List (List Int)} {i : Nat} (h : i + 1 < ls.length) : (ls.map grt).sum - ((joinL ls i).map grt).sum = savF ls i := by
  rw [joinL, savF, List.map_append, List.map_cons, List.sum_append, List.sum_cons]
  have e := congrArg (fun l => (List.map grt l).sum) (split2 h)
  simp only [List.map_append, List.map_cons, List.sum_append, List.sum_cons] at e
  rw [e]
  omega
/-- All numbers lie within 0 .. B. -/
def Fit (B : Int) (ls : List (List Int)) : Prop := ∀ l ∈ ls, ∀ x ∈ l, 0 ≤ x ∧ x ≤ B
theorem par_fit {ls : List (List Int)} (h : par ls = true) : Fit 200 ls := fun l hl => (par_mem h hl).2.2
theorem rowAt_fit {B : Int} {ls : List (List Int)} (h : Fit B ls) (i : Nat) : ∀ x ∈ rowAt ls i, 0 ≤ x ∧ x ≤ B := by
  intro x hx
  cases hl : ls[i]? with
  | none => simp [rowAt, hl] at hx
  | some l => rw [rowAt_of hl] at hx; exact h l (List.mem_of_getElem? hl) x hx
theorem joinL_fit {B : Int} {ls : List (List Int)} (hB : 0 ≤ B) (h : Fit B ls) (i : Nat) : Fit (B + B) (joinL ls i) := by
  intro l hl x hx
  rw [joinL, List.mem_append, List.mem_cons] at hl
  rcases hl with hl | rfl | hl
  · have := h l (List.mem_of_mem_take hl) x hx; omega
  · exact joinR_bound (rowAt_fit h i) (rowAt_fit h (i + 1)) x hx
  · have := h l (List.mem_of_mem_drop hl) x hx; omega
theorem grts_fit {B : Int} {ls : List (List Int)} (hB : 0 ≤ B) (h : Fit B ls) : ∀ x ∈ ls.map grt, 0 ≤ x ∧ x ≤ B := by
  intro x hx
  obtain ⟨l, hl, rfl⟩ := List.mem_map.1 hx
  exact grt_bound hB (h l hl)
theorem savF_eq {ls : List (List Int)} {i : Nat} {B : Int} (hB : 0 ≤ B) (hB2 : B ≤ 100000) (hf : Fit B ls) (hn : ls.length ≤ 1000) (h : i + 1 < ls.length) : wrap64 (sumW (ls.map grt) - sumW ((joinL ls i).map grt)) = savF ls i := by
  have f2 := joinL_fit hB hf i
  have g1 := grts_fit hB hf
  have g2 := grts_fit (by omega) f2
  have hl := joinL_len h
  rw [sumW_eq (by simp; omega) (fun x hx => by have := g1 x hx; omega), sumW_eq (by simp; omega) (fun x hx => by have := g2 x hx; omega), tot_join h]
  have b1 := grt_bound hB (rowAt_fit hf i)
  have b2 := grt_bound hB (rowAt_fit hf (i + 1))
  have b3 := grt_bound (by omega) (joinR_bound (rowAt_fit hf i) (rowAt_fit hf (i + 1)))
  exact w64 (by unfold savF; omega) (by unfold savF; omega)
theorem savF_bound {ls : List (List Int)} {i : Nat} (hf : Fit 200 ls) : (0 ≤ grt (rowAt ls i) ∧ grt (rowAt ls i) ≤ 200) ∧ (0 ≤ grt (rowAt ls (i + 1)) ∧ grt (rowAt ls (i + 1)) ≤ 200) ∧ 0 ≤ grt (joinR (rowAt ls i) (rowAt ls (i + 1))) ∧ grt (joinR (rowAt ls i) (rowAt ls (i + 1))) ≤ 400 :=
  ⟨grt_bound (by omega) (rowAt_fit hf i), grt_bound (by omega) (rowAt_fit hf (i + 1)), grt_bound (by omega) (joinR_bound (rowAt_fit hf i) (rowAt_fit hf (i + 1)))⟩
def isM (ls : List (List Int)) (i : Int) : Bool := par ls && inB i 0 ((ls.length : Int) - 2)
theorem isM_parts {ls : List (List Int)} {i : Int} (h : isM ls i = true) : par ls = true ∧ ∃ n : Nat, i = n ∧ n + 1 < ls.length := by
  simp only [isM, Bool.and_eq_true] at h
  have := inB_iff.1 h.2
  exact ⟨h.1, i.toNat, by omega, by omega⟩
def sbV (ls : List (List Int)) (i : Int) : Value := if isM ls i then .tuple #[.int .i64 (savF ls i.toNat), .bool true] else .tuple #[.int .i64 0, .bool false]
theorem sbV_bad {ls : List (List Int)} {i : Int} (h : isM ls i = false) : sbV ls i = .tuple #[.int .i64 0, .bool false] := by simp only [sbV, h]; rfl
theorem sbV_good {ls : List (List Int)} {i : Nat} (h : isM ls i = true) : sbV ls i = .tuple #[.int .i64 (savF ls i), .bool true] := by simp only [sbV, h]; rfl
theorem sbV_form (ls : List (List Int)) (i : Int) : ∃ x z, sbV ls i = .tuple #[.int .i64 x, .bool z] := by unfold sbV; split <;> exact ⟨_, _, rfl⟩
/-- The first place among the first k where f is greatest. -/
def bjTo (f : Nat → Int) : Nat → Nat
  | 0 => 0
  | k + 1 => if f (bjTo f k) < f k then k else bjTo f k
theorem bjTo_lt (f : Nat → Int) (k : Nat) : bjTo f k < k ∨ bjTo f k = 0 := by
  induction k with
  | zero => exact .inr rfl
  | succ k ih => rw [bjTo]; split <;> omega
def bjV (ls : List (List Int)) : Value := if isM ls 0 then .tuple #[.int .i64 (bjTo (savF ls) (ls.length - 1)), .int .i64 (savF ls (bjTo (savF ls) (ls.length - 1))), .bool true] else .tuple #[.int .i64 0, .int .i64 0, .bool false]
theorem bjV_bad {ls : List (List Int)} (h : isM ls 0 = false) : bjV ls = .tuple #[.int .i64 0, .int .i64 0, .bool false] := by simp only [bjV, h]; rfl
theorem bjV_good {ls : List (List Int)} (h : isM ls 0 = true) : bjV ls = .tuple #[.int .i64 (bjTo (savF ls) (ls.length - 1)), .int .i64 (savF ls (bjTo (savF ls) (ls.length - 1))), .bool true] := by simp only [bjV, h]; rfl
theorem bjV_form (ls : List (List Int)) : ∃ x y z, bjV ls = .tuple #[.int .i64 x, .int .i64 y, .bool z] := by unfold bjV; split <;> exact ⟨_, _, _, rfl⟩
/-- The joined rows, one by one. -/
def jTo (ls : List (List Int)) (i : Nat) : Nat → List (List Int)
  | 0 => []
  | k + 1 => if k = i then jTo ls i k ++ [joinR (rowAt ls i) (rowAt ls (i + 1))] else if k = i + 1 then jTo ls i k else jTo ls i k ++ [rowAt ls k]
theorem jTo_low (ls : List (List Int)) (i : Nat) : ∀ k, k ≤ i → k ≤ ls.length → jTo ls i k = ls.take k := by
  intro k
  induction k with
  | zero => intro _ _; simp [jTo]
  | succ k ih =>
    intro h1 h2
    have e : ls[k]? = some ls[k] := List.getElem?_eq_getElem (by omega)
    rw [jTo, if_neg (by omega), if_neg (by omega), ih (by omega) (by omega), rowAt_of e, ← take_snoc e]
theorem jTo_high (ls : List (List Int)) (i : Nat) (hi : i + 1 < ls.length) : ∀ n, i + 2 + n ≤ ls.length → jTo ls i (i + 2 + n) = ls.take i ++ joinR (rowAt ls i) (rowAt ls (i + 1)) :: (ls.drop (i + 2)).take n := by
  intro n
  induction n with
  | zero =>
    intro _
    rw [Nat.add_zero, jTo, if_neg (by omega), if_pos rfl, jTo, if_pos rfl, jTo_low ls i i (Nat.le_refl _) (by omega)]
    simp
  | succ n ih =>
    intro h
    have e : ls[i + 2 + n]? = some ls[i + 2 + n] := List.getElem?_eq_getElem (by omega)
    have e2 : (ls.drop (i + 2))[n]? = some ls[i + 2 + n] := by rw [List.getElem?_drop]; exact e
    rw [show i + 2 + (n + 1) = (i + 2 + n) + 1 by omega, jTo, if_neg (by omega), if_neg (by omega), ih (by omega), rowAt_of e, take_snoc e2]
    simp
theorem jTo_all {ls : List (List Int)} {i : Nat} (hi : i + 1 < ls.length) : jTo ls i ls.length = joinL ls i := by
  obtain ⟨n, hn⟩ : ∃ n, ls.length = i + 2 + n := ⟨ls.length - (i + 2), by omega⟩
  have := jTo_high ls i hi n (by omega)
  rw [← hn] at this
  rw [this, joinL, List.take_of_length_le (l := ls.drop (i + 2)) (by simp; omega)]
def jrP (ls : List (List Int)) (i : Int) : List (List Int) × Bool := if isM ls i && par (joinL ls i.toNat) then (joinL ls i.toNat, true) else ([], false)
theorem jrP_bad {ls : List (List Int)} {i : Int} (h : (isM ls i && par (joinL ls i.toNat)) = false) : jrP ls i = ([], false) := by simp only [jrP, h]; rfl
theorem jrP_good {ls : List (List Int)} {i : Nat} (h : isM ls i = true) (h2 : par (joinL ls i) = true) : jrP ls i = (joinL ls i, true) := by simp [jrP, h, h2]
theorem par_bulk {ls : List (List Int)} (h : par ls = true) : bulk ls ≤ 1048577000 := by
  have h1 := par_len h
  have : ∀ k, k ≤ ls.length → totL ls k ≤ 6 * k := by
    intro k
    induction k with
    | zero => intro _; simp [totL]
    | succ k ih =>
      intro hk
      have e : ls[k]? = some ls[k] := List.getElem?_eq_getElem (by omega)
      rw [totL_succ e]
      have := ih (by omega)
      have := (par_row h e).2.1
      omega
  have := this ls.length (Nat.le_refl _)
  unfold bulk
  omega
theorem jrP_lim (ls : List (List Int)) (i : Int) : bulk (jrP ls i).1 ≤ 1048577000 := by
  cases h : (isM ls i && par (joinL ls i.toNat))
  · rw [jrP_bad h]; simp [bulk, totL]
  · simp only [jrP, h, if_true]
    rw [Bool.and_eq_true] at h
    exact par_bulk h.2
/-- A row with two columns exchanged. -/
def swapR (l : List Int) (i k : Nat) : List Int := (l.set i (l[k]?.getD 0)).set k (l[i]?.getD 0)
theorem swapR_len (l : List Int) (i k : Nat) : (swapR l i k).length = l.length := by simp [swapR]
def scOk (ls : List (List Int)) (i k : Int) : Bool := ((par ls && decide (0 < ls.length)) && inB i 0 ((hdLen ls : Int) - 1)) && inB k 0 ((hdLen ls : Int) - 1)
def scP (ls : List (List Int)) (i k : Int) : List (List Int) × Bool := if scOk ls i k then (ls.map fun l => swapR l i.toNat k.toNat, true) else ([], false)
theorem scP_bad {ls : List (List Int)} {i k : Int} (h : scOk ls i k = false) : scP ls i k = ([], false) := by simp only [scP, h]; rfl
theorem scP_good {ls : List (List Int)} {i k : Int} (h : scOk ls i k = true) : scP ls i k = (ls.map fun l => swapR l i.toNat k.toNat, true) := by simp only [scP, h]; rfl
theorem totL_map {ls ms : List (List Int)} (h : ms.map List.length = ls.map List.length) (k : Nat) : totL ms k = totL ls k := by
  rw [totL, totL, List.map_take, List.map_take, h]
theorem bulk_map {ls ms : List (List Int)} (h : ms.map List.length = ls.map List.length) : bulk ms = bulk ls := by
  have hl : ms.length = ls.length := by have := congrArg List.length h; simpa using this
  rw [bulk, bulk, totL_map h, hl]
theorem scP_lim (ls : List (List Int)) (i k : Int) : bulk (scP ls i k).1 ≤ 1048577000 := by
  cases h : scOk ls i k
  · rw [scP_bad h]; simp [bulk, totL]
  · rw [scP_good h]
    simp only [scOk, Bool.and_eq_true] at h
    rw [bulk_map (ls := ls) (by rw [List.map_map]; apply List.map_congr_left; intro l _; exact swapR_len l _ _)]
    exact par_bulk h.1.1.1
end Go.Proofs.Ytnhddepmhelgiaa
