/- The plain functions of paragraphs and their breaks. No program in sight. -/
import Derived.Test.YtmfoankgfiofdaaRise
namespace Go.Proofs.Ytmfoankgfiofdaa
open Go.RowKit
set_option linter.unusedVariables false
structure Rul where
  least : Int
  normal : Int
  most : Int
def Rul.val (r : Rul) : Value := .agg #[.int .i64 r.least, .int .i64 r.normal, .int .i64 r.most]
def ruleOk (r : Rul) : Bool := ((decide (1 ≤ r.least) && decide (r.least ≤ r.normal)) && decide (r.normal ≤ r.most)) && decide (r.most ≤ 54)
theorem ruleOk_iff {r : Rul} : ruleOk r = true ↔ 1 ≤ r.least ∧ r.least ≤ r.normal ∧ r.normal ≤ r.most ∧ r.most ≤ 54 := by simp [ruleOk, and_assoc]
/-- A paragraph. -/
def pw (l : List Int) : Bool := (l.all fun x => inB x 1 600) && inB l.length 1 24
theorem pw_len {l : List Int} (h : pw l = true) : 1 ≤ l.length ∧ l.length ≤ 24 := by
  simp only [pw, Bool.and_eq_true] at h
  have := inB_iff.1 h.2
  omega
theorem pw_mem {l : List Int} (h : pw l = true) : ∀ x ∈ l, 1 ≤ x ∧ x ≤ 600 := by
  simp only [pw, Bool.and_eq_true] at h
  intro x hx
  exact inB_iff.1 (List.all_eq_true.1 h.1 x hx)
def asked (l : List Int) (r : Rul) (m : Int) : Bool := (pw l && ruleOk r) && inB m 1 2000
theorem asked_parts {l : List Int} {r : Rul} {m : Int} (h : asked l r m = true) : pw l = true ∧ (1 ≤ r.least ∧ r.least ≤ r.normal ∧ r.normal ≤ r.most ∧ r.most ≤ 54) ∧ 1 ≤ m ∧ m ≤ 2000 := by
  simp only [asked, Bool.and_eq_true] at h
  exact ⟨h.1.1, ruleOk_iff.1 h.1.2, inB_iff.1 h.2⟩
/-- The lines of a paragraph: 'ends' are the breaks and the end. -/
def brk (l breaks : List Int) : Bool := rise breaks 1 ((l.length : Int) - 1)
def endsB (l breaks : List Int) : List Int := breaks ++ [(l.length : Int)]
theorem endsB_len (l breaks : List Int) : (endsB l breaks).length = breaks.length + 1 := by simp [endsB]
theorem brk_at {l breaks : List Int} (hp : pw l = true) (hb : brk l breaks = true) {k : Nat} {x : Int} (hx : (endsB l breaks)[k]? = some x) : ∃ X : Nat, x = X ∧ 1 ≤ X ∧ X ≤ l.length ∧ (k < breaks.length → X < l.length) ∧ fr (endsB l breaks) k < X := by
  have hl := pw_len hp
  have hk : k < breaks.length + 1 := by have := (List.getElem?_eq_some_iff.1 hx).1; rwa [endsB_len] at this
  have hfr : ∀ (j : Nat) y, breaks[j]? = some y → fr (endsB l breaks) (j + 1) = y.toNat := by
    intro j y hy
    rw [fr_succ, endAt_at (x := y)]
    rw [endsB, List.getElem?_append_left (List.getElem?_eq_some_iff.1 hy).1]; exact hy
  have h0 : fr (endsB l breaks) 0 = 0 := rfl
  by_cases hkb : k < breaks.length
  · have hx' : breaks[k]? = some x := by rw [endsB, List.getElem?_append_left hkb] at hx; exact hx
    have h1 := rise_at hb hx'
    refine ⟨x.toNat, by omega, by omega, by omega, fun _ => by omega, ?_⟩
    cases k with
    | zero => rw [h0]; omega
    | succ k =>
      obtain ⟨y, hy⟩ : ∃ y, breaks[k]? = some y := ⟨_, List.getElem?_eq_getElem (by omega)⟩
      have h2 := h1.2 y (by omega) (by rw [Nat.add_sub_cancel]; exact hy)
      have h3 := (rise_at hb hy).1
      rw [hfr k y hy]; omega
  · have hkl : k = breaks.length := by omega
    have hx' : x = (l.length : Int) := by
      rw [endsB, List.getElem?_append_right (by omega), hkl, Nat.sub_self] at hx; simpa using hx.symm
    refine ⟨l.length, hx', by omega, Nat.le_refl _, fun h => absurd h hkb, ?_⟩
    rw [hkl]
    cases hbl : breaks.length with
    | zero => rw [h0]; omega
    | succ k =>
      obtain ⟨y, hy⟩ : ∃ y, breaks[k]? = some y := ⟨_, List.getElem?_eq_getElem (by omega)⟩
      have h3 := (rise_at hb hy).1
      rw [hfr k y hy]; omega
def lnL (l ends : List Int) (k : Nat) : List (List Int) := (List.range k).map fun p => cutL l (fr ends p) (endAt ends p)
theorem lnL_len (l ends : List Int) (k : Nat) : (lnL l ends k).length = k := by simp [lnL]
theorem lnL_succ (l ends : List Int) (k : Nat) : lnL l ends (k + 1) = lnL l ends k ++ [cutL l (fr ends k) (endAt ends k)] := by simp [lnL, List.range_succ]
theorem brk_len {l breaks : List Int} (hp : pw l = true) (hb : brk l breaks = true) : breaks.length ≤ 24 := by
  have hl := pw_len hp
  by_cases h0 : 0 < breaks.length
  · obtain ⟨x, hx⟩ : ∃ x, breaks[0]? = some x := ⟨_, List.getElem?_eq_getElem h0⟩
    obtain ⟨y, hy⟩ : ∃ y, breaks[breaks.length - 1]? = some y := ⟨_, List.getElem?_eq_getElem (by omega)⟩
    have h1 := (rise_at hb hx).1
    have h2 := (rise_at hb hy).1
    have := rise_lt hb (breaks.length - 1) 0 x y hx (by rw [Nat.zero_add]; exact hy)
    omega
  · omega
def lbP (l breaks : List Int) : List (List Int) × Bool := if pw l && brk l breaks then (lnL l (endsB l breaks) (breaks.length + 1), true) else ([], false)
theorem lbP_bad {l breaks : List Int} (h : (pw l && brk l breaks) = false) : lbP l breaks = ([], false) := by simp only [lbP, h]; rfl
theorem lbP_good {l breaks : List Int} (h : pw l = true) (h2 : brk l breaks = true) : lbP l breaks = (lnL l (endsB l breaks) (breaks.length + 1), true) := by simp [lbP, h, h2]
/-- The sum of widths, as Go adds them. -/
def sumW (l : List Int) : Int := l.foldl (fun n x => wrap64 (n + x)) 0
theorem sumW_snoc {l : List Int} {k : Nat} {x : Int} (h : l[k]? = some x) : sumW (l.take (k + 1)) = wrap64 (sumW (l.take k) + x) := by rw [take_snoc h]; simp [sumW]
theorem sumW_bound {l : List Int} (hl : l.length ≤ 1000) (h : ∀ x ∈ l, 1 ≤ x ∧ x ≤ 600) : (l.length : Int) ≤ sumW l ∧ sumW l ≤ 600 * l.length := by
  have key : ∀ (l : List Int) (a : Int), 0 ≤ a → a + 600 * l.length ≤ 1000000 → (∀ x ∈ l, 1 ≤ x ∧ x ≤ 600) → a + l.length ≤ l.foldl (fun n x => wrap64 (n + x)) a ∧ l.foldl (fun n x => wrap64 (n + x)) a ≤ a + 600 * l.length := by
    intro l
    induction l with
    | nil => intro a _ _ _; simp
    | cons x l ih =>
      intro a h0 h1 h2
      have hx := h2 x List.mem_cons_self
      simp only [List.length_cons, Int.natCast_add] at h1 ⊢
      rw [List.foldl_cons, w64 (by omega) (by omega)]
      have := ih (a + x) (by omega) (by omega) (fun y hy => h2 y (List.mem_cons_of_mem _ hy))
      omega
  have := key l 0 (by omega) (by omega) h
  unfold sumW
  omega
/-- The spaces of a line that can be justified: the first r of n are one greater. -/
def leadAt (left gaps : Int) (i : Nat) : Int := if (i : Int) < left % gaps then left / gaps + 1 else left / gaps
def leadL (left gaps : Int) (n : Nat) : List Int := (List.range n).map (leadAt left gaps)
theorem leadL_len (left gaps : Int) (n : Nat) : (leadL left gaps n).length = n := by simp [leadL]
theorem leadL_succ (left gaps : Int) (n : Nat) : leadL left gaps (n + 1) = leadL left gaps n ++ [leadAt left gaps n] := by simp [leadL, List.range_succ]
def fits (l : List Int) (r : Rul) (m : Int) : Bool := inB (m - sumW l) (((l.length : Int) - 1) * r.least) (((l.length : Int) - 1) * r.most)
def spc (l : List Int) (m : Int) : List Int := leadL (m - sumW l) ((l.length : Int) - 1) (l.length - 1)
def costs (s : List Int) (r : Rul) : Int := s.foldl (fun n x => wrap64 (n + wrap64 (wrap64 (x - r.normal) * wrap64 (x - r.normal)))) 0
theorem costs_snoc {s : List Int} {k : Nat} {x : Int} (r : Rul) (h : s[k]? = some x) : costs (s.take (k + 1)) r = wrap64 (costs (s.take k) r + wrap64 (wrap64 (x - r.normal) * wrap64 (x - r.normal))) := by rw [take_snoc h]; simp [costs]
def lineOk (l : List Int) (r : Rul) (m : Int) : Bool := decide (l.length ≤ 20) && fits l r m
def canEnd (l : List Int) (r : Rul) (m : Int) : Bool := decide (l.length ≤ 20) && decide (sumW l + ((l.length : Int) - 1) * r.normal ≤ m)
end Go.Proofs.Ytmfoankgfiofdaa
