/- The best breaks of a paragraph and how many there are, plainly. No program in sight. -/
import Derived.Test.YtnhddepmhelgiaaMem
namespace Go.Proofs.Ytnhddepmhelgiaa
open Go.RowKit
set_option linter.unusedVariables false
/-- A paragraph, by what its lines cost: which lines are possible, their costs, and where the last line may begin. -/
structure Pa where
  n : Nat
  ok : Nat → Nat → Bool
  co : Nat → Nat → Int
  fin : Nat → Bool
abbrev OW := Option (Int × List Int)
/-- The least cost, -1 if there is none. -/
def tv (o : OW) : Int := match o with | none => -1 | some x => x.1
def updO (P : Pa) (i j : Nat) (o : OW) (x : Int × List Int) : OW := match o with
  | none => some (P.co i j + x.1, (j : Int) :: x.2)
  | some y => if P.co i j + x.1 < y.1 ∨ (P.co i j + x.1 = y.1 ∧ y.2 ≠ []) then some (P.co i j + x.1, (j : Int) :: x.2) else some y
def updW (P : Pa) (i j : Nat) (o x : OW × Int) : OW × Int := if P.ok i j then (match x.1 with | none => o | some y => (updO P i j o.1 y, wrap64 (o.2 + x.2))) else o
/-- The last t places to break behind i are done. -/
def dn (P : Pa) (nx : Nat → OW × Int) (base : OW × Int) (i : Nat) : Nat → OW × Int
  | 0 => base
  | t + 1 => updW P i (P.n - 1 - t) (dn P nx base i t) (nx (P.n - 1 - t))
def bw0 (b : Bool) : OW × Int := if b then (some (0, []), 1) else (none, 0)
/-- The best breaks of the words from i on into k lines; into any number of lines, k at the most. -/
def bw (P : Pa) (any : Bool) : Nat → Nat → OW × Int
  | 0, _ => (none, 0)
  | k + 1, i => dn P (bw P any k) (bw0 (P.fin i && (any || decide (k = 0)))) i (P.n - 1 - i)
theorem updW_no {P : Pa} {i j : Nat} {o x : OW × Int} (h : P.ok i j = false) : updW P i j o x = o := by simp [updW, h]
theorem updW_none {P : Pa} {i j : Nat} {o x : OW × Int} (h : x.1 = none) : updW P i j o x = o := by
  unfold updW; rw [h]; split <;> rfl
theorem updW_some {P : Pa} {i j : Nat} {o x : OW × Int} {y : Int × List Int} (h : P.ok i j = true) (hx : x.1 = some y) : updW P i j o x = (updO P i j o.1 y, wrap64 (o.2 + x.2)) := by
  unfold updW; rw [hx, h]; rfl
theorem updO_none {P : Pa} {i j : Nat} {x : Int × List Int} : updO P i j none x = some (P.co i j + x.1, (j : Int) :: x.2) := rfl
theorem updO_new {P : Pa} {i j : Nat} {x y : Int × List Int} (h : P.co i j + x.1 < y.1 ∨ (P.co i j + x.1 = y.1 ∧ y.2 ≠ [])) : updO P i j (some y) x = some (P.co i j + x.1, (j : Int) :: x.2) := by simp only [updO, if_pos h]
theorem updO_old {P : Pa} {i j : Nat} {x y : Int × List Int} (h : ¬ (P.co i j + x.1 < y.1 ∨ (P.co i j + x.1 = y.1 ∧ y.2 ≠ []))) : updO P i j (some y) x = some y := by simp only [updO, if_neg h]
theorem dn_congr {P : Pa} {nx nx' : Nat → OW × Int} {base : OW × Int} {i : Nat} : ∀ t, t ≤ P.n - 1 - i → (∀ j, i < j → j < P.n → nx j = nx' j) → dn P nx base i t = dn P nx' base i t
  | 0, _, _ => rfl
  | t + 1, ht, h => by
    unfold dn
    rw [dn_congr t (by omega) h, h _ (by omega) (by omega)]
theorem bw_more {P : Pa} : ∀ (k i : Nat), P.n - i ≤ k → i < P.n → bw P true (k + 1) i = bw P true k i := by
  intro k
  induction k with
  | zero => intro i h hi; omega
  | succ k ih =>
    intro i h hi
    show dn P (bw P true (k + 1)) _ i _ = dn P (bw P true k) _ i _
    simp only [Bool.true_or]
    exact dn_congr _ (Nat.le_refl _) (fun j h1 h2 => ih j (by omega) h2)
theorem bw_same {P : Pa} {k i : Nat} (h : P.n - i ≤ k) (hi : i < P.n) : ∀ d, bw P true (k + d) i = bw P true k i
  | 0 => rfl
  | d + 1 => by rw [← Nat.add_assoc, bw_more _ _ (by omega) hi, bw_same h hi d]
/-- Any number of lines. -/
def bA (P : Pa) (i : Nat) : OW × Int := bw P true P.n i
theorem bA_eq {P : Pa} {i : Nat} (hi : i < P.n) : bA P i = dn P (bA P) (bw0 (P.fin i)) i (P.n - 1 - i) := by
  obtain ⟨k, hk⟩ : ∃ k, P.n = k + 1 := ⟨P.n - 1, by omega⟩
  unfold bA
  rw [hk]
  show dn P (bw P true k) _ i _ = _
  simp only [Bool.true_or, Bool.and_true]
  rw [hk]
  refine dn_congr _ (by omega) (fun j h1 h2 => ?_)
  rw [bw_more _ _ (by omega) h2]
theorem bw_eq {P : Pa} {k i : Nat} : bw P false (k + 1) i = dn P (bw P false k) (bw0 (P.fin i && decide (k = 0))) i (P.n - 1 - i) := by
  show dn P (bw P false k) _ i _ = _
  rw [Bool.false_or]
theorem bw_zero {P : Pa} {any : Bool} {i : Nat} : bw P any 0 i = (none, 0) := rfl
theorem dn_nothing {P : Pa} {nx : Nat → OW × Int} {base : OW × Int} {i : Nat} (h : ∀ j, (nx j).1 = none) : ∀ t, dn P nx base i t = base
  | 0 => rfl
  | t + 1 => by unfold dn; rw [updW_none (h _), dn_nothing h t]
theorem bw_one {P : Pa} {i : Nat} : bw P false 1 i = bw0 (P.fin i) := by
  rw [bw_eq, dn_nothing (fun j => by rw [bw_zero])]; simp
/-- Breaking at j first costs c. -/
def Cand (P : Pa) (nx : Nat → OW × Int) (i j : Nat) (c : Int) : Prop := P.ok i j = true ∧ ∃ y, (nx j).1 = some y ∧ c = P.co i j + y.1
/-- Costs are no less than nothing. -/
def NN (P : Pa) (nx : Nat → OW × Int) : Prop := (∀ i j, 0 ≤ P.co i j) ∧ ∀ j y, (nx j).1 = some y → 0 ≤ y.1
theorem Cand.nn {P : Pa} {nx : Nat → OW × Int} {i j : Nat} {c : Int} (h : NN P nx) (hc : Cand P nx i j c) : 0 ≤ c := by
  obtain ⟨_, y, hy, rfl⟩ := hc
  have := h.1 i j; have := h.2 j y hy; omega
/-- The least of the costs, at the first place that bears it. -/
structure Lst (P : Pa) (nx : Nat → OW × Int) (i lo j : Nat) (y z : Int × List Int) : Prop where
  ge : lo ≤ j
  lt : j < P.n
  ok : P.ok i j = true
  hz : (nx j).1 = some z
  is : y = (P.co i j + z.1, (j : Int) :: z.2)
  least : ∀ j' c, lo ≤ j' → j' < P.n → Cand P nx i j' c → y.1 ≤ c
  first : ∀ j' c, lo ≤ j' → j' < j → Cand P nx i j' c → y.1 < c
theorem dn_none {P : Pa} {nx : Nat → OW × Int} {i : Nat} {v : Int} : ∀ t, t < P.n → ((dn P nx (none, v) i t).1 = none ∧ ∀ j c, P.n - t ≤ j → j < P.n → ¬ Cand P nx i j c) ∨ ∃ j y z, (dn P nx (none, v) i t).1 = some y ∧ Lst P nx i (P.n - t) j y z
  | 0, _ => .inl ⟨rfl, fun j c h1 h2 => by omega⟩
  | t + 1, ht => by
    have ih := dn_none (P := P) (nx := nx) (i := i) (v := v) t (by omega)
    unfold dn
    obtain ⟨J, hJ⟩ : ∃ J, J = P.n - 1 - t := ⟨_, rfl⟩
    rw [← hJ]
    have e1 : P.n - (t + 1) = J := by omega
    have e2 : P.n - t = J + 1 := by omega
    rw [e1]; rw [e2] at ih
    have split : ∀ {j : Nat}, J ≤ j → j = J ∨ J + 1 ≤ j := fun h => by omega
    cases hok : P.ok i J with
    | false =>
      rw [updW_no hok]
      have hno : ∀ c, ¬ Cand P nx i J c := fun c h => by rw [h.1] at hok; cases hok
      rcases ih with ⟨h1, h2⟩ | ⟨j, y, z, h1, h2⟩
      · refine .inl ⟨h1, fun j c hj hj2 hc => ?_⟩
        rcases split hj with rfl | h
        · exact hno c hc
        · exact h2 j c h hj2 hc
      · refine .inr ⟨j, y, z, h1, by have := h2.ge; omega, h2.lt, h2.ok, h2.hz, h2.is, fun j' c hj hj2 hc => ?_, fun j' c hj hj2 hc => ?_⟩
        · rcases split hj with rfl | h
          · exact absurd hc (hno c)
          · exact h2.least j' c h hj2 hc
        · rcases split hj with rfl | h
          · exact absurd hc (hno c)
          · exact h2.first j' c h hj2 hc
    | true =>
      cases hx : (nx J).1 with
      | none =>
        rw [updW_none hx]
        have hno : ∀ c, ¬ Cand P nx i J c := fun c h => by obtain ⟨_, y, hy, _⟩ := h; rw [hx] at hy; cases hy
        rcases ih with ⟨h1, h2⟩ | ⟨j, y, z, h1, h2⟩
        · refine .inl ⟨h1, fun j c hj hj2 hc => ?_⟩
          rcases split hj with rfl | h
          · exact hno c hc
          · exact h2 j c h hj2 hc
        · refine .inr ⟨j, y, z, h1, by have := h2.ge; omega, h2.lt, h2.ok, h2.hz, h2.is, fun j' c hj hj2 hc => ?_, fun j' c hj hj2 hc => ?_⟩
          · rcases split hj with rfl | h
            · exact absurd hc (hno c)
            · exact h2.least j' c h hj2 hc
          · rcases split hj with rfl | h
            · exact absurd hc (hno c)
            · exact h2.first j' c h hj2 hc
      | some u =>
        rw [updW_some hok hx]
        have hca : ∀ {c : Int}, Cand P nx i J c → c = P.co i J + u.1 := fun h => by obtain ⟨_, y, hy, h⟩ := h; rw [hx] at hy; injection hy with hy; rw [h, hy]
        refine .inr ?_
        rcases ih with ⟨h1, h2⟩ | ⟨j, y, z, h1, h2⟩
        · refine ⟨J, _, u, by rw [h1]; rfl, Nat.le_refl _, by omega, hok, hx, rfl, fun j' c hj hj2 hc => ?_, fun j' c hj hj2 hc => by omega⟩
          rcases split hj with rfl | h
          · rw [hca hc]; exact Int.le_refl _
          · exact absurd hc (h2 j' c h hj2)
        · have hyn : y.2 ≠ [] := by rw [h2.is]; exact List.cons_ne_nil _ _
          by_cases hlt : P.co i J + u.1 ≤ y.1
          · refine ⟨J, _, u, by rw [h1]; exact updO_new (by rcases Int.lt_or_eq_of_le hlt with h | h; exact .inl h; exact .inr ⟨h, hyn⟩), Nat.le_refl _, by omega, hok, hx, rfl, fun j' c hj hj2 hc => ?_, fun j' c hj hj2 hc => by omega⟩
            rcases split hj with rfl | h
            · rw [hca hc]; exact Int.le_refl _
            · have := h2.least j' c h hj2 hc; show P.co i J + u.1 ≤ c; omega
          · refine ⟨j, y, z, by rw [h1]; exact updO_old (by omega), by have := h2.ge; omega, h2.lt, h2.ok, h2.hz, h2.is, fun j' c hj hj2 hc => ?_, fun j' c hj hj2 hc => ?_⟩
            · rcases split hj with rfl | h
              · rw [hca hc]; omega
              · exact h2.least j' c h hj2 hc
            · rcases split hj with rfl | h
              · rw [hca hc]; omega
              · exact h2.first j' c h hj2 hc
theorem dn_some {P : Pa} {nx : Nat → OW × Int} {i : Nat} {v : Int} (hn : NN P nx) : ∀ t, (dn P nx (some (0, []), v) i t).1 = some (0, [])
  | 0 => rfl
  | t + 1 => by
    have ih := dn_some (i := i) (v := v) hn t
    unfold dn
    cases hok : P.ok i (P.n - 1 - t) with
    | false => rw [updW_no hok]; exact ih
    | true =>
      cases hx : (nx (P.n - 1 - t)).1 with
      | none => rw [updW_none hx]; exact ih
      | some u =>
        rw [updW_some hok hx, ih]
        have h1 := hn.1 i (P.n - 1 - t); have h2 := hn.2 _ _ hx
        exact updO_old (by simp; omega)
theorem nn_dn {P : Pa} {nx : Nat → OW × Int} {i t : Nat} {b : Bool} (hn : NN P nx) (ht : t < P.n) : ∀ y, (dn P nx (bw0 b) i t).1 = some y → 0 ≤ y.1 := by
  intro y hy
  cases b with
  | true =>
    have h := dn_some (i := i) (v := 1) hn t
    rw [show bw0 true = (some (0, []), 1) from rfl, h] at hy
    injection hy with hy; subst hy; exact Int.le_refl _
  | false =>
    rcases dn_none (P := P) (nx := nx) (i := i) (v := 0) t ht with ⟨h, _⟩ | ⟨j, y', z, h, hl⟩
    · rw [show bw0 false = (none, 0) from rfl, h] at hy; cases hy
    · rw [show bw0 false = (none, 0) from rfl, h] at hy
      injection hy with hy; subst hy
      rw [hl.is]
      have h1 := hn.1 i j; have h2 := hn.2 _ _ hl.hz
      show 0 ≤ P.co i j + z.1; omega
theorem nn_bw {P : Pa} (hc : ∀ i j, 0 ≤ P.co i j) (hp : 0 < P.n) (any : Bool) : ∀ k, NN P (bw P any k)
  | 0 => ⟨hc, fun j y h => by rw [bw_zero] at h; cases h⟩
  | k + 1 => ⟨hc, fun j y h => nn_dn (nn_bw hc hp any k) (by omega) y h⟩
/-- The program's way: the table of least costs. -/
def uc (P : Pa) (i j : Nat) (v x : Int) : Int := if P.ok i j && (decide (0 ≤ x) && (decide (v < 0) || decide (P.co i j + x < v))) then P.co i j + x else v
def up (P : Pa) (nx : Nat → Int) (base : Int) (i : Nat) : Nat → Int
  | 0 => base
  | t + 1 => uc P i (i + 1 + t) (up P nx base i t) (nx (i + 1 + t))
theorem uc_no {P : Pa} {i j : Nat} {v x : Int} (h : P.ok i j = false) : uc P i j v x = v := by simp [uc, h]
theorem uc_none {P : Pa} {i j : Nat} {v x : Int} (h : ¬ 0 ≤ x) : uc P i j v x = v := by simp [uc, h]
theorem uc_new {P : Pa} {i j : Nat} {v x : Int} (h : P.ok i j = true) (h0 : 0 ≤ x) (h1 : v < 0 ∨ P.co i j + x < v) : uc P i j v x = P.co i j + x := by
  unfold uc; rw [if_pos]; simp [h, h0, h1]
theorem uc_old {P : Pa} {i j : Nat} {v x : Int} (h1 : ¬ v < 0) (h2 : ¬ P.co i j + x < v) : uc P i j v x = v := by
  unfold uc; rw [if_neg]; simp [h1, h2]
theorem up_spec {P : Pa} {nx : Nat → OW × Int} {g : Nat → Int} {i : Nat} (hn : NN P nx) (hi : i < P.n) (hg : ∀ j, i < j → j < P.n → g j = tv (nx j).1) : ∀ t, t ≤ P.n - 1 - i →
    (up P g (-1) i t = -1 ∧ ∀ j c, i < j → j ≤ i + t → ¬ Cand P nx i j c) ∨ (0 ≤ up P g (-1) i t ∧ (∃ j, i < j ∧ j ≤ i + t ∧ Cand P nx i j (up P g (-1) i t)) ∧ ∀ j c, i < j → j ≤ i + t → Cand P nx i j c → up P g (-1) i t ≤ c)
  | 0, _ => .inl ⟨rfl, fun j c h1 h2 => by omega⟩
  | t + 1, ht => by
    have ih := up_spec hn hi hg t (by omega)
    unfold up
    obtain ⟨J, hJ⟩ : ∃ J, J = i + 1 + t := ⟨_, rfl⟩
    rw [← hJ, hg J (by omega) (by omega)]
    have e1 : i + (t + 1) = J := by omega
    have split : ∀ {j : Nat}, j ≤ i + (t + 1) → j = J ∨ j ≤ i + t := fun h => by omega
    have keep : (∀ c, ¬ Cand P nx i J c) → uc P i J (up P g (-1) i t) (tv (nx J).1) = up P g (-1) i t →
        (uc P i J (up P g (-1) i t) (tv (nx J).1) = -1 ∧ ∀ j c, i < j → j ≤ i + (t + 1) → ¬ Cand P nx i j c) ∨ (0 ≤ uc P i J (up P g (-1) i t) (tv (nx J).1) ∧ (∃ j, i < j ∧ j ≤ i + (t + 1) ∧ Cand P nx i j (uc P i J (up P g (-1) i t) (tv (nx J).1))) ∧ ∀ j c, i < j → j ≤ i + (t + 1) → Cand P nx i j c → uc P i J (up P g (-1) i t) (tv (nx J).1) ≤ c) := by
      intro hno he
      rw [he]
      rcases ih with ⟨h1, h2⟩ | ⟨h1, ⟨j, a, b, h2⟩, h3⟩
      · refine .inl ⟨h1, fun j c hj hj2 hc => ?_⟩
        rcases split hj2 with rfl | h
        · exact hno c hc
        · exact h2 j c hj h hc
      · refine .inr ⟨h1, ⟨j, a, by omega, h2⟩, fun j' c hj hj2 hc => ?_⟩
        rcases split hj2 with rfl | h
        · exact absurd hc (hno c)
        · exact h3 j' c hj h hc
    cases hok : P.ok i J with
    | false => exact keep (fun c h => by rw [h.1] at hok; cases hok) (uc_no hok)
    | true =>
      cases hx : (nx J).1 with
      | none =>
        have := keep (fun c h => by obtain ⟨_, y, hy, _⟩ := h; rw [hx] at hy; cases hy) (uc_none (by rw [hx]; decide))
        rw [hx] at this; exact this
      | some u =>
        have hu : 0 ≤ u.1 := hn.2 J u hx
        have hco := hn.1 i J
        have htv : tv (some u) = u.1 := rfl
        rw [htv]
        have hca : ∀ {c : Int}, Cand P nx i J c → c = P.co i J + u.1 := fun h => by obtain ⟨_, y, hy, h⟩ := h; rw [hx] at hy; injection hy with hy; rw [h, hy]
        have hcJ : Cand P nx i J (P.co i J + u.1) := ⟨hok, u, hx, rfl⟩
        refine .inr ?_
        rcases ih with ⟨h1, h2⟩ | ⟨h1, ⟨j, a, b, h2⟩, h3⟩
        · rw [uc_new hok hu (.inl (by rw [h1]; decide))]
          refine ⟨by omega, ⟨J, by omega, by omega, hcJ⟩, fun j' c hj hj2 hc => ?_⟩
          rcases split hj2 with rfl | h
          · rw [hca hc]; exact Int.le_refl _
          · exact absurd hc (h2 j' c hj h)
        · by_cases hlt : P.co i J + u.1 < up P g (-1) i t
          · rw [uc_new hok hu (.inr hlt)]
            refine ⟨by omega, ⟨J, by omega, by omega, hcJ⟩, fun j' c hj hj2 hc => ?_⟩
            rcases split hj2 with rfl | h
            · rw [hca hc]; exact Int.le_refl _
            · have := h3 j' c hj h hc; omega
          · rw [uc_old (by omega) hlt]
            refine ⟨h1, ⟨j, a, by omega, h2⟩, fun j' c hj hj2 hc => ?_⟩
            rcases split hj2 with rfl | h
            · rw [hca hc]; omega
            · exact h3 j' c hj h hc
theorem up_zero {P : Pa} {nx : Nat → OW × Int} {g : Nat → Int} {i : Nat} (hn : NN P nx) (hg : ∀ j, i < j → j < P.n → g j = tv (nx j).1) : ∀ t, t ≤ P.n - 1 - i → up P g 0 i t = 0
  | 0, _ => rfl
  | t + 1, ht => by
    unfold up
    rw [up_zero hn hg t (by omega), hg _ (by omega) (by omega)]
    cases hx : (nx (i + 1 + t)).1 with
    | none => exact uc_none (by decide)
    | some u =>
      have hu := hn.2 _ u hx
      have hco := hn.1 i (i + 1 + t)
      exact uc_old (by omega) (by show ¬ P.co i (i + 1 + t) + u.1 < 0; omega)
theorem tv_bw0 (b : Bool) : tv (bw0 b).1 = if b then 0 else -1 := by cases b <;> rfl
theorem up_tv {P : Pa} {nx : Nat → OW × Int} {g : Nat → Int} {i : Nat} {b : Bool} (hn : NN P nx) (hi : i < P.n) (hg : ∀ j, i < j → j < P.n → g j = tv (nx j).1) :
    up P g (tv (bw0 b).1) i (P.n - 1 - i) = tv (dn P nx (bw0 b) i (P.n - 1 - i)).1 := by
  cases b with
  | true =>
    rw [show tv (bw0 true).1 = 0 from rfl, up_zero hn hg _ (Nat.le_refl _), show bw0 true = (some (0, []), 1) from rfl, dn_some hn]
    rfl
  | false =>
    rw [show tv (bw0 false).1 = -1 from rfl, show bw0 false = (none, 0) from rfl]
    have e : P.n - (P.n - 1 - i) = i + 1 := by omega
    have e2 : i + (P.n - 1 - i) = P.n - 1 := by omega
    rcases up_spec hn hi hg (P.n - 1 - i) (Nat.le_refl _) with ⟨h1, h2⟩ | ⟨h1, ⟨j, a, b, h2⟩, h3⟩
    · rcases dn_none (P := P) (nx := nx) (i := i) (v := 0) (P.n - 1 - i) (by omega) with ⟨h4, _⟩ | ⟨j, y, z, h4, hl⟩
      · rw [h1, h4]; rfl
      · have := hl.ge
        exact absurd ⟨hl.ok, z, hl.hz, rfl⟩ (h2 j _ (by omega) (by have := hl.lt; omega))
    · rcases dn_none (P := P) (nx := nx) (i := i) (v := 0) (P.n - 1 - i) (by omega) with ⟨h4, h5⟩ | ⟨j', y, z, h4, hl⟩
      · exact absurd h2 (h5 j _ (by omega) (by omega))
      · rw [h4]
        show _ = y.1
        have q1 := hl.least j _ (by omega) (by omega) h2
        have q2 := hl.ge
        have q3 := h3 j' _ (by omega) (by have := hl.lt; omega) ⟨hl.ok, z, hl.hz, rfl⟩
        rw [hl.is] at q1 ⊢
        show _ = P.co i j' + z.1
        have q4 : _ ≤ P.co i j' + z.1 := q3
        have q5 : P.co i j' + z.1 ≤ _ := q1
        omega
/-- The first break of the best breaks. -/
structure Step (P : Pa) (nx : Nat → OW × Int) (i j : Nat) (y z : Int × List Int) : Prop where
  gt : i < j
  lt : j < P.n
  ok : P.ok i j = true
  hz : (nx j).1 = some z
  cost : y.1 = P.co i j + z.1
  list : y.2 = (j : Int) :: z.2
  first : ∀ j', i < j' → j' < j → P.ok i j' = true → ¬ (0 ≤ tv (nx j').1 ∧ P.co i j' + tv (nx j').1 = y.1)
theorem step_of {P : Pa} {nx : Nat → OW × Int} {i : Nat} {y : Int × List Int} (hi : i < P.n) (h : (dn P nx (bw0 false) i (P.n - 1 - i)).1 = some y) : ∃ j z, Step P nx i j y z := by
  rcases dn_none (P := P) (nx := nx) (i := i) (v := 0) (P.n - 1 - i) (by omega) with ⟨h4, _⟩ | ⟨j, y', z, h4, hl⟩
  · rw [show bw0 false = (none, 0) from rfl, h4] at h; cases h
  · rw [show bw0 false = (none, 0) from rfl, h4] at h
    injection h with h; subst h
    have hge := hl.ge
    refine ⟨j, z, by omega, hl.lt, hl.ok, hl.hz, by rw [hl.is], by rw [hl.is], fun j' h1 h2 hok h3 => ?_⟩
    cases hx : (nx j').1 with
    | none => rw [hx] at h3; have := h3.1; simp [tv] at this
    | some u =>
      rw [hx] at h3
      have h6 : P.co i j' + u.1 = y'.1 := h3.2
      have := hl.first j' _ (by omega) h2 ⟨hok, u, hx, rfl⟩
      omega
theorem bA_step {P : Pa} {i : Nat} {y : Int × List Int} (hi : i < P.n) (hf : P.fin i = false) (h : (bA P i).1 = some y) : ∃ j z, Step P (bA P) i j y z := by
  rw [bA_eq hi, hf] at h; exact step_of hi h
theorem bw_step {P : Pa} {k i : Nat} {y : Int × List Int} (hi : i < P.n) (h : (bw P false (k + 2) i).1 = some y) : ∃ j z, Step P (bw P false (k + 1)) i j y z := by
  rw [bw_eq, decide_eq_false (by omega), Bool.and_false] at h; exact step_of hi h
theorem bA_fin {P : Pa} (hc : ∀ i j, 0 ≤ P.co i j) {i : Nat} {y : Int × List Int} (hi : i < P.n) (hf : P.fin i = true) (h : (bA P i).1 = some y) : y = (0, []) := by
  rw [bA_eq hi, hf, show bw0 true = (some (0, []), 1) from rfl, dn_some (nx := bA P) (nn_bw hc (by omega) true P.n)] at h
  injection h with h; exact h.symm
theorem bw_last {P : Pa} {i : Nat} {y : Int × List Int} (h : (bw P false 1 i).1 = some y) : y = (0, []) := by
  rw [bw_one] at h
  cases hf : P.fin i <;> rw [hf] at h
  · cases h
  · injection h with h; exact h.symm
/-- The program's tables. -/
theorem bA_tab {P : Pa} (hc : ∀ i j, 0 ≤ P.co i j) {g : Nat → Int} {i : Nat} (hi : i < P.n) (hg : ∀ j, i < j → j < P.n → g j = tv (bA P j).1) : up P g (if P.fin i then 0 else -1) i (P.n - 1 - i) = tv (bA P i).1 := by
  rw [bA_eq hi, ← tv_bw0]; exact up_tv (nn_bw hc (by omega) true P.n) hi hg
theorem bw_tab {P : Pa} (hc : ∀ i j, 0 ≤ P.co i j) {k : Nat} {g : Nat → Int} {i : Nat} (hi : i < P.n) (hg : ∀ j, i < j → j < P.n → g j = tv (bw P false (k + 1) j).1) : up P g (-1) i (P.n - 1 - i) = tv (bw P false (k + 2) i).1 := by
  rw [bw_eq, decide_eq_false (by omega), Bool.and_false]
  exact up_tv (b := false) (nn_bw hc (by omega) false (k + 1)) hi hg
/-- How many ways there are. -/
theorem wrap_add (a b : Int) : wrap64 (wrap64 a + b) = wrap64 (a + b) := by unfold wrap64; omega
theorem wrap_add' (a b : Int) : wrap64 (a + wrap64 b) = wrap64 (a + b) := by unfold wrap64; omega
def sm (f : Nat → Int) (a : Nat) : Nat → Int
  | 0 => 0
  | t + 1 => sm f a t + f (a + t)
theorem sm_head (f : Nat → Int) : ∀ t a, sm f a (t + 1) = f a + sm f (a + 1) t
  | 0, a => by simp [sm]
  | t + 1, a => by
    show sm f a (t + 1) + f (a + (t + 1)) = f a + (sm f (a + 1) t + f (a + 1 + t))
    rw [sm_head f t a, show a + 1 + t = a + (t + 1) by omega]; omega
theorem dn_base {P : Pa} {nx : Nat → OW × Int} {base : OW × Int} {i : Nat} : ∀ t, base.1 ≠ none → (dn P nx base i t).1 ≠ none
  | 0, h => h
  | t + 1, h => by
    have ih := dn_base (P := P) (nx := nx) (i := i) t h
    unfold dn
    unfold updW
    split
    · split
      · exact ih
      · show updO _ _ _ _ _ ≠ none
        unfold updO
        split
        · exact fun h => by cases h
        · split <;> exact fun h => by cases h
    · exact ih
theorem dn_ways {P : Pa} {nx : Nat → OW × Int} {b : Bool} {i : Nat} (hz : ∀ j, (nx j).1 = none → (nx j).2 = 0) : ∀ t, t < P.n → (dn P nx (bw0 b) i t).2 = wrap64 ((if b then 1 else 0) + sm (fun j => if P.ok i j then (nx j).2 else 0) (P.n - t) t)
  | 0, _ => by cases b <;> simp [dn, bw0, sm, wrap64]
  | t + 1, ht => by
    have ih := dn_ways (P := P) (b := b) (i := i) hz t (by omega)
    unfold dn
    rw [sm_head, show P.n - (t + 1) = P.n - 1 - t by omega, show P.n - 1 - t + 1 = P.n - t by omega]
    cases hok : P.ok i (P.n - 1 - t) with
    | false => rw [updW_no hok, ih]; simp
    | true =>
      cases hx : (nx (P.n - 1 - t)).1 with
      | none => rw [updW_none hx, ih]; simp [hz _ hx]
      | some u =>
        rw [updW_some hok hx]
        show wrap64 (_ + _) = _
        rw [ih, wrap_add]
        simp only [if_true]
        congr 1; omega
theorem dn_zero {P : Pa} {nx : Nat → OW × Int} {b : Bool} {i : Nat} : ∀ t, (dn P nx (bw0 b) i t).1 = none → (dn P nx (bw0 b) i t).2 = 0
  | 0 => by cases b <;> simp [dn, bw0]
  | t + 1 => by
    have ih := dn_zero (P := P) (nx := nx) (b := b) (i := i) t
    unfold dn
    unfold updW
    split
    · split
      · exact ih
      · intro h
        exfalso
        revert h
        show updO _ _ _ _ _ = none → False
        unfold updO
        split
        · exact fun h => by cases h
        · split <;> exact fun h => by cases h
    · exact ih
theorem bw_none {P : Pa} (any : Bool) : ∀ k j, (bw P any k j).1 = none → (bw P any k j).2 = 0
  | 0, j, _ => rfl
  | k + 1, j, h => dn_zero _ h
def wup (P : Pa) (g : Nat → Int) (base : Int) (i : Nat) : Nat → Int
  | 0 => base
  | t + 1 => if P.ok i (i + 1 + t) then wrap64 (wup P g base i t + g (i + 1 + t)) else wup P g base i t
theorem wup_ways {P : Pa} {g : Nat → Int} {b : Bool} {i : Nat} : ∀ t, wup P g (if b then 1 else 0) i t = wrap64 ((if b then 1 else 0) + sm (fun j => if P.ok i j then g j else 0) (i + 1) t)
  | 0 => by cases b <;> simp [wup, sm, wrap64]
  | t + 1 => by
    unfold wup
    rw [wup_ways t]
    show _ = wrap64 (_ + (sm _ (i + 1) t + if P.ok i (i + 1 + t) then g (i + 1 + t) else 0))
    cases hok : P.ok i (i + 1 + t) with
    | false => simp
    | true => simp only [if_true]; rw [wrap_add]; congr 1; omega
theorem sm_congr {f g : Nat → Int} {a : Nat} : ∀ t, (∀ j, a ≤ j → j < a + t → f j = g j) → sm f a t = sm g a t
  | 0, _ => rfl
  | t + 1, h => by
    show _ + _ = _ + _
    rw [sm_congr t (fun j h1 h2 => h j h1 (by omega)), h _ (by omega) (by omega)]
theorem bA_ways {P : Pa} {g : Nat → Int} {i : Nat} (hi : i < P.n) (hg : ∀ j, i < j → j < P.n → g j = (bA P j).2) : wup P g (if P.fin i then 1 else 0) i (P.n - 1 - i) = (bA P i).2 := by
  rw [bA_eq hi, dn_ways (nx := bA P) (fun j h => bw_none true P.n j h) _ (by omega), wup_ways, show P.n - (P.n - 1 - i) = i + 1 by omega]
  congr 2
  refine sm_congr _ (fun j h1 h2 => ?_)
  rw [hg j (by omega) (by omega)]
/-- No cost is great. -/
def UB (P : Pa) (nx : Nat → OW × Int) : Prop := (∀ i j, P.co i j ≤ 100000000) ∧ ∀ j y, j < P.n → (nx j).1 = some y → y.1 + 100000000 * (j : Int) ≤ 100000000 * (P.n : Int)
theorem ub_dn {P : Pa} {nx : Nat → OW × Int} {i t : Nat} {b : Bool} (hn : NN P nx) (hu : UB P nx) (hi : i < P.n) (ht : t ≤ P.n - 1 - i) : ∀ y, (dn P nx (bw0 b) i t).1 = some y → y.1 + 100000000 * (i : Int) ≤ 100000000 * (P.n : Int) := by
  intro y hy
  cases b with
  | true =>
    have h := dn_some (i := i) (v := 1) hn t
    rw [show bw0 true = (some (0, []), 1) from rfl, h] at hy
    injection hy with hy; subst hy
    show (0 : Int) + _ ≤ _
    omega
  | false =>
    rcases dn_none (P := P) (nx := nx) (i := i) (v := 0) t (by omega) with ⟨h, _⟩ | ⟨j, y', z, h, hl⟩
    · rw [show bw0 false = (none, 0) from rfl, h] at hy; cases hy
    · rw [show bw0 false = (none, 0) from rfl, h] at hy
      injection hy with hy; subst hy
      rw [hl.is]
      have h1 := hu.1 i j; have h2 := hu.2 _ _ hl.lt hl.hz; have h3 := hl.ge
      show P.co i j + z.1 + _ ≤ _; omega
theorem ub_bw {P : Pa} (hc : ∀ i j, 0 ≤ P.co i j) (hd : ∀ i j, P.co i j ≤ 100000000) (hp : 0 < P.n) (any : Bool) : ∀ k, UB P (bw P any k)
  | 0 => ⟨hd, fun j y hj h => by rw [bw_zero] at h; cases h⟩
  | k + 1 => ⟨hd, fun j y hj h => ub_dn (nn_bw hc hp any k) (ub_bw hc hd hp any k) hj (Nat.le_refl _) y h⟩
/-- The table of the reference: row k of it, for L lines (0: any number). -/
def tb (P : Pa) (L k i : Nat) : OW × Int := if L = 0 then bA P i else bw P false k i
/-- A cell of the table is made of the cells that its lines reach. -/
theorem tb_any {P : Pa} {k i : Nat} (hi : i < P.n) : tb P 0 k i = dn P (tb P 0 k) (bw0 (P.fin i)) i (P.n - 1 - i) := by
  have e : tb P 0 k = bA P := by funext j; simp [tb]
  rw [e]; exact bA_eq hi
theorem tb_zero {P : Pa} {L i : Nat} (hL : 0 < L) : tb P L 0 i = (none, 0) := by unfold tb; rw [if_neg (by omega)]; rfl
theorem tb_succ {P : Pa} {L k i : Nat} (hL : 0 < L) : tb P L (k + 1) i = dn P (tb P L k) (bw0 (P.fin i && decide (k = 0))) i (P.n - 1 - i) := by
  have e : ∀ k, tb P L k = bw P false k := fun k => by funext j; unfold tb; rw [if_neg (by omega)]
  rw [e, e]; exact bw_eq
theorem nn_tb {P : Pa} (hc : ∀ i j, 0 ≤ P.co i j) (hp : 0 < P.n) (L k : Nat) : NN P (tb P L k) := by
  by_cases h : L = 0
  · have e : tb P L k = bw P true P.n := by funext j; simp [tb, h, bA]
    rw [e]; exact nn_bw hc hp true _
  · have e : tb P L k = bw P false k := by funext j; simp [tb, h]
    rw [e]; exact nn_bw hc hp false _
theorem ub_tb {P : Pa} (hc : ∀ i j, 0 ≤ P.co i j) (hd : ∀ i j, P.co i j ≤ 100000000) (hp : 0 < P.n) (L k : Nat) : UB P (tb P L k) := by
  by_cases h : L = 0
  · have e : tb P L k = bw P true P.n := by funext j; simp [tb, h, bA]
    rw [e]; exact ub_bw hc hd hp true _
  · have e : tb P L k = bw P false k := by funext j; simp [tb, h]
    rw [e]; exact ub_bw hc hd hp false _
/-- Breaks are few. -/
def LNB (P : Pa) (nx : Nat → OW × Int) : Prop := ∀ j y, j < P.n → (nx j).1 = some y → y.2.length + j ≤ P.n
theorem ln_dn {P : Pa} {nx : Nat → OW × Int} {i t : Nat} {b : Bool} (hn : NN P nx) (hl : LNB P nx) (hi : i < P.n) (ht : t ≤ P.n - 1 - i) : ∀ y, (dn P nx (bw0 b) i t).1 = some y → y.2.length + i ≤ P.n ∧ (y.2 = [] ∨ ∃ (j : Nat) (ys : List Int), y.2 = (j : Int) :: ys ∧ P.n - t ≤ j) := by
  intro y hy
  cases b with
  | true =>
    have h := dn_some (i := i) (v := 1) hn t
    rw [show bw0 true = (some (0, []), 1) from rfl, h] at hy
    injection hy with hy; subst hy
    exact ⟨by show 0 + i ≤ _; omega, .inl rfl⟩
  | false =>
    rcases dn_none (P := P) (nx := nx) (i := i) (v := 0) t (by omega) with ⟨h, _⟩ | ⟨j, y', z, h, hs⟩
    · rw [show bw0 false = (none, 0) from rfl, h] at hy; cases hy
    · rw [show bw0 false = (none, 0) from rfl, h] at hy
      injection hy with hy; subst hy
      rw [hs.is]
      have h2 := hl _ _ hs.lt hs.hz; have h3 := hs.ge
      exact ⟨by simp only [List.length_cons]; omega, .inr ⟨j, z.2, rfl, h3⟩⟩
theorem ln_bw {P : Pa} (hc : ∀ i j, 0 ≤ P.co i j) (hp : 0 < P.n) (any : Bool) : ∀ k, LNB P (bw P any k)
  | 0 => fun j y hj h => by rw [bw_zero] at h; cases h
  | k + 1 => fun j y hj h => (ln_dn (nn_bw hc hp any k) (ln_bw hc hp any k) hj (Nat.le_refl _) y h).1
theorem ln_tb {P : Pa} (hc : ∀ i j, 0 ≤ P.co i j) (hp : 0 < P.n) (L k : Nat) : LNB P (tb P L k) := by
  by_cases h : L = 0
  · have e : tb P L k = bw P true P.n := by funext j; simp [tb, h, bA]
    rw [e]; exact ln_bw hc hp true _
  · have e : tb P L k = bw P false k := by funext j; simp [tb, h]
    rw [e]; exact ln_bw hc hp false _
end Go.Proofs.Ytnhddepmhelgiaa
