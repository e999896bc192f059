/- The fewest pages and then the least squares, as one number; and page by page. No program in sight. -/
import Derived.Test.YtnhddepmhelgiaaPbP
namespace Go.Proofs.Ytnhddepmhelgiaa
open Go.RowKit
set_option linter.unusedVariables false
/-- Q counts each page as 10^9 beside what P counts. -/
structure Both (P Q : Pa) : Prop where
  n : Q.n = P.n
  ok : ∀ i j, Q.ok i j = P.ok i j
  fin : ∀ i, Q.fin i = P.fin i
  co : ∀ i j, Q.co i j = 1000000000 + P.co i j
  co0 : ∀ i j, 0 ≤ P.co i j
  co1 : ∀ i j, P.co i j ≤ 1000000
  small : P.n ≤ 100
/-- What the one number says. -/
def Says (P Q : Pa) (i : Nat) : Prop :=
  ((bA Q i).1 = none ∧ ∀ k, (bw P false k i).1 = none) ∨
  ∃ (K : Nat) (s : Int) (L : List Int), (bA Q i).1 = some ((K : Int) * 1000000000 + s, L) ∧ (bw P false (K + 1) i).1 = some (s, L) ∧ (∀ k, k ≤ K → (bw P false k i).1 = none) ∧ 0 ≤ s ∧ s + 1000000 * (i : Int) ≤ 1000000 * (P.n : Int)
theorem cand_some {P : Pa} {nx : Nat → OW × Int} {i j : Nat} {z : Int × List Int} (h : P.ok i j = true) (hz : (nx j).1 = some z) : Cand P nx i j (P.co i j + z.1) := ⟨h, z, hz, rfl⟩
theorem bw_low {P : Pa} {i : Nat} (hf : P.fin i = false) : ∀ k, k ≤ 1 → (bw P false k i).1 = none
  | 0, _ => rfl
  | 1, _ => by rw [bw_one, hf]; rfl
  | k + 2, h => by omega
theorem bw_dn {P : Pa} {i k : Nat} : bw P false (k + 2) i = dn P (bw P false (k + 1)) (none, 0) i (P.n - 1 - i) := by
  rw [bw_eq, decide_eq_false (by omega), Bool.and_false]; rfl
theorem says {P Q : Pa} (h : Both P Q) : ∀ d i, P.n - i ≤ d → i < P.n → Says P Q i := by
  intro d
  induction d with
  | zero => intro i h1 h2; omega
  | succ d ih =>
    intro i hd hi
    have hqc : ∀ i j, 0 ≤ Q.co i j := fun i j => by have := h.co i j; have := h.co0 i j; omega
    have IH : ∀ j, i < j → j < P.n → Says P Q j := fun j h1 h2 => ih j (by omega) h2
    cases hf : P.fin i with
    | true =>
      right
      have hn := nn_bw (P := Q) hqc (by rw [h.n]; omega) true Q.n
      refine ⟨0, 0, [], ?_, ?_, fun k hk => ?_, Int.le_refl _, by omega⟩
      · rw [bA_eq (by rw [h.n]; exact hi), h.fin, hf, show bw0 true = (some (0, []), 1) from rfl, dn_some (nx := bA Q) hn]; rfl
      · rw [bw_one, hf]; rfl
      · obtain rfl : k = 0 := by omega
        rfl
    | false =>
      have hA : bA Q i = dn Q (bA Q) (none, 0) i (Q.n - 1 - i) := by rw [bA_eq (by rw [h.n]; exact hi), h.fin, hf]; rfl
      have e1 : Q.n - (Q.n - 1 - i) = i + 1 := by rw [h.n]; omega
      have e2 : P.n - (P.n - 1 - i) = i + 1 := by omega
      -- what a candidate of P at level k + 1 says
      have cP : ∀ (k j : Nat) (z : Int × List Int), i < j → j < P.n → (bw P false (k + 1) j).1 = some z → ∃ (K : Nat) (s : Int) (L : List Int), (bA Q j).1 = some ((K : Int) * 1000000000 + s, L) ∧ K ≤ k ∧ (bw P false (K + 1) j).1 = some (s, L) ∧ 0 ≤ s ∧ s + 1000000 * (j : Int) ≤ 1000000 * (P.n : Int) := by
        intro k j z h1 h2 hz
        rcases IH j h1 h2 with ⟨_, hno⟩ | ⟨K, s, L, q1, q2, q3, q4, q5⟩
        · rw [hno] at hz; cases hz
        · refine ⟨K, s, L, q1, ?_, q2, q4, q5⟩
          rcases Nat.lt_or_ge k K with hk | hk
          · rw [q3 (k + 1) (by omega)] at hz; cases hz
          · exact hk
      rcases dn_none (P := Q) (nx := bA Q) (i := i) (v := 0) (Q.n - 1 - i) (by rw [h.n]; omega) with ⟨q1, q2⟩ | ⟨j, y, z, q1, ql⟩
      · left
        rw [e1] at q2
        refine ⟨by rw [hA]; exact q1, fun k => ?_⟩
        rcases Nat.lt_or_ge 1 k with hk | hk
        · obtain ⟨m, rfl⟩ : ∃ m, k = m + 2 := ⟨k - 2, by omega⟩
          rw [bw_dn]
          rcases dn_none (P := P) (nx := bw P false (m + 1)) (i := i) (v := 0) (P.n - 1 - i) (by omega) with ⟨r1, _⟩ | ⟨j, y, z, r1, rl⟩
          · exact r1
          · exfalso
            have hge := rl.ge
            obtain ⟨K, s, L, t1, _⟩ := cP m j z (by omega) rl.lt rl.hz
            exact q2 j _ (by omega) (by rw [h.n]; exact rl.lt) (cand_some (by rw [h.ok]; exact rl.ok) t1)
        · exact bw_low hf k hk
      · right
        rw [e1] at ql
        have hge := ql.ge
        have hjn : j < P.n := by have := ql.lt; rw [h.n] at this; exact this
        have hokj : P.ok i j = true := by have := ql.ok; rw [h.ok] at this; exact this
        rcases IH j (by omega) hjn with ⟨hno, _⟩ | ⟨Kj, sj, Lj, t1, t2, t3, t4, t5⟩
        · have := ql.hz; rw [hno] at this; cases this
        · have hz : z = ((Kj : Int) * 1000000000 + sj, Lj) := by have := ql.hz; rw [t1] at this; injection this with this; exact this.symm
          subst hz
          have hco := h.co i j; have hc0 := h.co0 i j; have hc1 := h.co1 i j
          have hsm := h.small
          have hy1 : y.1 = ((Kj : Int) + 1) * 1000000000 + (P.co i j + sj) := by rw [ql.is]; show Q.co i j + ((Kj : Int) * 1000000000 + sj) = _; omega
          have hy2 : y.2 = (j : Int) :: Lj := by rw [ql.is]
          -- no candidate of P is better
          have better : ∀ (k j' : Nat) (z' : Int × List Int), i < j' → j' < P.n → P.ok i j' = true → (bw P false (k + 1) j').1 = some z' → k ≤ Kj → k = Kj ∧ (bA Q j').1 = some ((Kj : Int) * 1000000000 + z'.1, z'.2) ∧ P.co i j + sj ≤ P.co i j' + z'.1 := by
            intro k j' z' h1 h2 hok hz' hk
            obtain ⟨K, s, L, u1, u2, u3, u4, u5⟩ := cP k j' z' h1 h2 hz'
            have := ql.least j' _ (by omega) (by rw [h.n]; exact h2) (cand_some (by rw [h.ok]; exact hok) u1)
            rw [hy1, h.co] at this
            have d0 := h.co0 i j'; have d1 := h.co1 i j'
            have this : ((Kj : Int) + 1) * 1000000000 + (P.co i j + sj) ≤ 1000000000 + P.co i j' + ((K : Int) * 1000000000 + s) := this
            have hKK : Kj ≤ K := by omega
            have hK1 : K = Kj := by omega
            have hK2 : k = Kj := by omega
            subst hK1
            subst hK2
            rw [u3] at hz'
            injection hz' with hz'
            subst hz'
            exact ⟨rfl, u1, by show _ ≤ P.co i j' + s; omega⟩
          refine ⟨Kj + 1, P.co i j + sj, (j : Int) :: Lj, ?_, ?_, fun k hk => ?_, by omega, by omega⟩
          · rw [hA, q1]
            have : y = (((Kj + 1 : Nat) : Int) * 1000000000 + (P.co i j + sj), (j : Int) :: Lj) := Prod.ext (by rw [hy1]; omega) hy2
            rw [this]
          · rw [bw_dn]
            rcases dn_none (P := P) (nx := bw P false (Kj + 1)) (i := i) (v := 0) (P.n - 1 - i) (by omega) with ⟨_, r2⟩ | ⟨j', y', z', r1, rl⟩
            · rw [e2] at r2
              exact absurd (cand_some hokj t2) (r2 j _ (by omega) hjn)
            · rw [e2] at rl
              have hge' := rl.ge
              obtain ⟨_, v1, v2⟩ := better Kj j' z' (by omega) rl.lt rl.ok rl.hz (Nat.le_refl _)
              have w1 : y'.1 ≤ P.co i j + sj := rl.least j _ (by omega) hjn (cand_some hokj t2)
              have hy' : y'.1 = P.co i j' + z'.1 := by rw [rl.is]
              have hjj : j' = j := by
                rcases Nat.lt_trichotomy j' j with hl | he | hl
                · exfalso
                  have := ql.first j' _ (by omega) hl (cand_some (by rw [h.ok]; exact rl.ok) v1)
                  rw [hy1, h.co] at this
                  have this : ((Kj : Int) + 1) * 1000000000 + (P.co i j + sj) < 1000000000 + P.co i j' + ((Kj : Int) * 1000000000 + z'.1) := this
                  omega
                · exact he
                · exfalso
                  have : y'.1 < P.co i j + sj := rl.first j _ (by omega) hl (cand_some hokj t2)
                  omega
              subst hjj
              have hzz : z' = (sj, Lj) := by have := rl.hz; rw [t2] at this; injection this with this; exact this.symm
              subst hzz
              rw [r1, rl.is]
          · rcases Nat.lt_or_ge 1 k with hk1 | hk1
            · obtain ⟨m, rfl⟩ : ∃ m, k = m + 2 := ⟨k - 2, by omega⟩
              rw [bw_dn]
              rcases dn_none (P := P) (nx := bw P false (m + 1)) (i := i) (v := 0) (P.n - 1 - i) (by omega) with ⟨r1, _⟩ | ⟨j', y', z', r1, rl⟩
              · exact r1
              · exfalso
                rw [e2] at rl
                have hge' := rl.ge
                have := (better m j' z' (by omega) rl.lt rl.ok rl.hz (by omega)).1
                omega
            · exact bw_low hf k hk1
end Go.Proofs.Ytnhddepmhelgiaa
