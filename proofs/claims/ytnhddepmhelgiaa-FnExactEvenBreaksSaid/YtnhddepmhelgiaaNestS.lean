/- The walk of szIntSS. -/
import Derived.Test.YtnhddepmhelgiaaNestL
namespace Go.Proofs.Ytnhddepmhelgiaa
open Go.RowKit
set_option linter.unusedVariables false
def totL (ls : List (List Int)) (k : Nat) : Nat := ((ls.take k).map List.length).sum
theorem totL_succ {ls : List (List Int)} {k : Nat} {l : List Int} (h : ls[k]? = some l) : totL ls (k + 1) = totL ls k + l.length := by
  rw [totL, take_snoc h]; simp [totL]
def bulk (ls : List (List Int)) : Nat := ls.length + totL ls ls.length
theorem totL_mono (ls : List (List Int)) {k : Nat} : ∀ n, k ≤ n → n ≤ ls.length → totL ls k ≤ totL ls n := by
  intro n hk
  induction n with
  | zero => intro _; rw [show k = 0 by omega]; exact Nat.le_refl _
  | succ n ih =>
    intro hn
    by_cases e : k = n + 1
    · subst e; exact Nat.le_refl _
    · obtain ⟨l, hl⟩ : ∃ l, ls[n]? = some l := ⟨_, List.getElem?_eq_getElem (by omega)⟩
      rw [totL_succ hl]
      have := ih (by omega) (by omega)
      omega
theorem row_le {ls : List (List Int)} {l : List Int} (h : l ∈ ls) : l.length ≤ totL ls ls.length := by
  obtain ⟨i, hi, rfl⟩ := List.mem_iff_getElem.1 h
  have h1 := totL_succ (List.getElem?_eq_getElem hi)
  have h2 := totL_mono ls (k := i + 1) ls.length (by omega) (Nat.le_refl _)
  omega
def szR (ls : List (List Int)) (left : Int) : Int := if (bulk ls : Int) ≤ left then left - bulk ls else -1
theorem szR_yes {ls : List (List Int)} {left : Int} (h : (bulk ls : Int) ≤ left) : szR ls left = left - bulk ls := if_pos h
theorem szR_no {ls : List (List Int)} {left : Int} (h : ¬ (bulk ls : Int) ≤ left) : szR ls left = -1 := if_neg h
theorem szIntSS_any (A : Option Addr) (c : Nat) (ls : List (List Int)) (n : Nat) (left : Int) (w : World) (hl : ls.length ≤ 9223372036854775807) (hb : ∀ l ∈ ls, l.length ≤ 9223372036854775807) (h0 : 0 ≤ left) (h1 : left ≤ 1048576) (hr : RdAA w n A ls) :
    Calls Try.prog 15 #[.slice A ls.length c, .int .i64 left] w fun e w' => e = .returned (.int .i64 (szR ls left)) ∧ w = w' := by
  have HB := Lib.hid hb; clear hb
  by_cases hlen : (ls.length : Int) ≤ left
  case neg =>
    go_enter Try.func15, Try.ntmps15
    go_wp2
    go_ret
    exact ⟨ret_int (szR_no (by unfold bulk; omega)).symm, rfl⟩
  go_enter Try.func15, Try.ntmps15
  go_wp2
  go_loop [1, 5] (fun s i => ∃ (k t : Nat), k ≤ ls.length ∧ i = .int .i64 k ∧ s = .int .i64 (left - ls.length - t) ∧ t = totL ls k ∧ (ls.length : Int) + t ≤ left) (fun _ i => ls.length - (intOf i).toNat)
  case atStart => exact ⟨0, 0, Nat.zero_le _, rfl, by simp, by simp [totL], by omega⟩
  case round =>
    obtain ⟨k, t, hk, rfl, rfl, ht, htl⟩ := hrel
    have HT := Lib.hid ht; clear ht
    by_cases hlt : k < ls.length
    · obtain ⟨B, c', l, b, off, HX, rfl, h3, c0, hR⟩ := RdAA.get hr hlt
      have hll := HB.out l (List.mem_of_getElem? HX.out)
      have hs := totL_succ HX.out
      have hm := totL_mono ls (k := k + 1) ls.length (by omega) (Nat.le_refl _)
      have HS := Lib.hid hs; have HM := Lib.hid hm
      clear hs hm
      by_cases hsm : (l.length : Int) ≤ left - ls.length - t
      · go_wp2_with (go_at_call 47; refine (szIntS_small _ _ _ _ _ hsm (by omega) (by omega)).mono ?_; rintro e w' ⟨rfl, rfl⟩)
        go_round
        case rel => exact ⟨k + 1, t + l.length, by omega, by go_num, val_int (by omega), by rw [HS.out, HT.out], by omega⟩
        case measure => simp [intOf]; omega
      · go_wp2_with (go_at_call 47; refine (szIntS_big _ _ _ _ _ hll (by omega) (by omega) (by omega)).mono ?_; rintro e w' ⟨rfl, rfl⟩)
        go_ret
        have q1 := HS.out; have q2 := HM.out; have q3 := HT.out
        exact ⟨ret_int (szR_no (by unfold bulk; omega)).symm, rfl⟩
    · have hkl : k = ls.length := by omega
      subst hkl
      clear hlt
      go_wp2
      go_ret
      have q3 := HT.out
      exact ⟨ret_int (by rw [szR_yes (by unfold bulk; omega)]; unfold bulk; omega), rfl⟩
end Go.Proofs.Ytnhddepmhelgiaa
