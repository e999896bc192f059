/- The walks of the small functions of cut-ins. -/
import Derived.Test.YtllgjgoimnimaaaProg
import Derived.Test.YtllgjgoimnimaaaCutP
import Derived.Deep.QuietTactic
import Derived.BigQuiet
import Derived.Outline
namespace Go.Proofs.Ytllgjgoimnimaaa
open Go.RowKit
set_option linter.unusedVariables false

theorem within_any (n lo hi : Int) (w : World) : Calls Try.prog 49 #[.int .i64 n, .int .i64 lo, .int .i64 hi] w fun e w' => e = .returned (.bool (inB n lo hi)) ∧ w = w' := by
  unfold inB
  go_enter Try.func49, Try.ntmps49
  go_wp2
  all_goals (go_ret; simp [*]; try omega)
theorem l1In_any (n lo hi : Int) (w : World) : Calls Try.prog 48 #[.int .i64 n, .int .i64 lo, .int .i64 hi] w fun e w' => e = .returned (.bool (inB n lo hi)) ∧ w = w' := by
  unfold inB
  go_enter Try.func48, Try.ntmps48
  go_wp2
  all_goals (go_ret; simp [*]; try omega)
theorem isColumn_any (n : Int) (w : World) : Calls Try.prog 54 #[.int .i64 n] w fun e w' => e = .returned (.bool (inB n 40 600)) ∧ w = w' := by
  go_enter Try.func54, Try.ntmps54
  go_wp2_with (go_at_call 49; refine (within_any _ _ _ _).mono ?_; rintro e w' ⟨rfl, rfl⟩)
  go_ret
  exact ⟨rfl, rfl⟩
theorem isLineNumber_any (n : Int) (w : World) : Calls Try.prog 61 #[.int .i64 n] w fun e w' => e = .returned (.bool (inB n 0 300)) ∧ w = w' := by
  go_enter Try.func61, Try.ntmps61
  go_wp2_with (go_at_call 49; refine (within_any _ _ _ _).mono ?_; rintro e w' ⟨rfl, rfl⟩)
  go_ret
  exact ⟨rfl, rfl⟩
theorem inNumber_any (n : Int) (w : World) : Calls Try.prog 59 #[.int .i64 n] w fun e w' => e = .returned (.bool (inB n 0 300)) ∧ w = w' := by
  go_enter Try.func59, Try.ntmps59
  go_wp2_with (go_at_call 48; refine (l1In_any _ _ _ _).mono ?_; rintro e w' ⟨rfl, rfl⟩)
  go_ret
  exact ⟨rfl, rfl⟩
theorem isSide_any (n : Int) (w : World) : Calls Try.prog 62 #[.int .i64 n] w fun e w' => e = .returned (.bool (inB n 0 1)) ∧ w = w' := by
  unfold inB
  by_cases h0 : n = 0
  · subst h0
    go_enter Try.func62, Try.ntmps62
    go_wp2
    go_ret
    exact ⟨rfl, rfl⟩
  · have h0' : (n == 0) = false := by simpa using h0
    by_cases h1 : n = 1
    · subst h1
      go_enter Try.func62, Try.ntmps62
      go_wp2
      go_ret
      exact ⟨rfl, rfl⟩
    · have h1' : (n == 1) = false := by simpa using h1
      go_enter Try.func62, Try.ntmps62
      go_wp2
      go_ret
      refine ⟨ret_bool ?_, rfl⟩
      symm; simp; omega
theorem isBeside_any (a b c d n : Int) (w : World) : Calls Try.prog 63 #[.agg #[.int .i64 a, .int .i64 b, .int .i64 c, .int .i64 d], .int .i64 n] w fun e w' => e = .returned (.bool (inB n a (wrap64 (wrap64 (a + b) - 1)))) ∧ Ext w w' := by
  go_enter Try.func63, Try.ntmps63
  go_wp2_with (go_at_call 49; refine (within_any _ _ _ _).mono ?_; rintro e w' ⟨rfl, rfl⟩)
  go_ret
  exact ⟨rfl, (by repeat (first | exact Ext.refl _ | assumption | refine Ext.trans ?_ (Ext.alloc _ _) | refine Ext.trans ?_ (Ext.drew _) | refine Ext.trans ?_ (Ext.drewN _ _) | refine Ext.trans ?_ (by assumption)))⟩
theorem inBeside_any (a b c d n : Int) (w : World) : Calls Try.prog 66 #[.agg #[.int .i64 a, .int .i64 b, .int .i64 c, .int .i64 d], .int .i64 n] w fun e w' => e = .returned (.bool (inB n a (wrap64 (wrap64 (a + b) - 1)))) ∧ Ext w w' := by
  go_enter Try.func66, Try.ntmps66
  go_wp2_with (go_at_call 48; refine (l1In_any _ _ _ _).mono ?_; rintro e w' ⟨rfl, rfl⟩)
  go_ret
  exact ⟨rfl, (by repeat (first | exact Ext.refl _ | assumption | refine Ext.trans ?_ (Ext.alloc _ _) | refine Ext.trans ?_ (Ext.drew _) | refine Ext.trans ?_ (Ext.drewN _ _) | refine Ext.trans ?_ (by assumption)))⟩
theorem isBeside_c (x : Cut) (n : Int) (w : World) : Calls Try.prog 63 #[.agg #[.int .i64 x.line, .int .i64 x.lines, .int .i64 x.wide, .int .i64 x.side], .int .i64 n] w fun e w' => e = .returned (.bool (beside x n)) ∧ Ext w w' :=
  isBeside_any _ _ _ _ _ _
theorem inBeside_c (x : Cut) (n : Int) (w : World) : Calls Try.prog 66 #[.agg #[.int .i64 x.line, .int .i64 x.lines, .int .i64 x.wide, .int .i64 x.side], .int .i64 n] w fun e w' => e = .returned (.bool (beside x n)) ∧ Ext w w' :=
  inBeside_any _ _ _ _ _ _
theorem isCutIn_any (x : Cut) (w : World) : Calls Try.prog 52 #[.agg #[.int .i64 x.line, .int .i64 x.lines, .int .i64 x.wide, .int .i64 x.side]] w fun e w' => e = .returned (.bool (isCut x)) ∧ Ext w w' := by
  unfold isCut
  generalize h1 : inB x.line 0 200 = t1
  generalize h2 : inB x.lines 1 30 = t2
  generalize h3 : inB x.wide 1 600 = t3
  generalize h4 : inB x.side 0 1 = t4
  cases t1 <;> cases t2 <;> cases t3 <;>
  ( go_enter Try.func52, Try.ntmps52
    go_wp2_with (first | (go_at_call 49; refine (within_any _ _ _ _).mono ?_; rintro e w' ⟨rfl, rfl⟩) | (go_at_call 62; refine (isSide_any _ _).mono ?_; rintro e w' ⟨rfl, rfl⟩))
    go_ret
    exact ⟨rfl, (by repeat (first | exact Ext.refl _ | assumption | refine Ext.trans ?_ (Ext.alloc _ _) | refine Ext.trans ?_ (Ext.drew _) | refine Ext.trans ?_ (Ext.drewN _ _) | refine Ext.trans ?_ (by assumption)))⟩ )
theorem inCut_any (x : Cut) (w : World) : Calls Try.prog 57 #[.agg #[.int .i64 x.line, .int .i64 x.lines, .int .i64 x.wide, .int .i64 x.side]] w fun e w' => e = .returned (.bool (isCut x)) ∧ Ext w w' := by
  unfold isCut
  generalize h1 : inB x.line 0 200 = t1
  generalize h2 : inB x.lines 1 30 = t2
  generalize h3 : inB x.wide 1 600 = t3
  generalize h4 : inB x.side 0 1 = t4
  cases t1 <;> cases t2 <;> cases t3 <;>
  ( go_enter Try.func57, Try.ntmps57
    go_wp2_with (go_at_call 48; refine (l1In_any _ _ _ _).mono ?_; rintro e w' ⟨rfl, rfl⟩)
    go_ret
    exact ⟨rfl, (by repeat (first | exact Ext.refl _ | assumption | refine Ext.trans ?_ (Ext.alloc _ _) | refine Ext.trans ?_ (Ext.drew _) | refine Ext.trans ?_ (Ext.drewN _ _) | refine Ext.trans ?_ (by assumption)))⟩ )

theorem measureAt_any (m : Int) (A : Option Addr) (c : Nat) (l : List Cut) (n : Int) (lo hi : Nat) (w : World) (hl : l.length ≤ 1048577) (hr : RdC w lo hi A l) :
    Calls Try.prog 53 #[.int .i64 m, .slice A l.length c, .int .i64 n] w fun e w' => e = .returned (.int .i64 (meas m l n)) ∧ Ext w w' := by
  go_enter Try.func53, Try.ntmps53
  go_wp2
  go_loopw [0, 11] (fun m' i wr => ∃ k : Nat, k ≤ l.length ∧ i = .int .i64 k ∧ m' = .int .i64 (meas m (l.take k) n) ∧ Ext w wr) (fun _ i _ => l.length - (intOf i).toNat)
  case atStart => exact ⟨0, Nat.zero_le _, rfl, by simp [meas], Ext.refl _⟩
  case round =>
    obtain ⟨k, hk, rfl, rfl, hE⟩ := hrel
    by_cases hlt : k < l.length
    · obtain ⟨x, b, off, HX, rfl, h1, h2, h3, c0, c1, c2, c3⟩ := RdC.get (hr.ext hE) hlt
      go_wp2_with (go_at_call 63; refine (isBeside_c x n _).mono ?_; rintro e w1 ⟨rfl, hE1⟩; obtain ⟨hc1, hf1⟩ := bcell hE1; have hs1 := hE1.size; (try simp only [World.size_alloc] at hs1))
      all_goals
        go_roundw
        case rel => exact ⟨k + 1, by omega, by go_num, by rw [meas_snoc HX.out]; simp [measStep, *], (by repeat (first | exact Ext.refl _ | assumption | refine Ext.trans ?_ (Ext.alloc _ _) | refine Ext.trans ?_ (Ext.drew _) | refine Ext.trans ?_ (Ext.drewN _ _) | refine Ext.trans ?_ (by assumption)))⟩
        case measure => simp [intOf]; omega
    · go_wp2
      go_ret
      exact ⟨by rw [List.take_of_length_le (by omega)]; rfl, hE⟩
theorem inMeasure_any (m : Int) (A : Option Addr) (c : Nat) (l : List Cut) (n : Int) (lo hi : Nat) (w : World) (hl : l.length ≤ 1048577) (hr : RdC w lo hi A l) :
    Calls Try.prog 56 #[.int .i64 m, .slice A l.length c, .int .i64 n] w fun e w' => e = .returned (.int .i64 (meas m l n)) ∧ Ext w w' := by
  go_enter Try.func56, Try.ntmps56
  go_wp2
  go_loopw [0, 11] (fun m' i wr => ∃ k : Nat, k ≤ l.length ∧ i = .int .i64 k ∧ m' = .int .i64 (meas m (l.take k) n) ∧ Ext w wr) (fun _ i _ => l.length - (intOf i).toNat)
  case atStart => exact ⟨0, Nat.zero_le _, rfl, by simp [meas], Ext.refl _⟩
  case round =>
    obtain ⟨k, hk, rfl, rfl, hE⟩ := hrel
    by_cases hlt : k < l.length
    · obtain ⟨x, b, off, HX, rfl, h1, h2, h3, c0, c1, c2, c3⟩ := RdC.get (hr.ext hE) hlt
      go_wp2_with (go_at_call 66; refine (inBeside_c x n _).mono ?_; rintro e w1 ⟨rfl, hE1⟩; obtain ⟨hc1, hf1⟩ := bcell hE1; have hs1 := hE1.size; (try simp only [World.size_alloc] at hs1))
      all_goals
        go_roundw
        case rel => exact ⟨k + 1, by omega, by go_num, by rw [meas_snoc HX.out]; simp [measStep, *], (by repeat (first | exact Ext.refl _ | assumption | refine Ext.trans ?_ (Ext.alloc _ _) | refine Ext.trans ?_ (Ext.drew _) | refine Ext.trans ?_ (Ext.drewN _ _) | refine Ext.trans ?_ (by assumption)))⟩
        case measure => simp [intOf]; omega
    · go_wp2
      go_ret
      exact ⟨by rw [List.take_of_length_le (by omega)]; rfl, hE⟩
end Go.Proofs.Ytllgjgoimnimaaa
