/- The walks that MarkText comes to: the size and the copy of a mark; is it a mark? -/
import Derived.Test.YtclcclhdmciggaaDoorProg
import Derived.Test.YtclcclhdmciggaaDoorMkP
import Derived.Deep.RegionHeld3
import Derived.Outline
namespace Go.Proofs.YtclcclhdmciggaaDoor
open Go.RowKit
set_option linter.unusedVariables false
theorem szMark_yes (m : Mrk) (left : Int) (w : World) (h0 : 0 ≤ left) (h1 : left ≤ 1048576) (h : (m.text.size : Int) ≤ left) :
    Calls Tryd.prog 4 #[.agg #[.int .i64 m.line, .int .i64 m.place, .int .i64 m.kind, .string m.text], .int .i64 left] w fun e w' => e = .returned (.int .i64 (left - m.text.size)) ∧ Ext w w' := by
  go_enter Tryd.func4, Tryd.ntmps4
  go_wp2
  go_ret
  exact ⟨rfl, (by repeat (first | exact Ext.refl _ | assumption | refine Ext.trans ?_ (Ext.alloc _ _) | refine Ext.trans ?_ (Ext.drew _) | refine Ext.trans ?_ (Ext.drewN _ _) | refine Ext.trans ?_ (by assumption)))⟩
theorem szMark_no (m : Mrk) (left : Int) (w : World) (h0 : 0 ≤ left) (h1 : left ≤ 1048576) (h2 : m.text.size ≤ maxLen) (h : left < (m.text.size : Int)) :
    Calls Tryd.prog 4 #[.agg #[.int .i64 m.line, .int .i64 m.place, .int .i64 m.kind, .string m.text], .int .i64 left] w fun e w' => e = .returned (.int .i64 (-1)) ∧ Ext w w' := by
  unfold maxLen at h2
  go_enter Tryd.func4, Tryd.ntmps4
  go_wp2
  go_ret
  exact ⟨rfl, (by repeat (first | exact Ext.refl _ | assumption | refine Ext.trans ?_ (Ext.alloc _ _) | refine Ext.trans ?_ (Ext.drew _) | refine Ext.trans ?_ (Ext.drewN _ _) | refine Ext.trans ?_ (by assumption)))⟩
theorem toMark_any (x : Mrk) (w : World) : Calls Tryd.prog 6 #[.agg #[.int .i64 x.line, .int .i64 x.place, .int .i64 x.kind, .string x.text]] w fun e w' => e = .returned (.agg #[.int .i64 x.line, .int .i64 x.place, .int .i64 x.kind, .string x.text]) ∧ Ext w w' := by
  go_enter Tryd.func6, Tryd.ntmps6
  go_wp2
  exact bodyPost_ret (v := .agg #[.int .i64 x.line, .int .i64 x.place, .int .i64 x.kind, .string x.text]) (by simp [results, Tryd.results6, go_sem]) rfl ⟨rfl, (by repeat (first | exact Ext.refl _ | assumption | refine Ext.trans ?_ (Ext.alloc _ _) | refine Ext.trans ?_ (Ext.drew _) | refine Ext.trans ?_ (Ext.drewN _ _) | refine Ext.trans ?_ (by assumption)))⟩
theorem within_any (n lo hi : Int) (w : World) : Calls Tryd.prog 15 #[.int .i64 n, .int .i64 lo, .int .i64 hi] w fun e w' => e = .returned (.bool (inB n lo hi)) ∧ w = w' := by
  unfold inB
  go_enter Tryd.func15, Tryd.ntmps15
  go_wp2
  all_goals (go_ret; simp [*]; try omega)
theorem l1In_any (n lo hi : Int) (w : World) : Calls Tryd.prog 12 #[.int .i64 n, .int .i64 lo, .int .i64 hi] w fun e w' => e = .returned (.bool (inB n lo hi)) ∧ w = w' := by
  unfold inB
  go_enter Tryd.func12, Tryd.ntmps12
  go_wp2
  all_goals (go_ret; simp [*]; try omega)
theorem impl_isPlainText (s : ByteArray) (lo hi : Int) (w : World) (hs : s.size ≤ 1048577) :
    Calls Tryd.prog 16 #[.string s, .int .i64 lo, .int .i64 hi] w fun e w' => e = .returned (.bool (txt s lo hi)) ∧ w = w' := by
  go_enter Tryd.func16, Tryd.ntmps16
  go_wp2
  go_loop [7] (fun i => ∃ k : Nat, k ≤ s.size ∧ i = .int .i64 k ∧ (s.data.toList.take k).all chOk = true) (fun i => s.size - (intOf i).toNat)
  case atStart => exact ⟨0, Nat.zero_le _, rfl, rfl⟩
  case round =>
    obtain ⟨k, hk, rfl, ha⟩ := hrel
    have HA := Lib.hid ha; clear ha
    by_cases hlt : k < s.size
    · have bad : chOk s[k] = false → txt s lo hi = false := txt_bad hlt lo hi
      have BAD := Lib.hid bad
      have hsn : chOk s[k] = true → (s.data.toList.take (k + 1)).all chOk = true := fun h => by rw [snocB s k hlt, List.all_append, HA.out]; simp [h]
      have HSN := Lib.hid hsn
      clear bad hsn
      by_cases h32 : (s[k].toNat : Int) = 32
      · have t1 : ((s[k].toNat : Int) != 32) = false := by simp [h32]
        have HC := Lib.hid h32; clear h32
        go_wp2
        go_round
        case rel => exact ⟨k + 1, by omega, by go_num, HSN.out (by have := HC.out; simp [chOk, chN]; omega)⟩
        case measure => simp [intOf]; omega
      · have t1 : ((s[k].toNat : Int) != 32) = true := by simp [h32]
        have HC := Lib.hid h32; clear h32
        go_wp2
        all_goals first
          | (go_ret
             exact ⟨ret_bool (BAD.out (by have := HC.out; simp [chOk, chN]; omega)).symm, rfl⟩)
          | (go_round
             case rel => exact ⟨k + 1, by omega, by go_num, HSN.out (by have := HC.out; simp [chOk, chN]; omega)⟩
             case measure => simp [intOf]; omega)
    · have hkl : k = s.size := by omega
      subst hkl
      clear hlt
      have HV : Hid (txt s lo hi = inB s.size lo hi) := by
        show _ = _
        have h := HA.out
        rw [List.take_of_length_le (by simp)] at h
        simp [txt, h]
      go_wp2_with (go_at_call 15; refine (within_any _ _ _ _).mono ?_; rintro e w' ⟨rfl, rfl⟩)
      go_ret
      exact ⟨ret_bool HV.out.symm, rfl⟩
theorem spec_pfLetters (s : ByteArray) (lo hi : Int) (w : World) (hs : s.size ≤ 1048577) :
    Calls Tryd.prog 13 #[.string s, .int .i64 lo, .int .i64 hi] w fun e w' => e = .returned (.bool (txt s lo hi)) ∧ w = w' := by
  go_enter Tryd.func13, Tryd.ntmps13
  go_wp2
  go_loop [7] (fun i => ∃ k : Nat, k ≤ s.size ∧ i = .int .i64 k ∧ (s.data.toList.take k).all chOk = true) (fun i => s.size - (intOf i).toNat)
  case atStart => exact ⟨0, Nat.zero_le _, rfl, rfl⟩
  case round =>
    obtain ⟨k, hk, rfl, ha⟩ := hrel
    have HA := Lib.hid ha; clear ha
    by_cases hlt : k < s.size
    · have bad : chOk s[k] = false → txt s lo hi = false := txt_bad hlt lo hi
      have BAD := Lib.hid bad
      have hsn : chOk s[k] = true → (s.data.toList.take (k + 1)).all chOk = true := fun h => by rw [snocB s k hlt, List.all_append, HA.out]; simp [h]
      have HSN := Lib.hid hsn
      clear bad hsn
      by_cases h32 : (s[k].toNat : Int) = 32
      · have t1 : ((s[k].toNat : Int) != 32) = false := by simp [h32]
        have HC := Lib.hid h32; clear h32
        go_wp2
        go_round
        case rel => exact ⟨k + 1, by omega, by go_num, HSN.out (by have := HC.out; simp [chOk, chN]; omega)⟩
        case measure => simp [intOf]; omega
      · have t1 : ((s[k].toNat : Int) != 32) = true := by simp [h32]
        have HC := Lib.hid h32; clear h32
        go_wp2
        all_goals first
          | (go_ret
             exact ⟨ret_bool (BAD.out (by have := HC.out; simp [chOk, chN]; omega)).symm, rfl⟩)
          | (go_round
             case rel => exact ⟨k + 1, by omega, by go_num, HSN.out (by have := HC.out; simp [chOk, chN]; omega)⟩
             case measure => simp [intOf]; omega)
    · have hkl : k = s.size := by omega
      subst hkl
      clear hlt
      have HV : Hid (txt s lo hi = inB s.size lo hi) := by
        show _ = _
        have h := HA.out
        rw [List.take_of_length_le (by simp)] at h
        simp [txt, h]
      go_wp2_with (go_at_call 12; refine (l1In_any _ _ _ _).mono ?_; rintro e w' ⟨rfl, rfl⟩)
      go_ret
      exact ⟨ret_bool HV.out.symm, rfl⟩
theorem impl_isMarkAlone (m : Mrk) (w : World) (hs : m.text.size ≤ 1048577) :
    Calls Tryd.prog 10 #[.agg #[.int .i64 m.line, .int .i64 m.place, .int .i64 m.kind, .string m.text]] w fun e w' => e = .returned (.bool (mkOk m)) ∧ Ext w w' := by
  obtain ⟨line, place, kind, text⟩ := m
  simp only at hs
  cases h1 : inB line 0 11
  · have hv : mkOk ⟨line, place, kind, text⟩ = false := by simp [mkOk, h1]
    rw [hv]; clear hv
    go_enter Tryd.func10, Tryd.ntmps10
    go_wp2_with (go_at_call 15; refine (within_any _ _ _ _).mono ?_; rintro e w' ⟨rfl, rfl⟩)
    go_ret
    exact ⟨rfl, (by repeat (first | exact Ext.refl _ | assumption | refine Ext.trans ?_ (Ext.alloc _ _) | refine Ext.trans ?_ (Ext.drew _) | refine Ext.trans ?_ (Ext.drewN _ _) | refine Ext.trans ?_ (by assumption)))⟩
  cases h2 : inB place 0 40
  · have hv : mkOk ⟨line, place, kind, text⟩ = false := by simp [mkOk, h2]
    rw [hv]; clear hv
    go_enter Tryd.func10, Tryd.ntmps10
    go_wp2_with (go_at_call 15; refine (within_any _ _ _ _).mono ?_; rintro e w' ⟨rfl, rfl⟩)
    go_ret
    exact ⟨rfl, (by repeat (first | exact Ext.refl _ | assumption | refine Ext.trans ?_ (Ext.alloc _ _) | refine Ext.trans ?_ (Ext.drew _) | refine Ext.trans ?_ (Ext.drewN _ _) | refine Ext.trans ?_ (by assumption)))⟩
  by_cases k1 : kind = 1
  · subst k1
    have hv : mkOk ⟨line, place, 1, text⟩ = text.toList.isEmpty := by simp [mkOk, h1, h2]
    rw [hv]; clear hv
    go_enter Tryd.func10, Tryd.ntmps10
    go_wp2_with (go_at_call 15; refine (within_any _ _ _ _).mono ?_; rintro e w' ⟨rfl, rfl⟩)
    go_ret
    exact ⟨rfl, (by repeat (first | exact Ext.refl _ | assumption | refine Ext.trans ?_ (Ext.alloc _ _) | refine Ext.trans ?_ (Ext.drew _) | refine Ext.trans ?_ (Ext.drewN _ _) | refine Ext.trans ?_ (by assumption)))⟩
  by_cases k4 : kind = 4
  · subst k4
    have hv : mkOk ⟨line, place, 4, text⟩ = text.toList.isEmpty := by simp [mkOk, h1, h2]
    rw [hv]; clear hv k1
    go_enter Tryd.func10, Tryd.ntmps10
    go_wp2_with (go_at_call 15; refine (within_any _ _ _ _).mono ?_; rintro e w' ⟨rfl, rfl⟩)
    go_ret
    exact ⟨rfl, (by repeat (first | exact Ext.refl _ | assumption | refine Ext.trans ?_ (Ext.alloc _ _) | refine Ext.trans ?_ (Ext.drew _) | refine Ext.trans ?_ (Ext.drewN _ _) | refine Ext.trans ?_ (by assumption)))⟩
  by_cases k2 : kind = 2
  · subst k2
    have hv : mkOk ⟨line, place, 2, text⟩ = txt text 1 10 := by simp [mkOk, h1, h2]
    rw [hv]; clear hv k1 k4
    go_enter Tryd.func10, Tryd.ntmps10
    go_wp2_with (first | (go_at_call 15; refine (within_any _ _ _ _).mono ?_; rintro e w' ⟨rfl, rfl⟩) | (go_at_call 16; refine (impl_isPlainText text _ _ _ hs).mono ?_; rintro e w' ⟨rfl, rfl⟩))
    go_ret
    exact ⟨rfl, (by repeat (first | exact Ext.refl _ | assumption | refine Ext.trans ?_ (Ext.alloc _ _) | refine Ext.trans ?_ (Ext.drew _) | refine Ext.trans ?_ (Ext.drewN _ _) | refine Ext.trans ?_ (by assumption)))⟩
  by_cases k3 : kind = 3
  · subst k3
    have hv : mkOk ⟨line, place, 3, text⟩ = txt text 1 10 := by simp [mkOk, h1, h2]
    rw [hv]; clear hv k1 k4 k2
    go_enter Tryd.func10, Tryd.ntmps10
    go_wp2_with (first | (go_at_call 15; refine (within_any _ _ _ _).mono ?_; rintro e w' ⟨rfl, rfl⟩) | (go_at_call 16; refine (impl_isPlainText text _ _ _ hs).mono ?_; rintro e w' ⟨rfl, rfl⟩))
    go_ret
    exact ⟨rfl, (by repeat (first | exact Ext.refl _ | assumption | refine Ext.trans ?_ (Ext.alloc _ _) | refine Ext.trans ?_ (Ext.drew _) | refine Ext.trans ?_ (Ext.drewN _ _) | refine Ext.trans ?_ (by assumption)))⟩
  · have hv : mkOk ⟨line, place, kind, text⟩ = false := by simp [mkOk, k1, k2, k3, k4]
    rw [hv]; clear hv
    have t1 : (kind == 1) = false := by simpa using k1
    have t2 : (kind == 2) = false := by simpa using k2
    have t3 : (kind == 3) = false := by simpa using k3
    have t4 : (kind == 4) = false := by simpa using k4
    clear k1 k2 k3 k4
    go_enter Tryd.func10, Tryd.ntmps10
    go_wp2_with (go_at_call 15; refine (within_any _ _ _ _).mono ?_; rintro e w' ⟨rfl, rfl⟩)
    go_ret
    exact ⟨rfl, (by repeat (first | exact Ext.refl _ | assumption | refine Ext.trans ?_ (Ext.alloc _ _) | refine Ext.trans ?_ (Ext.drew _) | refine Ext.trans ?_ (Ext.drewN _ _) | refine Ext.trans ?_ (by assumption)))⟩
theorem spec_pfMark (m : Mrk) (w : World) (hs : m.text.size ≤ 1048577) :
    Calls Tryd.prog 8 #[.agg #[.int .i64 m.line, .int .i64 m.place, .int .i64 m.kind, .string m.text]] w fun e w' => e = .returned (.bool (mkOk m)) ∧ Ext w w' := by
  obtain ⟨line, place, kind, text⟩ := m
  simp only at hs
  cases h1 : inB line 0 11
  · have hv : mkOk ⟨line, place, kind, text⟩ = false := by simp [mkOk, h1]
    rw [hv]; clear hv
    go_enter Tryd.func8, Tryd.ntmps8
    go_wp2_with (go_at_call 12; refine (l1In_any _ _ _ _).mono ?_; rintro e w' ⟨rfl, rfl⟩)
    go_ret
    exact ⟨rfl, (by repeat (first | exact Ext.refl _ | assumption | refine Ext.trans ?_ (Ext.alloc _ _) | refine Ext.trans ?_ (Ext.drew _) | refine Ext.trans ?_ (Ext.drewN _ _) | refine Ext.trans ?_ (by assumption)))⟩
  cases h2 : inB place 0 40
  · have hv : mkOk ⟨line, place, kind, text⟩ = false := by simp [mkOk, h2]
    rw [hv]; clear hv
    go_enter Tryd.func8, Tryd.ntmps8
    go_wp2_with (go_at_call 12; refine (l1In_any _ _ _ _).mono ?_; rintro e w' ⟨rfl, rfl⟩)
    go_ret
    exact ⟨rfl, (by repeat (first | exact Ext.refl _ | assumption | refine Ext.trans ?_ (Ext.alloc _ _) | refine Ext.trans ?_ (Ext.drew _) | refine Ext.trans ?_ (Ext.drewN _ _) | refine Ext.trans ?_ (by assumption)))⟩
  by_cases k1 : kind = 1
  · subst k1
    have hv : mkOk ⟨line, place, 1, text⟩ = text.toList.isEmpty := by simp [mkOk, h1, h2]
    rw [hv]; clear hv
    go_enter Tryd.func8, Tryd.ntmps8
    go_wp2_with (go_at_call 12; refine (l1In_any _ _ _ _).mono ?_; rintro e w' ⟨rfl, rfl⟩)
    go_ret
    exact ⟨rfl, (by repeat (first | exact Ext.refl _ | assumption | refine Ext.trans ?_ (Ext.alloc _ _) | refine Ext.trans ?_ (Ext.drew _) | refine Ext.trans ?_ (Ext.drewN _ _) | refine Ext.trans ?_ (by assumption)))⟩
  by_cases k4 : kind = 4
  · subst k4
    have hv : mkOk ⟨line, place, 4, text⟩ = text.toList.isEmpty := by simp [mkOk, h1, h2]
    rw [hv]; clear hv k1
    go_enter Tryd.func8, Tryd.ntmps8
    go_wp2_with (go_at_call 12; refine (l1In_any _ _ _ _).mono ?_; rintro e w' ⟨rfl, rfl⟩)
    go_ret
    exact ⟨rfl, (by repeat (first | exact Ext.refl _ | assumption | refine Ext.trans ?_ (Ext.alloc _ _) | refine Ext.trans ?_ (Ext.drew _) | refine Ext.trans ?_ (Ext.drewN _ _) | refine Ext.trans ?_ (by assumption)))⟩
  by_cases k2 : kind = 2
  · subst k2
    have hv : mkOk ⟨line, place, 2, text⟩ = txt text 1 10 := by simp [mkOk, h1, h2]
    rw [hv]; clear hv k1 k4
    go_enter Tryd.func8, Tryd.ntmps8
    go_wp2_with (first | (go_at_call 12; refine (l1In_any _ _ _ _).mono ?_; rintro e w' ⟨rfl, rfl⟩) | (go_at_call 13; refine (spec_pfLetters text _ _ _ hs).mono ?_; rintro e w' ⟨rfl, rfl⟩))
    go_ret
    exact ⟨rfl, (by repeat (first | exact Ext.refl _ | assumption | refine Ext.trans ?_ (Ext.alloc _ _) | refine Ext.trans ?_ (Ext.drew _) | refine Ext.trans ?_ (Ext.drewN _ _) | refine Ext.trans ?_ (by assumption)))⟩
  by_cases k3 : kind = 3
  · subst k3
    have hv : mkOk ⟨line, place, 3, text⟩ = txt text 1 10 := by simp [mkOk, h1, h2]
    rw [hv]; clear hv k1 k4 k2
    go_enter Tryd.func8, Tryd.ntmps8
    go_wp2_with (first | (go_at_call 12; refine (l1In_any _ _ _ _).mono ?_; rintro e w' ⟨rfl, rfl⟩) | (go_at_call 13; refine (spec_pfLetters text _ _ _ hs).mono ?_; rintro e w' ⟨rfl, rfl⟩))
    go_ret
    exact ⟨rfl, (by repeat (first | exact Ext.refl _ | assumption | refine Ext.trans ?_ (Ext.alloc _ _) | refine Ext.trans ?_ (Ext.drew _) | refine Ext.trans ?_ (Ext.drewN _ _) | refine Ext.trans ?_ (by assumption)))⟩
  · have hv : mkOk ⟨line, place, kind, text⟩ = false := by simp [mkOk, k1, k2, k3, k4]
    rw [hv]; clear hv
    have t1 : (kind == 1) = false := by simpa using k1
    have t2 : (kind == 2) = false := by simpa using k2
    have t3 : (kind == 3) = false := by simpa using k3
    have t4 : (kind == 4) = false := by simpa using k4
    clear k1 k2 k3 k4
    go_enter Tryd.func8, Tryd.ntmps8
    go_wp2_with (go_at_call 12; refine (l1In_any _ _ _ _).mono ?_; rintro e w' ⟨rfl, rfl⟩)
    go_ret
    exact ⟨rfl, (by repeat (first | exact Ext.refl _ | assumption | refine Ext.trans ?_ (Ext.alloc _ _) | refine Ext.trans ?_ (Ext.drew _) | refine Ext.trans ?_ (Ext.drewN _ _) | refine Ext.trans ?_ (by assumption)))⟩
end Go.Proofs.YtclcclhdmciggaaDoor
