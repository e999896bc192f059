/- The walks of isPlainText, IsProof: the program's and the reference's. -/
import Derived.Test.YtclcclhdmciggaaMkL
namespace Go.Proofs.Ytclcclhdmciggaa
open Go.RowKit
set_option linter.unusedVariables false
theorem within_any (n lo hi : Int) (w : World) : Calls Try.prog 38 #[.int .i64 n, .int .i64 lo, .int .i64 hi] w fun e w' => e = .returned (.bool (inB n lo hi)) ∧ w = w' := by
  unfold inB
  go_enter Try.func38, Try.ntmps38
  go_wp2
  all_goals (go_ret; simp [*]; try omega)
theorem l1In_any (n lo hi : Int) (w : World) : Calls Try.prog 48 #[.int .i64 n, .int .i64 lo, .int .i64 hi] w fun e w' => e = .returned (.bool (inB n lo hi)) ∧ w = w' := by
  unfold inB
  go_enter Try.func48, Try.ntmps48
  go_wp2
  all_goals (go_ret; simp [*]; try omega)
theorem impl_isPlainText (s : ByteArray) (lo hi : Int) (w : World) (hs : s.size ≤ 1048577) :
    Calls Try.prog 46 #[.string s, .int .i64 lo, .int .i64 hi] w fun e w' => e = .returned (.bool (txt s lo hi)) ∧ w = w' := by
  go_enter Try.func46, Try.ntmps46
  go_wp2
  go_loop [7] (fun i => ∃ k : Nat, k ≤ s.size ∧ i = .int .i64 k ∧ (s.data.toList.take k).all chOk = true) (fun i => s.size - (intOf i).toNat)
  case atStart => exact ⟨0, Nat.zero_le _, rfl, rfl⟩
  case round =>
    obtain ⟨k, hk, rfl, ha⟩ := hrel
    have HA := Lib.hid ha; clear ha
    by_cases hlt : k < s.size
    · have bad : chOk s[k] = false → txt s lo hi = false := txt_bad hlt lo hi
      have BAD := Lib.hid bad
      have hsn : chOk s[k] = true → (s.data.toList.take (k + 1)).all chOk = true := fun h => by rw [snocB s k hlt, List.all_append, HA.out]; simp [h]
      have HSN := Lib.hid hsn
      clear bad hsn
      by_cases h32 : (s[k].toNat : Int) = 32
      · have t1 : ((s[k].toNat : Int) != 32) = false := by simp [h32]
        have HC := Lib.hid h32; clear h32
        go_wp2
        go_round
        case rel => exact ⟨k + 1, by omega, by go_num, HSN.out (by have := HC.out; simp [chOk, chN]; omega)⟩
        case measure => simp [intOf]; omega
      · have t1 : ((s[k].toNat : Int) != 32) = true := by simp [h32]
        have HC := Lib.hid h32; clear h32
        go_wp2
        all_goals first
          | (go_ret
             exact ⟨ret_bool (BAD.out (by have := HC.out; simp [chOk, chN]; omega)).symm, rfl⟩)
          | (go_round
             case rel => exact ⟨k + 1, by omega, by go_num, HSN.out (by have := HC.out; simp [chOk, chN]; omega)⟩
             case measure => simp [intOf]; omega)
    · have hkl : k = s.size := by omega
      subst hkl
      clear hlt
      have HV : Hid (txt s lo hi = inB s.size lo hi) := by
        show _ = _
        have h := HA.out
        rw [List.take_of_length_le (by simp)] at h
        simp [txt, h]
      go_wp2_with (go_at_call 38; refine (within_any _ _ _ _).mono ?_; rintro e w' ⟨rfl, rfl⟩)
      go_ret
      exact ⟨ret_bool HV.out.symm, rfl⟩
theorem spec_pfLetters (s : ByteArray) (lo hi : Int) (w : World) (hs : s.size ≤ 1048577) :
    Calls Try.prog 47 #[.string s, .int .i64 lo, .int .i64 hi] w fun e w' => e = .returned (.bool (txt s lo hi)) ∧ w = w' := by
  go_enter Try.func47, Try.ntmps47
  go_wp2
  go_loop [7] (fun i => ∃ k : Nat, k ≤ s.size ∧ i = .int .i64 k ∧ (s.data.toList.take k).all chOk = true) (fun i => s.size - (intOf i).toNat)
  case atStart => exact ⟨0, Nat.zero_le _, rfl, rfl⟩
  case round =>
    obtain ⟨k, hk, rfl, ha⟩ := hrel
    have HA := Lib.hid ha; clear ha
    by_cases hlt : k < s.size
    · have bad : chOk s[k] = false → txt s lo hi = false := txt_bad hlt lo hi
      have BAD := Lib.hid bad
      have hsn : chOk s[k] = true → (s.data.toList.take (k + 1)).all chOk = true := fun h => by rw [snocB s k hlt, List.all_append, HA.out]; simp [h]
      have HSN := Lib.hid hsn
      clear bad hsn
      by_cases h32 : (s[k].toNat : Int) = 32
      · have t1 : ((s[k].toNat : Int) != 32) = false := by simp [h32]
        have HC := Lib.hid h32; clear h32
        go_wp2
        go_round
        case rel => exact ⟨k + 1, by omega, by go_num, HSN.out (by have := HC.out; simp [chOk, chN]; omega)⟩
        case measure => simp [intOf]; omega
      · have t1 : ((s[k].toNat : Int) != 32) = true := by simp [h32]
        have HC := Lib.hid h32; clear h32
        go_wp2
        all_goals first
          | (go_ret
             exact ⟨ret_bool (BAD.out (by have := HC.out; simp [chOk, chN]; omega)).symm, rfl⟩)
          | (go_round
             case rel => exact ⟨k + 1, by omega, by go_num, HSN.out (by have := HC.out; simp [chOk, chN]; omega)⟩
             case measure => simp [intOf]; omega)
    · have hkl : k = s.size := by omega
      subst hkl
      clear hlt
      have HV : Hid (txt s lo hi = inB s.size lo hi) := by
        show _ = _
        have h := HA.out
        rw [List.take_of_length_le (by simp)] at h
        simp [txt, h]
      go_wp2_with (go_at_call 48; refine (l1In_any _ _ _ _).mono ?_; rintro e w' ⟨rfl, rfl⟩)
      go_ret
      exact ⟨ret_bool HV.out.symm, rfl⟩
theorem impl_isProofLine (s : ByteArray) (w : World) (hs : s.size ≤ 1048577) :
    Calls Try.prog 37 #[.string s] w fun e w' => e = .returned (.bool (txt s 0 40)) ∧ w = w' := by
  go_enter Try.func37, Try.ntmps37
  go_wp2_with (go_at_call 46; refine (impl_isPlainText s _ _ _ hs).mono ?_; rintro e w' ⟨rfl, rfl⟩)
  go_ret
  exact ⟨rfl, rfl⟩
theorem impl_IsProof0 (A : Option Addr) (c : Nat) (l : List ByteArray) (lo hi : Nat) (w : World) (hl : l.length ≤ 1048577) (hb : ∀ s ∈ l, s.size ≤ 1048577) (hr : RdT w lo hi A l) :
    Calls Try.prog 24 #[.slice A l.length c] w fun e w' => e = .returned (.bool (prf l)) ∧ w = w' := by
  have HB := Lib.hid hb; clear hb
  go_enter Try.func24, Try.ntmps24
  go_wp2
  go_loop [7] (fun i => ∃ k : Nat, k ≤ l.length ∧ i = .int .i64 k ∧ (l.take k).all (fun s => txt s 0 40) = true) (fun i => l.length - (intOf i).toNat)
  case atStart => exact ⟨0, Nat.zero_le _, rfl, rfl⟩
  case round =>
    obtain ⟨k, hk, rfl, ha⟩ := hrel
    have HA := Lib.hid ha; clear ha
    by_cases hlt : k < l.length
    · obtain ⟨s, b, off, HX, rfl, h3, c0⟩ := RdT.get hr hlt
      have hs := HB.out s (List.mem_of_getElem? HX.out)
      cases t1 : txt s 0 40
      · go_wp2_with (go_at_call 37; refine (impl_isProofLine s _ hs).mono ?_; rintro e w' ⟨rfl, rfl⟩)
        go_ret
        exact ⟨ret_bool (by rw [prf, all_no HX.out t1]; rfl), rfl⟩
      · go_wp2_with (go_at_call 37; refine (impl_isProofLine s _ hs).mono ?_; rintro e w' ⟨rfl, rfl⟩)
        go_round
        case rel => exact ⟨k + 1, by omega, by go_num, by rw [all_take _ HX.out, HA.out, t1]; rfl⟩
        case measure => simp [intOf]; omega
    · have hkl : k = l.length := by omega
      subst hkl
      clear hlt
      have HV : Hid (prf l = inB l.length 1 12) := by
        show _ = _
        have h := HA.out
        rw [List.take_of_length_le (Nat.le_refl _)] at h
        simp [prf, h]
      go_wp2_with (go_at_call 38; refine (within_any _ _ _ _).mono ?_; rintro e w' ⟨rfl, rfl⟩)
      go_ret
      exact ⟨ret_bool HV.out.symm, rfl⟩
theorem spec_pfGood (A : Option Addr) (c : Nat) (l : List ByteArray) (lo hi : Nat) (w : World) (hl : l.length ≤ 1048577) (hb : ∀ s ∈ l, s.size ≤ 1048577) (hr : RdT w lo hi A l) :
    Calls Try.prog 36 #[.slice A l.length c] w fun e w' => e = .returned (.bool (prf l)) ∧ w = w' := by
  have HB := Lib.hid hb; clear hb
  go_enter Try.func36, Try.ntmps36
  go_wp2
  go_loop [7] (fun i => ∃ k : Nat, k ≤ l.length ∧ i = .int .i64 k ∧ (l.take k).all (fun s => txt s 0 40) = true) (fun i => l.length - (intOf i).toNat)
  case atStart => exact ⟨0, Nat.zero_le _, rfl, rfl⟩
  case round =>
    obtain ⟨k, hk, rfl, ha⟩ := hrel
    have HA := Lib.hid ha; clear ha
    by_cases hlt : k < l.length
    · obtain ⟨s, b, off, HX, rfl, h3, c0⟩ := RdT.get hr hlt
      have hs := HB.out s (List.mem_of_getElem? HX.out)
      cases t1 : txt s 0 40
      · go_wp2_with (go_at_call 47; refine (spec_pfLetters s _ _ _ hs).mono ?_; rintro e w' ⟨rfl, rfl⟩)
        go_ret
        exact ⟨ret_bool (by rw [prf, all_no HX.out t1]; rfl), rfl⟩
      · go_wp2_with (go_at_call 47; refine (spec_pfLetters s _ _ _ hs).mono ?_; rintro e w' ⟨rfl, rfl⟩)
        go_round
        case rel => exact ⟨k + 1, by omega, by go_num, by rw [all_take _ HX.out, HA.out, t1]; rfl⟩
        case measure => simp [intOf]; omega
    · have hkl : k = l.length := by omega
      subst hkl
      clear hlt
      have HV : Hid (prf l = inB l.length 1 12) := by
        show _ = _
        have h := HA.out
        rw [List.take_of_length_le (Nat.le_refl _)] at h
        simp [prf, h]
      go_wp2_with (go_at_call 48; refine (l1In_any _ _ _ _).mono ?_; rintro e w' ⟨rfl, rfl⟩)
      go_ret
      exact ⟨ret_bool HV.out.symm, rfl⟩
theorem impl_IsProof (A : Option Addr) (c : Nat) (l : List ByteArray) (lo hi : Nat) (w : World) (hl : l.length ≤ 1048577) (hb : ∀ s ∈ l, s.size ≤ 1048577) (hr : RdT w lo hi A l) :
    Calls Try.prog 24 #[.slice A l.length c] w fun e w' => e = .returned (.bool (prf l)) ∧ Ext w w' := (impl_IsProof0 A c l lo hi w hl hb hr).mono fun _ _ h => ⟨h.1, h.2 ▸ Ext.refl _⟩
theorem spec_IsProof (A : Option Addr) (c : Nat) (l : List ByteArray) (lo hi : Nat) (w : World) (hl : l.length ≤ 1048577) (hb : ∀ s ∈ l, s.size ≤ 1048577) (hr : RdT w lo hi A l) :
    Calls Try.prog 23 #[.slice A l.length c] w fun e w' => e = .returned (.bool (prf l)) ∧ Ext w w' := by
  go_enter Try.func23, Try.ntmps23
  go_wp2_with (go_at_call 36; refine (spec_pfGood A c l lo hi _ hl hb hr).mono ?_; rintro e w' ⟨rfl, rfl⟩)
  go_ret
  exact ⟨rfl, (by repeat (first | exact Ext.refl _ | assumption | refine Ext.trans ?_ (Ext.alloc _ _) | refine Ext.trans ?_ (Ext.drew _) | refine Ext.trans ?_ (Ext.drewN _ _) | refine Ext.trans ?_ (by assumption)))⟩
end Go.Proofs.Ytclcclhdmciggaa
