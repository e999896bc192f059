/- The walks of IsPattern and of lists of patterns. -/
import Derived.Test.YtnkkpphjahpadaaHyA
import Derived.Test.YtnkkpphjahpadaaIter
namespace Go.Proofs.Ytnkkpphjahpadaa
open Go.RowKit
set_option linter.unusedVariables false
theorem impl_IsPattern (p : ByteArray) (w : World) (hs : p.size ≤ 1048577) : Calls Try.prog 125 #[.string p] w fun e w' => e = .returned (.bool (patB p)) ∧ Ext w w' := by
  go_enter Try.func125, Try.ntmps125
  go_wp2_with fail
  refine (impl_readPattern p _ hs).mono ?_
  rintro e w3 ⟨A3, c3, V3, rfl, _, _, _, hE3⟩
  go_wp2_with fail
  go_ret
  exact ⟨rfl, hE3⟩
theorem spec_IsPattern (p : ByteArray) (w : World) (hs : p.size ≤ 1048577) : Calls Try.prog 121 #[.string p] w fun e w' => e = .returned (.bool (patB p)) ∧ Ext w w' := by
  go_enter Try.func121, Try.ntmps121
  go_wp2_with fail
  refine (spec_hyPattern p _ hs).mono ?_
  rintro e w3 ⟨A3, c3, V3, rfl, _, _, _, hE3⟩
  go_wp2_with fail
  go_ret
  exact ⟨rfl, hE3⟩
theorem impl_arePatterns (A : Option Addr) (c : Nat) (ps : List ByteArray) (lo hi : Nat) (w : World) (hl : ps.length ≤ 1048577) (hb : ∀ s ∈ ps, s.size ≤ 1048577) (hr : RdT w lo hi A ps) :
    Calls Try.prog 95 #[.slice A ps.length c] w fun e w' => e = .returned (.bool (patsB ps)) ∧ Ext w w' := by
  have HB := Lib.hid hb; clear hb
  go_enter Try.func95, Try.ntmps95
  go_wp2
  go_loopw [7] (fun i wr => ∃ k : Nat, k ≤ ps.length ∧ i = .int .i64 k ∧ (ps.take k).all patB = true ∧ Ext w wr) (fun i _ => ps.length - (intOf i).toNat)
  case atStart => exact ⟨0, Nat.zero_le _, rfl, rfl, Ext.refl _⟩
  case round =>
    obtain ⟨k, hk, rfl, ha, hE⟩ := hrel
    have HA := Lib.hid ha; clear ha
    by_cases hlt : k < ps.length
    · obtain ⟨s, b, off, HX, rfl, h3, c0⟩ := RdT.get (hr.ext hE) hlt
      have hs := HB.out s (List.mem_of_getElem? HX.out)
      cases t1 : patB s
      · go_wp2_with (go_at_call 125; refine (impl_IsPattern s _ hs).mono ?_; rintro e w1 ⟨rfl, hE1⟩; obtain ⟨hc1, hf1⟩ := bcell hE1; have hs1 := hE1.size; (try simp only [World.size_alloc] at hs1))
        go_ret
        exact ⟨ret_bool (by rw [patsB, all_no HX.out t1]; rfl), (by repeat (first | exact Ext.refl _ | assumption | refine Ext.trans ?_ (Ext.alloc _ _) | refine Ext.trans ?_ (Ext.drew _) | refine Ext.trans ?_ (Ext.drewN _ _) | refine Ext.trans ?_ (by assumption)))⟩
      · go_wp2_with (go_at_call 125; refine (impl_IsPattern s _ hs).mono ?_; rintro e w1 ⟨rfl, hE1⟩; obtain ⟨hc1, hf1⟩ := bcell hE1; have hs1 := hE1.size; (try simp only [World.size_alloc] at hs1))
        go_roundw
        case rel => exact ⟨k + 1, by omega, by go_num, by rw [all_take _ HX.out, HA.out, t1]; rfl, (by repeat (first | exact Ext.refl _ | assumption | refine Ext.trans ?_ (Ext.alloc _ _) | refine Ext.trans ?_ (Ext.drew _) | refine Ext.trans ?_ (Ext.drewN _ _) | refine Ext.trans ?_ (by assumption)))⟩
        case measure => simp [intOf]; omega
    · have hkl : k = ps.length := by omega
      subst hkl
      clear hlt
      have HV : Hid (patsB ps = decide ((ps.length : Int) ≤ 20)) := by
        show _ = _
        have h := HA.out
        rw [List.take_of_length_le (Nat.le_refl _)] at h
        rw [patsB, h, Bool.true_and]
      go_wp2
      go_ret
      exact ⟨ret_bool (by rw [HV.out]), hE⟩
theorem spec_hyGood (A : Option Addr) (c : Nat) (ps : List ByteArray) (lo hi : Nat) (w : World) (hl : ps.length ≤ 1048577) (hb : ∀ s ∈ ps, s.size ≤ 1048577) (hr : RdT w lo hi A ps) :
    Calls Try.prog 92 #[.slice A ps.length c, .slice none 0 0] w fun e w' => e = .returned (.bool (patsB ps)) ∧ Ext w w' := by
  have HB := Lib.hid hb; clear hb
  go_enter Try.func92, Try.ntmps92
  go_wp2
  go_loopw [15] (fun i wr => ∃ k : Nat, k ≤ ps.length ∧ i = .int .i64 k ∧ (ps.take k).all patB = true ∧ Ext w wr) (fun i _ => ps.length - (intOf i).toNat)
  case atStart => exact ⟨0, Nat.zero_le _, rfl, rfl, Ext.refl _⟩
  case round =>
    obtain ⟨k, hk, rfl, ha, hE⟩ := hrel
    have HA := Lib.hid ha; clear ha
    by_cases hlt : k < ps.length
    · obtain ⟨s, b, off, HX, rfl, h3, c0⟩ := RdT.get (hr.ext hE) hlt
      have hs := HB.out s (List.mem_of_getElem? HX.out)
      cases t1 : patB s
      · go_wp2_with (go_at_call 121; refine (spec_IsPattern s _ hs).mono ?_; rintro e w1 ⟨rfl, hE1⟩; obtain ⟨hc1, hf1⟩ := bcell hE1; have hs1 := hE1.size; (try simp only [World.size_alloc] at hs1))
        go_ret
        exact ⟨ret_bool (by rw [patsB, all_no HX.out t1]; rfl), (by repeat (first | exact Ext.refl _ | assumption | refine Ext.trans ?_ (Ext.alloc _ _) | refine Ext.trans ?_ (Ext.drew _) | refine Ext.trans ?_ (Ext.drewN _ _) | refine Ext.trans ?_ (by assumption)))⟩
      · go_wp2_with (go_at_call 121; refine (spec_IsPattern s _ hs).mono ?_; rintro e w1 ⟨rfl, hE1⟩; obtain ⟨hc1, hf1⟩ := bcell hE1; have hs1 := hE1.size; (try simp only [World.size_alloc] at hs1))
        go_roundw
        case rel => exact ⟨k + 1, by omega, by go_num, by rw [all_take _ HX.out, HA.out, t1]; rfl, (by repeat (first | exact Ext.refl _ | assumption | refine Ext.trans ?_ (Ext.alloc _ _) | refine Ext.trans ?_ (Ext.drew _) | refine Ext.trans ?_ (Ext.drewN _ _) | refine Ext.trans ?_ (by assumption)))⟩
        case measure => simp [intOf]; omega
    · have hkl : k = ps.length := by omega
      subst hkl
      clear hlt
      have HV : Hid (patsB ps = decide ((ps.length : Int) ≤ 20)) := by
        show _ = _
        have h := HA.out
        rw [List.take_of_length_le (Nat.le_refl _)] at h
        rw [patsB, h, Bool.true_and]
      go_wp2
      go_loopw [25] (fun i wr => i = .int .i64 0 ∧ Ext w wr) (fun _ _ => 0)
      case atStart => exact ⟨rfl, hE⟩
      case round =>
        obtain ⟨rfl, hE2⟩ := hrel
        by_cases h20 : (ps.length : Int) ≤ 20
        · have HV2 : Hid (patsB ps = true) := by show _ = _; rw [HV.out]; exact decide_eq_true h20
          go_wp2
          go_ret
          exact ⟨ret_bool (by rw [HV2.out]), hE2⟩
        · have HV2 : Hid (patsB ps = false) := by show _ = _; rw [HV.out]; exact decide_eq_false h20
          go_wp2
          go_ret
          exact ⟨ret_bool (by rw [HV2.out]), hE2⟩
theorem most_pair (a b : Int) (w : World) : Calls Try.prog 82 #[.int .i64 a, .int .i64 b] w fun e w' => e = .returned (.int .i64 (if a < b then b else a)) ∧ w = w' := by
  by_cases h : a < b
  · rw [if_pos h]
    go_enter Try.func82, Try.ntmps82
    go_wp2
    go_ret
    exact ⟨rfl, rfl⟩
  · rw [if_neg h]
    by_cases h2 : b < a
    · clear h
      go_enter Try.func82, Try.ntmps82
      go_wp2
      go_ret
      exact ⟨rfl, rfl⟩
    · obtain rfl : a = b := by omega
      go_enter Try.func82, Try.ntmps82
      go_wp2
      go_ret
      exact ⟨rfl, rfl⟩
end Go.Proofs.Ytnkkpphjahpadaa
