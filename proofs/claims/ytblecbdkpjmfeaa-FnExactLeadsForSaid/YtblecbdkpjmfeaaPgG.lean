/- The walks of LeadsFor. -/
import Derived.Test.YtblecbdkpjmfeaaPgF
namespace Go.Proofs.Ytblecbdkpjmfeaa
open Go.RowKit
theorem leP_bad {l : List SetL} {d : Int} (h : (paged l d && (decide (0 ≤ d - deep l) && !(decide (l.length = 1) && decide (0 < d - deep l)))) = false) : leP l d = ([], false) := by simp only [leP, h]; rfl
theorem leP_good {l : List SetL} {d : Int} (h : paged l d = true) (h2 : (decide (0 ≤ d - deep l) && !(decide (l.length = 1) && decide (0 < d - deep l))) = true) : leP l d = (leadL (d - deep l) ((l.length : Int) - 1) (l.length - 1), true) := by simp only [leP, h, h2]; rfl
theorem impl_LeadsFor (A : Option Addr) (c : Nat) (l : List SetL) (d : Int) (lo hi : Nat) (w : World) (hl : l.length ≤ 1048576) (hq : InRS l) (hr : RdS w lo hi A l) :
    Calls Try.prog 29 #[.slice A l.length c, .int .i64 d] w (RetI2 w (leP l d)) := by
  cases h : paged l d
  · rw [leP_bad (by simp [h])]
    go_enter Try.func29, Try.ntmps29
    go_wp2_with (first | (go_at_call 53; refine (impl_depthOf A c l.length l lo hi _ rfl (by omega) hr).mono ?_; rintro e w1 ⟨rfl, hE1⟩; obtain ⟨hc1, hf1⟩ := bcell hE1; have hs1 := hE1.size; (try simp only [World.size_alloc] at hs1)) | (go_at_call 44; refine (impl_isPaged A c l d lo hi _ (by omega) hq (hr.ext hE1)).mono ?_; rintro e w2 ⟨rfl, hE2⟩; obtain ⟨hc2, hf2⟩ := bcell hE2; have hs2 := hE2.size; (try simp only [World.size_alloc] at hs2)))
    go_ret2
    exact retI2_lit (by repeat (first | exact Ext.refl _ | assumption | refine Ext.trans ?_ (Ext.alloc _ _) | refine Ext.trans ?_ (Ext.drew _) | refine Ext.trans ?_ (Ext.drewN _ _) | refine Ext.trans ?_ (by assumption)))
  obtain ⟨hg, ⟨hd1, hd2⟩, hl1, hl2⟩ := paged_parts h
  obtain ⟨e1, e2⟩ := deep_bound (fun x hx => gal_each hg hx) (by omega)
  clear hg
  by_cases h0 : d < deep l
  · rw [leP_bad (by simp; intro _ _; omega)]
    go_enter Try.func29, Try.ntmps29
    go_wp2_with (first | (go_at_call 53; refine (impl_depthOf A c l.length l lo hi _ rfl (by omega) hr).mono ?_; rintro e w1 ⟨rfl, hE1⟩; obtain ⟨hc1, hf1⟩ := bcell hE1; have hs1 := hE1.size; (try simp only [World.size_alloc] at hs1)) | (go_at_call 44; refine (impl_isPaged A c l d lo hi _ (by omega) hq (hr.ext hE1)).mono ?_; rintro e w2 ⟨rfl, hE2⟩; obtain ⟨hc2, hf2⟩ := bcell hE2; have hs2 := hE2.size; (try simp only [World.size_alloc] at hs2)))
    go_ret2
    exact retI2_lit (by repeat (first | exact Ext.refl _ | assumption | refine Ext.trans ?_ (Ext.alloc _ _) | refine Ext.trans ?_ (Ext.drew _) | refine Ext.trans ?_ (Ext.drewN _ _) | refine Ext.trans ?_ (by assumption)))
  by_cases hn : l.length = 1
  · have t1 : (((l.length : Int) - 1) == 0) = true := by simp; omega
    by_cases h2 : deep l < d
    · rw [leP_bad (by simp [hn]; intro _ _; omega)]
      have HN := Lib.hid hn; clear hn
      go_enter Try.func29, Try.ntmps29
      go_wp2_with (first | (go_at_call 53; refine (impl_depthOf A c l.length l lo hi _ rfl (by omega) hr).mono ?_; rintro e w1 ⟨rfl, hE1⟩; obtain ⟨hc1, hf1⟩ := bcell hE1; have hs1 := hE1.size; (try simp only [World.size_alloc] at hs1)) | (go_at_call 44; refine (impl_isPaged A c l d lo hi _ (by omega) hq (hr.ext hE1)).mono ?_; rintro e w2 ⟨rfl, hE2⟩; obtain ⟨hc2, hf2⟩ := bcell hE2; have hs2 := hE2.size; (try simp only [World.size_alloc] at hs2)))
      go_ret2
      exact retI2_lit (by repeat (first | exact Ext.refl _ | assumption | refine Ext.trans ?_ (Ext.alloc _ _) | refine Ext.trans ?_ (Ext.drew _) | refine Ext.trans ?_ (Ext.drewN _ _) | refine Ext.trans ?_ (by assumption)))
    rw [leP_good h (by simp [hn]; omega)]
    have HN := Lib.hid hn
    have hn2 : l.length ≤ 1 := by omega
    clear hn
    go_enter Try.func29, Try.ntmps29
    go_wp2_with (first | (go_at_call 53; refine (impl_depthOf A c l.length l lo hi _ rfl (by omega) hr).mono ?_; rintro e w1 ⟨rfl, hE1⟩; obtain ⟨hc1, hf1⟩ := bcell hE1; have hs1 := hE1.size; (try simp only [World.size_alloc] at hs1)) | (go_at_call 44; refine (impl_isPaged A c l d lo hi _ (by omega) hq (hr.ext hE1)).mono ?_; rintro e w2 ⟨rfl, hE2⟩; obtain ⟨hc2, hf2⟩ := bcell hE2; have hs2 := hE2.size; (try simp only [World.size_alloc] at hs2)))
    clear hc1 hf1 hc2 hf2
    go_loopw [8, 9] (fun v i wr => ∃ k : Nat, k ≤ l.length - 1 ∧ i = .int .i64 k ∧ wr.ownsRow w.heap.size 3 1 v k ((leadL (d - deep l) ((l.length : Int) - 1) k).map (Value.int .i64)) ∧ Ext w wr) (fun _ i _ => l.length - 1 - (intOf i).toNat)
    case atStart => exact ⟨0, Nat.zero_le _, rfl, own_lit0 _ _ (by omega) (Ext.refl _), (by repeat (first | exact Ext.refl _ | assumption | refine Ext.trans ?_ (Ext.alloc _ _) | refine Ext.trans ?_ (Ext.drew _) | refine Ext.trans ?_ (Ext.drewN _ _) | refine Ext.trans ?_ (by assumption)))⟩
    case round =>
      obtain ⟨k, hk, rfl, hown, hE⟩ := hrel
      by_cases hlt : k < l.length - 1
      · exfalso; omega
      · have hkl : l.length - 1 = k := by omega
        have HKL := Lib.hid hkl; clear hkl
        obtain ⟨A', c', rfl, hc', _⟩ := own_form hown
        go_wp2
        go_ret2
        exact ⟨A', c', by simp only [HKL.out, leadL_len]; rfl, by simp only [HKL.out, leadL_len]; exact hc', by simp only [HKL.out]; exact Rd.of_own hown, hE⟩
  · rw [leP_good h (by simp [hn]; omega)]
    have t1 : (((l.length : Int) - 1) == 0) = false := by simp; omega
    have hn2 : 2 ≤ l.length := by omega
    clear hn
    go_enter Try.func29, Try.ntmps29
    go_wp2_with (first | (go_at_call 53; refine (impl_depthOf A c l.length l lo hi _ rfl (by omega) hr).mono ?_; rintro e w1 ⟨rfl, hE1⟩; obtain ⟨hc1, hf1⟩ := bcell hE1; have hs1 := hE1.size; (try simp only [World.size_alloc] at hs1)) | (go_at_call 44; refine (impl_isPaged A c l d lo hi _ (by omega) hq (hr.ext hE1)).mono ?_; rintro e w2 ⟨rfl, hE2⟩; obtain ⟨hc2, hf2⟩ := bcell hE2; have hs2 := hE2.size; (try simp only [World.size_alloc] at hs2)))
    clear hc1 hf1 hc2 hf2
    go_loopw [8, 9] (fun v i wr => ∃ k : Nat, k ≤ l.length - 1 ∧ i = .int .i64 k ∧ wr.ownsRow w.heap.size 3 1 v k ((leadL (d - deep l) ((l.length : Int) - 1) k).map (Value.int .i64)) ∧ Ext w wr) (fun _ i _ => l.length - 1 - (intOf i).toNat)
    case atStart => exact ⟨0, Nat.zero_le _, rfl, own_lit0 _ _ (by omega) (Ext.refl _), (by repeat (first | exact Ext.refl _ | assumption | refine Ext.trans ?_ (Ext.alloc _ _) | refine Ext.trans ?_ (Ext.drew _) | refine Ext.trans ?_ (Ext.drewN _ _) | refine Ext.trans ?_ (by assumption)))⟩
    case round =>
      obtain ⟨k, hk, rfl, hown, hE⟩ := hrel
      by_cases hlt : k < l.length - 1
      · have q1 : 0 ≤ (d - deep l) / ((l.length : Int) - 1) := Int.ediv_nonneg (by omega) (by omega)
        have q2 : (d - deep l) / ((l.length : Int) - 1) ≤ d - deep l := Int.ediv_le_self _ (by omega)
        by_cases ht : (k : Int) < (d - deep l) % ((l.length : Int) - 1)
        · have HL : Hid (leadAt (d - deep l) ((l.length : Int) - 1) k = (d - deep l) / ((l.length : Int) - 1) + 1) := if_pos ht
          go_wp2_with (first | (at_builtin; refine wp_app _ w rfl (.tmp 51) (.tmp 53) 32 rfl 3 _ 1 8 Try.underlying32 intInfo rfl (by omega) _ k _ rfl (ownsRow_ext hown (Ext.alloc _ _)) (hE.trans (Ext.alloc _ _)) _ _ _ 1 1 [.int .i64 ((d - deep l) / ((l.length : Int) - 1) + 1)] rfl rfl (rdA_new rfl (Ext.refl _)) (by simp [Value.oneCell']) (by omega) (by simp) ?_; intro v3 w3 hown3 hE3 hg3 hat3))
          go_roundw
          case rel => exact ⟨k + 1, by omega, by go_num, by rw [leadL_succ, List.map_append, HL.out]; exact hown3, hE3⟩
          case measure => simp [intOf]; omega
        · have HL : Hid (leadAt (d - deep l) ((l.length : Int) - 1) k = (d - deep l) / ((l.length : Int) - 1)) := if_neg ht
          go_wp2_with (first | (at_builtin; refine wp_app _ w rfl (.tmp 51) (.tmp 53) 32 rfl 3 _ 1 8 Try.underlying32 intInfo rfl (by omega) _ k _ rfl (ownsRow_ext hown (Ext.alloc _ _)) (hE.trans (Ext.alloc _ _)) _ _ _ 1 1 [.int .i64 ((d - deep l) / ((l.length : Int) - 1))] rfl rfl (rdA_new rfl (Ext.refl _)) (by simp [Value.oneCell']) (by omega) (by simp) ?_; intro v3 w3 hown3 hE3 hg3 hat3))
          go_roundw
          case rel => exact ⟨k + 1, by omega, by go_num, by rw [leadL_succ, List.map_append, HL.out]; exact hown3, hE3⟩
          case measure => simp [intOf]; omega
      · have hkl : l.length - 1 = k := by omega
        have HKL := Lib.hid hkl; clear hkl
        obtain ⟨A', c', rfl, hc', _⟩ := own_form hown
        go_wp2
        go_ret2
        exact ⟨A', c', by simp only [HKL.out, leadL_len]; rfl, by simp only [HKL.out, leadL_len]; exact hc', by simp only [HKL.out]; exact Rd.of_own hown, hE⟩
theorem spec_LeadsFor (A : Option Addr) (c : Nat) (l : List SetL) (d : Int) (lo hi : Nat) (w : World) (hl : l.length ≤ 1048576) (hq : InRS l) (hr : RdS w lo hi A l) :
    Calls Try.prog 28 #[.slice A l.length c, .int .i64 d] w (RetI2 w (leP l d)) := by
  cases h : paged l d
  · rw [leP_bad (by simp [h])]
    go_enter Try.func28, Try.ntmps28
    go_wp2_with (go_at_call 42; refine (spec_pgAsked A c l d lo hi _ (by omega) hr).mono ?_; rintro e w1 ⟨rfl, hE1⟩; obtain ⟨hc1, hf1⟩ := bcell hE1; have hs1 := hE1.size; (try simp only [World.size_alloc] at hs1))
    go_ret2
    exact retI2_lit (by repeat (first | exact Ext.refl _ | assumption | refine Ext.trans ?_ (Ext.alloc _ _) | refine Ext.trans ?_ (Ext.drew _) | refine Ext.trans ?_ (Ext.drewN _ _) | refine Ext.trans ?_ (by assumption)))
  obtain ⟨hg, ⟨hd1, hd2⟩, hl1, hl2⟩ := paged_parts h
  obtain ⟨e1, e2⟩ := deep_bound (fun x hx => gal_each hg hx) (by omega)
  clear hg
  by_cases h0 : d < deep l
  · rw [leP_bad (by simp; intro _ _; omega)]
    go_enter Try.func28, Try.ntmps28
    go_wp2_with (first | (go_at_call 42; refine (spec_pgAsked A c l d lo hi _ (by omega) hr).mono ?_; rintro e w1 ⟨rfl, hE1⟩; obtain ⟨hc1, hf1⟩ := bcell hE1; have hs1 := hE1.size; (try simp only [World.size_alloc] at hs1)) | (go_at_call 52; refine (spec_pgDeep A c l.length l lo hi _ rfl (by omega) (hr.ext hE1)).mono ?_; rintro e w2 ⟨rfl, hE2⟩; obtain ⟨hc2, hf2⟩ := bcell hE2; have hs2 := hE2.size; (try simp only [World.size_alloc] at hs2)))
    go_ret2
    exact retI2_lit (by repeat (first | exact Ext.refl _ | assumption | refine Ext.trans ?_ (Ext.alloc _ _) | refine Ext.trans ?_ (Ext.drew _) | refine Ext.trans ?_ (Ext.drewN _ _) | refine Ext.trans ?_ (by assumption)))
  by_cases hn : l.length = 1
  · have t1 : (((l.length : Int) - 1) == 0) = true := by simp; omega
    by_cases h2 : deep l < d
    · rw [leP_bad (by simp [hn]; intro _ _; omega)]
      have HN := Lib.hid hn; clear hn
      go_enter Try.func28, Try.ntmps28
      go_wp2_with (first | (go_at_call 42; refine (spec_pgAsked A c l d lo hi _ (by omega) hr).mono ?_; rintro e w1 ⟨rfl, hE1⟩; obtain ⟨hc1, hf1⟩ := bcell hE1; have hs1 := hE1.size; (try simp only [World.size_alloc] at hs1)) | (go_at_call 52; refine (spec_pgDeep A c l.length l lo hi _ rfl (by omega) (hr.ext hE1)).mono ?_; rintro e w2 ⟨rfl, hE2⟩; obtain ⟨hc2, hf2⟩ := bcell hE2; have hs2 := hE2.size; (try simp only [World.size_alloc] at hs2)))
      go_ret2
      exact retI2_lit (by repeat (first | exact Ext.refl _ | assumption | refine Ext.trans ?_ (Ext.alloc _ _) | refine Ext.trans ?_ (Ext.drew _) | refine Ext.trans ?_ (Ext.drewN _ _) | refine Ext.trans ?_ (by assumption)))
    rw [leP_good h (by simp [hn]; omega)]
    have HN := Lib.hid hn
    have hn2 : l.length ≤ 1 := by omega
    clear hn
    go_enter Try.func28, Try.ntmps28
    go_wp2_with (first | (go_at_call 42; refine (spec_pgAsked A c l d lo hi _ (by omega) hr).mono ?_; rintro e w1 ⟨rfl, hE1⟩; obtain ⟨hc1, hf1⟩ := bcell hE1; have hs1 := hE1.size; (try simp only [World.size_alloc] at hs1)) | (go_at_call 52; refine (spec_pgDeep A c l.length l lo hi _ rfl (by omega) (hr.ext hE1)).mono ?_; rintro e w2 ⟨rfl, hE2⟩; obtain ⟨hc2, hf2⟩ := bcell hE2; have hs2 := hE2.size; (try simp only [World.size_alloc] at hs2)))
    clear hc1 hf1 hc2 hf2
    go_loopw [8, 9] (fun v i wr => ∃ k : Nat, k ≤ l.length - 1 ∧ i = .int .i64 k ∧ wr.ownsRow w.heap.size 3 1 v k ((leadL (d - deep l) ((l.length : Int) - 1) k).map (Value.int .i64)) ∧ Ext w wr) (fun _ i _ => l.length - 1 - (intOf i).toNat)
    case atStart => exact ⟨0, Nat.zero_le _, rfl, own_nil _ _ _ _, (by repeat (first | exact Ext.refl _ | assumption | refine Ext.trans ?_ (Ext.alloc _ _) | refine Ext.trans ?_ (Ext.drew _) | refine Ext.trans ?_ (Ext.drewN _ _) | refine Ext.trans ?_ (by assumption)))⟩
    case round =>
      obtain ⟨k, hk, rfl, hown, hE⟩ := hrel
      by_cases hlt : k < l.length - 1
      · exfalso; omega
      · have hkl : l.length - 1 = k := by omega
        have HKL := Lib.hid hkl; clear hkl
        obtain ⟨A', c', rfl, hc', _⟩ := own_form hown
        go_wp2
        go_ret2
        exact ⟨A', c', by simp only [HKL.out, leadL_len]; rfl, by simp only [HKL.out, leadL_len]; exact hc', by simp only [HKL.out]; exact Rd.of_own hown, hE⟩
  · rw [leP_good h (by simp [hn]; omega)]
    have t1 : (((l.length : Int) - 1) == 0) = false := by simp; omega
    have hn2 : 2 ≤ l.length := by omega
    clear hn
    go_enter Try.func28, Try.ntmps28
    go_wp2_with (first | (go_at_call 42; refine (spec_pgAsked A c l d lo hi _ (by omega) hr).mono ?_; rintro e w1 ⟨rfl, hE1⟩; obtain ⟨hc1, hf1⟩ := bcell hE1; have hs1 := hE1.size; (try simp only [World.size_alloc] at hs1)) | (go_at_call 52; refine (spec_pgDeep A c l.length l lo hi _ rfl (by omega) (hr.ext hE1)).mono ?_; rintro e w2 ⟨rfl, hE2⟩; obtain ⟨hc2, hf2⟩ := bcell hE2; have hs2 := hE2.size; (try simp only [World.size_alloc] at hs2)))
    clear hc1 hf1 hc2 hf2
    go_loopw [8, 9] (fun v i wr => ∃ k : Nat, k ≤ l.length - 1 ∧ i = .int .i64 k ∧ wr.ownsRow w.heap.size 3 1 v k ((leadL (d - deep l) ((l.length : Int) - 1) k).map (Value.int .i64)) ∧ Ext w wr) (fun _ i _ => l.length - 1 - (intOf i).toNat)
    case atStart => exact ⟨0, Nat.zero_le _, rfl, own_nil _ _ _ _, (by repeat (first | exact Ext.refl _ | assumption | refine Ext.trans ?_ (Ext.alloc _ _) | refine Ext.trans ?_ (Ext.drew _) | refine Ext.trans ?_ (Ext.drewN _ _) | refine Ext.trans ?_ (by assumption)))⟩
    case round =>
      obtain ⟨k, hk, rfl, hown, hE⟩ := hrel
      by_cases hlt : k < l.length - 1
      · have q1 : 0 ≤ (d - deep l) / ((l.length : Int) - 1) := Int.ediv_nonneg (by omega) (by omega)
        have q2 : (d - deep l) / ((l.length : Int) - 1) ≤ d - deep l := Int.ediv_le_self _ (by omega)
        by_cases ht : (k : Int) < (d - deep l) % ((l.length : Int) - 1)
        · have HL : Hid (leadAt (d - deep l) ((l.length : Int) - 1) k = (d - deep l) / ((l.length : Int) - 1) + 1) := if_pos ht
          go_wp2_with (first | (at_builtin; refine wp_app _ w rfl (.tmp 47) (.tmp 49) 32 rfl 3 _ 1 8 Try.underlying32 intInfo rfl (by omega) _ k _ rfl (ownsRow_ext hown (Ext.alloc _ _)) (hE.trans (Ext.alloc _ _)) _ _ _ 1 1 [.int .i64 ((d - deep l) / ((l.length : Int) - 1) + 1)] rfl rfl (rdA_new rfl (Ext.refl _)) (by simp [Value.oneCell']) (by omega) (by simp) ?_; intro v3 w3 hown3 hE3 hg3 hat3))
          go_roundw
          case rel => exact ⟨k + 1, by omega, by go_num, by rw [leadL_succ, List.map_append, HL.out]; exact hown3, hE3⟩
          case measure => simp [intOf]; omega
        · have HL : Hid (leadAt (d - deep l) ((l.length : Int) - 1) k = (d - deep l) / ((l.length : Int) - 1)) := if_neg ht
          go_wp2_with (first | (at_builtin; refine wp_app _ w rfl (.tmp 47) (.tmp 49) 32 rfl 3 _ 1 8 Try.underlying32 intInfo rfl (by omega) _ k _ rfl (ownsRow_ext hown (Ext.alloc _ _)) (hE.trans (Ext.alloc _ _)) _ _ _ 1 1 [.int .i64 ((d - deep l) / ((l.length : Int) - 1))] rfl rfl (rdA_new rfl (Ext.refl _)) (by simp [Value.oneCell']) (by omega) (by simp) ?_; intro v3 w3 hown3 hE3 hg3 hat3))
          go_roundw
          case rel => exact ⟨k + 1, by omega, by go_num, by rw [leadL_succ, List.map_append, HL.out]; exact hown3, hE3⟩
          case measure => simp [intOf]; omega
      · have hkl : l.length - 1 = k := by omega
        have HKL := Lib.hid hkl; clear hkl
        obtain ⟨A', c', rfl, hc', _⟩ := own_form hown
        go_wp2
        go_ret2
        exact ⟨A', c', by simp only [HKL.out, leadL_len]; rfl, by simp only [HKL.out, leadL_len]; exact hc', by simp only [HKL.out]; exact Rd.of_own hown, hE⟩
end Go.Proofs.Ytblecbdkpjmfeaa
