/- The walks of MostBlank and PageBreaks. -/
import Derived.Test.YtnhddepmhelgiaaPaF
import Derived.Test.YtnhddepmhelgiaaPaD
import Derived.Test.YtnhddepmhelgiaaApart
namespace Go.Proofs.Ytnhddepmhelgiaa
open Go.RowKit
set_option linter.unusedVariables false
theorem impl_MostBlank (A : Option Addr) (c : Nat) (ls : List (List Int)) (lo hi : Nat) (w : World) (hl : ls.length ≤ 1048577) (hb : ∀ l ∈ ls, l.length ≤ 1048577) (hr : RdII w lo hi A ls) :
    Calls Try.prog 36 #[.slice A ls.length c] w fun e w' => e = .returned (mbV ls) ∧ Ext w w' := by
  cases h : par ls
  · rw [mbV_bad (by simp [h])]
    go_enter Try.func36, Try.ntmps36
    go_wp2_with fail
    refine (impl_BlanksOf A c ls lo hi _ hl hb hr).mono ?_
    rw [blP_bad h]
    rintro e w1 ⟨A1, c1, rfl, hc1, hR1, hE1⟩
    go_wp2
    go_ret2
    exact ⟨rfl, hE1⟩
  by_cases h0 : 0 < ls.length
  case neg =>
    obtain rfl : ls = [] := List.eq_nil_of_length_eq_zero (by omega)
    rw [mbV_bad (by simp)]
    go_enter Try.func36, Try.ntmps36
    go_wp2_with fail
    refine (impl_BlanksOf A c [] lo hi _ (by simp) (by simp) hr).mono ?_
    rintro e w1 ⟨A1, c1, rfl, hc1, hR1, hE1⟩
    go_wp2
    go_ret2
    exact ⟨rfl, hE1⟩
  obtain ⟨xs, hxs⟩ : ∃ xs, xs = blkL ls := ⟨_, rfl⟩
  rw [mbV_good h h0]
  have hx0 : 1 ≤ (blkL ls).length := by rw [blkL_len]; have e : ls[0]? = some ls[0] := List.getElem?_eq_getElem h0; have := par_row h e; omega
  have hx6 : (blkL ls).length ≤ 6 := by rw [blkL_len]; exact hdLen_le h
  have t0 : ((ls.length : Int) == 0) = false := by rw [beq_eq_false_iff_ne]; omega
  rw [← hxs] at hx0 hx6 ⊢
  have HXS := Lib.hid hxs; clear hxs
  go_enter Try.func36, Try.ntmps36
  go_wp2_with fail
  refine (impl_BlanksOf A c ls lo hi _ hl hb hr).mono ?_
  rw [blP_good h, ← HXS.out]
  rintro e w1 ⟨A1, c1, rfl, hc1, hR1, hE1⟩
  simp only at hc1 hR1
  go_wp2
  clear t0 h
  go_loop [6, 23] (fun bst i => ∃ k j : Nat, k ≤ xs.length ∧ i = .int .i64 k ∧ bst = .int .i64 j ∧ mbTo xs k = j ∧ j < xs.length) (fun _ i => xs.length - (intOf i).toNat)
  case atStart => exact ⟨0, 0, Nat.zero_le _, rfl, rfl, rfl, by omega⟩
  case round =>
    obtain ⟨k, j, hk, rfl, rfl, hm, hj⟩ := hrel
    have HM := Lib.hid hm; clear hm
    by_cases hlt : k < xs.length
    · obtain ⟨x, b, off, HX, rfl, _, _, h3, c0, _⟩ := RdI.get hR1 hlt
      obtain ⟨y, b', off', HY, eA, _, _, _, d0, _⟩ := RdI.get hR1 hj
      injection eA with eA; injection eA with eb eo _; subst eb; subst eo
      have hst := mbTo_step HM.out HX.out HY.out
      have HST := Lib.hid hst; clear hst
      by_cases hyx : y < x
      · go_wp2
        go_round
        case rel => exact ⟨k + 1, k, by omega, by go_num, rfl, by rw [HST.out]; exact if_pos hyx, by omega⟩
        case measure => simp [intOf]; omega
      · go_wp2
        go_round
        case rel => exact ⟨k + 1, j, by omega, by go_num, rfl, by rw [HST.out]; exact if_neg hyx, by omega⟩
        case measure => simp [intOf]; omega
    · have hkl : k = xs.length := by omega
      subst hkl
      clear hlt
      go_wp2
      go_ret2
      exact ⟨by rw [HM.out]; rfl, hE1⟩
theorem spec_MostBlank (A : Option Addr) (c : Nat) (ls : List (List Int)) (lo hi : Nat) (w : World) (hl : ls.length ≤ 1048577) (hb : ∀ l ∈ ls, l.length ≤ 1048577) (hr : RdII w lo hi A ls) :
    Calls Try.prog 35 #[.slice A ls.length c] w fun e w' => e = .returned (mbV ls) ∧ Ext w w' := by
  cases h : par ls
  · rw [mbV_bad (by simp [h])]
    go_enter Try.func35, Try.ntmps35
    go_wp2_with (go_at_call 48; refine (spec_plGood A c ls lo hi _ hl hb hr).mono ?_; rintro e w1 ⟨rfl, hE1⟩; obtain ⟨hc1, hf1⟩ := bcell hE1; have hs1 := hE1.size; (try simp only [World.size_alloc] at hs1))
    go_ret2
    exact ⟨rfl, hE1⟩
  by_cases h0 : 0 < ls.length
  case neg =>
    obtain rfl : ls = [] := List.eq_nil_of_length_eq_zero (by omega)
    rw [mbV_bad (by simp)]
    go_enter Try.func35, Try.ntmps35
    go_wp2_with (go_at_call 48; refine (spec_plGood A c [] lo hi _ (by simp) (by simp) hr).mono ?_; rintro e w1 ⟨rfl, hE1⟩; obtain ⟨hc1, hf1⟩ := bcell hE1; have hs1 := hE1.size; (try simp only [World.size_alloc] at hs1))
    go_ret2
    exact ⟨rfl, hE1⟩
  obtain ⟨xs, hxs⟩ : ∃ xs, xs = blkL ls := ⟨_, rfl⟩
  rw [mbV_good h h0]
  have hx0 : 1 ≤ (blkL ls).length := by rw [blkL_len]; have e : ls[0]? = some ls[0] := List.getElem?_eq_getElem h0; have := par_row h e; omega
  have hx6 : (blkL ls).length ≤ 6 := by rw [blkL_len]; exact hdLen_le h
  have t0 : ((ls.length : Int) == 0) = false := by rw [beq_eq_false_iff_ne]; omega
  rw [← hxs] at hx0 hx6 ⊢
  have HXS := Lib.hid hxs; clear hxs
  go_enter Try.func35, Try.ntmps35
  go_wp2_with (go_at_call 48; refine (spec_plGood A c ls lo hi _ hl hb hr).mono ?_; rintro e w0 ⟨rfl, hE0⟩; obtain ⟨hc0, hf0⟩ := bcell hE0; have hs0 := hE0.size; (try simp only [World.size_alloc] at hs0))
  refine (spec_plBlanks A c ls lo hi _ hl hb h (hr.ext hE0)).mono ?_
  rw [← HXS.out]
  rintro e w1 ⟨A1, c1, rfl, hc1, hR1, hE1'⟩
  have hE1 := hE0.trans hE1'
  clear hc0 hf0
  go_wp2
  clear t0 h
  go_loop [4, 20] (fun bst i => ∃ k j : Nat, k ≤ xs.length ∧ i = .int .i64 k ∧ bst = .int .i64 j ∧ mbTo xs k = j ∧ j < xs.length) (fun _ i => xs.length - (intOf i).toNat)
  case atStart => exact ⟨0, 0, Nat.zero_le _, rfl, rfl, rfl, by omega⟩
  case round =>
    obtain ⟨k, j, hk, rfl, rfl, hm, hj⟩ := hrel
    have HM := Lib.hid hm; clear hm
    by_cases hlt : k < xs.length
    · obtain ⟨x, b, off, HX, rfl, _, _, h3, c0, _⟩ := RdI.get hR1 hlt
      obtain ⟨y, b', off', HY, eA, _, _, _, d0, _⟩ := RdI.get hR1 hj
      injection eA with eA; injection eA with eb eo _; subst eb; subst eo
      have hst := mbTo_step HM.out HX.out HY.out
      have HST := Lib.hid hst; clear hst
      by_cases hyx : y < x
      · go_wp2
        go_round
        case rel => exact ⟨k + 1, k, by omega, by go_num, rfl, by rw [HST.out]; exact if_pos hyx, by omega⟩
        case measure => simp [intOf]; omega
      · go_wp2
        go_round
        case rel => exact ⟨k + 1, j, by omega, by go_num, rfl, by rw [HST.out]; exact if_neg hyx, by omega⟩
        case measure => simp [intOf]; omega
    · have hkl : k = xs.length := by omega
      subst hkl
      clear hlt
      go_wp2
      go_ret2
      exact ⟨by rw [HM.out]; rfl, hE1⟩

theorem impl_areRowsOn (A : Option Addr) (c : Nat) (ls : List (List Int)) (d : Int) (lo hi : Nat) (w : World) (hl : ls.length ≤ 1048577) (hb : ∀ l ∈ ls, l.length ≤ 1048577) (hr : RdII w lo hi A ls) :
    Calls Try.prog 60 #[.slice A ls.length c, .int .i64 d] w fun e w' => e = .returned (.bool (rowsOn ls d)) ∧ Ext w w' := by
  cases h : par ls
  · have hv : rowsOn ls d = false := by simp [rowsOn, h]
    rw [hv]; clear hv
    go_enter Try.func60, Try.ntmps60
    go_wp2_with (go_at_call 18; refine (impl_AreParallel A c ls lo hi _ hl hb hr).mono ?_; rintro e w1 ⟨rfl, hE1⟩; obtain ⟨hc1, hf1⟩ := bcell hE1; have hs1 := hE1.size; (try simp only [World.size_alloc] at hs1))
    go_ret
    exact ⟨rfl, (by repeat (first | exact Ext.refl _ | assumption | refine Ext.trans ?_ (Ext.alloc _ _) | refine Ext.trans ?_ (Ext.drew _) | refine Ext.trans ?_ (Ext.drewN _ _) | refine Ext.trans ?_ (by assumption)))⟩
  cases h1 : inB d 1 1000
  · have hv : rowsOn ls d = false := by simp [rowsOn, h1]
    rw [hv]; clear hv
    go_enter Try.func60, Try.ntmps60
    go_wp2_with (first | (go_at_call 18; refine (impl_AreParallel A c ls lo hi _ hl hb hr).mono ?_; rintro e w1 ⟨rfl, hE1⟩; obtain ⟨hc1, hf1⟩ := bcell hE1; have hs1 := hE1.size; (try simp only [World.size_alloc] at hs1)) | (go_at_call 50; refine (within_any _ _ _ _).mono ?_; rintro e w' ⟨rfl, rfl⟩))
    go_ret
    exact ⟨rfl, (by repeat (first | exact Ext.refl _ | assumption | refine Ext.trans ?_ (Ext.alloc _ _) | refine Ext.trans ?_ (Ext.drew _) | refine Ext.trans ?_ (Ext.drewN _ _) | refine Ext.trans ?_ (by assumption)))⟩
  have hv : rowsOn ls d = decide (grt (ls.map grt) ≤ d) := by simp [rowsOn, h, h1]
  rw [hv]; clear hv
  go_enter Try.func60, Try.ntmps60
  go_wp2_with (first | (go_at_call 18; refine (impl_AreParallel A c ls lo hi _ hl hb hr).mono ?_; rintro e w1 ⟨rfl, hE1⟩; obtain ⟨hc1, hf1⟩ := bcell hE1; have hs1 := hE1.size; (try simp only [World.size_alloc] at hs1)) | (go_at_call 50; refine (within_any _ _ _ _).mono ?_; rintro e w' ⟨rfl, rfl⟩))
  refine (impl_heights A c ls lo hi _ hl hb (hr.ext hE1)).mono ?_
  rintro e w2 ⟨A2, c2, rfl, hc2, hR2, hE2⟩
  go_wp2_with fail
  refine (impl_greatest _ _ _ (ls.map grt) _ _ _ (by simp only [List.length_map]) (by omega) hR2).mono ?_
  rintro e w3 ⟨rfl, rfl⟩
  go_wp2_with fail
  go_ret
  exact ⟨rfl, (by repeat (first | exact Ext.refl _ | assumption | refine Ext.trans ?_ (Ext.alloc _ _) | refine Ext.trans ?_ (Ext.drew _) | refine Ext.trans ?_ (Ext.drewN _ _) | refine Ext.trans ?_ (by assumption)))⟩
theorem spec_plPaged (A : Option Addr) (c : Nat) (ls : List (List Int)) (d : Int) (lo hi : Nat) (w : World) (hl : ls.length ≤ 1048577) (hb : ∀ l ∈ ls, l.length ≤ 1048577) (hr : RdII w lo hi A ls) :
    Calls Try.prog 56 #[.slice A ls.length c, .int .i64 d] w fun e w' => e = .returned (.bool (rowsOn ls d)) ∧ Ext w w' := by
  cases h : par ls
  · have hv : rowsOn ls d = false := by simp [rowsOn, h]
    rw [hv]; clear hv
    go_enter Try.func56, Try.ntmps56
    go_wp2_with (go_at_call 48; refine (spec_plGood A c ls lo hi _ hl hb hr).mono ?_; rintro e w1 ⟨rfl, hE1⟩; obtain ⟨hc1, hf1⟩ := bcell hE1; have hs1 := hE1.size; (try simp only [World.size_alloc] at hs1))
    go_ret
    exact ⟨rfl, (by repeat (first | exact Ext.refl _ | assumption | refine Ext.trans ?_ (Ext.alloc _ _) | refine Ext.trans ?_ (Ext.drew _) | refine Ext.trans ?_ (Ext.drewN _ _) | refine Ext.trans ?_ (by assumption)))⟩
  cases h1 : inB d 1 1000
  · have hv : rowsOn ls d = false := by simp [rowsOn, h1]
    rw [hv]; clear hv
    go_enter Try.func56, Try.ntmps56
    go_wp2_with (first | (go_at_call 48; refine (spec_plGood A c ls lo hi _ hl hb hr).mono ?_; rintro e w1 ⟨rfl, hE1⟩; obtain ⟨hc1, hf1⟩ := bcell hE1; have hs1 := hE1.size; (try simp only [World.size_alloc] at hs1)) | (go_at_call 64; refine (l1In_any _ _ _ _).mono ?_; rintro e w' ⟨rfl, rfl⟩))
    go_ret
    exact ⟨rfl, (by repeat (first | exact Ext.refl _ | assumption | refine Ext.trans ?_ (Ext.alloc _ _) | refine Ext.trans ?_ (Ext.drew _) | refine Ext.trans ?_ (Ext.drewN _ _) | refine Ext.trans ?_ (by assumption)))⟩
  rw [rowsOn_spec h h1]
  go_enter Try.func56, Try.ntmps56
  go_wp2_with (first | (go_at_call 48; refine (spec_plGood A c ls lo hi _ hl hb hr).mono ?_; rintro e w1 ⟨rfl, hE1⟩; obtain ⟨hc1, hf1⟩ := bcell hE1; have hs1 := hE1.size; (try simp only [World.size_alloc] at hs1)) | (go_at_call 64; refine (l1In_any _ _ _ _).mono ?_; rintro e w' ⟨rfl, rfl⟩))
  refine (spec_plHeights A c ls lo hi _ hl hb (hr.ext hE1)).mono ?_
  rintro e w2 ⟨A2, c2, rfl, hc2, hR2, hE2⟩
  go_wp2_with fail
  refine (l1All_any _ _ _ (ls.map grt) 0 d _ _ _ (by simp only [List.length_map]) (by omega) hR2).mono ?_
  rintro e w3 ⟨rfl, rfl⟩
  go_wp2_with fail
  go_ret
  exact ⟨ret_bool (by rw [List.all_map]), (by repeat (first | exact Ext.refl _ | assumption | refine Ext.trans ?_ (Ext.alloc _ _) | refine Ext.trans ?_ (Ext.drew _) | refine Ext.trans ?_ (Ext.drewN _ _) | refine Ext.trans ?_ (by assumption)))⟩
theorem impl_PageBreaks (A : Option Addr) (c : Nat) (ls : List (List Int)) (d : Int) (lo hi : Nat) (w : World) (hl : ls.length ≤ 1048577) (hb : ∀ l ∈ ls, l.length ≤ 1048577) (hr : RdII w lo hi A ls) :
    Calls Try.prog 38 #[.slice A ls.length c, .int .i64 d] w (RetI2 w (pbP ls d)) := by
  cases h : rowsOn ls d
  · rw [pbP_bad h]
    go_enter Try.func38, Try.ntmps38
    go_wp2_with (go_at_call 60; refine (impl_areRowsOn A c ls d lo hi _ hl hb hr).mono ?_; rintro e w1 ⟨rfl, hE1⟩; obtain ⟨hc1, hf1⟩ := bcell hE1; have hs1 := hE1.size; (try simp only [World.size_alloc] at hs1))
    go_ret2
    exact retI2_lit (by repeat (first | exact Ext.refl _ | assumption | refine Ext.trans ?_ (Ext.alloc _ _) | refine Ext.trans ?_ (Ext.drew _) | refine Ext.trans ?_ (Ext.drewN _ _) | refine Ext.trans ?_ (by assumption)))
  rw [pbP_good h]
  obtain ⟨_, ⟨hd1, hd2⟩, hs⟩ := rowsOn_parts h
  have hlen : (ls.map grt).length ≤ 1048577 := by rw [List.length_map]; exact hl
  have HS0 := Lib.hid hs; clear hs
  obtain ⟨hs, hhs⟩ : ∃ hs, hs = ls.map grt := ⟨_, rfl⟩
  rw [← hhs] at hlen ⊢
  have HS : Hid (∀ x ∈ hs, 0 ≤ x ∧ x ≤ 200 ∧ x ≤ d) := by rw [hhs]; exact HS0
  have HHX := Lib.hid hhs; clear hhs HS0
  go_enter Try.func38, Try.ntmps38
  go_wp2_with (go_at_call 60; refine (impl_areRowsOn A c ls d lo hi _ hl hb hr).mono ?_; rintro e w1 ⟨rfl, hE1⟩; obtain ⟨hc1, hf1⟩ := bcell hE1; have hs1 := hE1.size; (try simp only [World.size_alloc] at hs1))
  refine (impl_heights A c ls lo hi _ hl hb (hr.ext (by repeat (first | exact Ext.refl _ | assumption | refine Ext.trans ?_ (Ext.alloc _ _) | refine Ext.trans ?_ (Ext.drew _) | refine Ext.trans ?_ (Ext.drewN _ _) | refine Ext.trans ?_ (by assumption))))).mono ?_
  rintro e w2 ⟨A2, c2, rfl, hc2, hR1, hE2⟩
  have hs2 := hE2.size
  simp only [World.size_alloc] at hs2
  rw [← HHX.out] at hR1 hc2 ⊢
  obtain ⟨L2, hL2⟩ : ∃ L, L = (w1.alloc (.cells #[] 3)).heap.size := ⟨_, rfl⟩
  obtain ⟨H2, hH2⟩ : ∃ H, H = w2.heap.size := ⟨_, rfl⟩
  rw [← hL2, ← hH2] at hR1
  have hL3 : w1.heap.size < L2 := by rw [hL2]; simp
  clear hc1 hf1 h hc2 hL2 hH2
  go_wp2_with fail
  go_loopw [6, 7, 19] (fun v u i wr => ∃ (k n : Nat) (E : List Int) (U : Int), k ≤ hs.length ∧ i = .int .i64 k ∧ u = .int .i64 U ∧ brkTo hs d k = (E, U) ∧ E.length = n ∧ n ≤ k ∧ 0 ≤ U ∧ U ≤ d ∧ wr.ownsRow w.heap.size 3 1 v n (E.map (Value.int .i64)) ∧ RdI wr L2 H2 A2 hs ∧ Apart v L2 H2 ∧ Ext w wr) (fun _ _ i _ => hs.length - (intOf i).toNat)
  case atStart => exact ⟨0, 0, [], 0, Nat.zero_le _, rfl, rfl, rfl, rfl, Nat.le_refl _, by omega, by omega, own_lit0 _ _ hs1 hE2, hR1, Apart.at_ (.inl (by omega)), (by repeat (first | exact Ext.refl _ | assumption | refine Ext.trans ?_ (Ext.alloc _ _) | refine Ext.trans ?_ (Ext.drew _) | refine Ext.trans ?_ (Ext.drewN _ _) | refine Ext.trans ?_ (by assumption)))⟩
  case round =>
    obtain ⟨k, n, E, U, hk, rfl, rfl, hB, hn, hnk, hU0, hU1, hown, hR1, hap, hE⟩ := hrel
    have HBR := Lib.hid hB; clear hB
    have HN := Lib.hid hn; clear hn
    by_cases hlt : k < hs.length
    · obtain ⟨x, b, off, HX, rfl, _, _, h3, c0, _⟩ := RdI.get hR1 hlt
      have hx := HS.out x (List.mem_of_getElem? HX.out)
      by_cases ht : d < U + x
      · have HST := Lib.hid (brkTo_yes HBR.out HX.out ht)
        go_wp2_with (first | (at_builtin; refine wp_app _ w rfl (.tmp 29) (.tmp 31) 29 rfl 3 _ 1 8 Try.underlying29 intInfo0 rfl (by omega) _ n _ rfl (ownsRow_ext hown (Ext.alloc _ _)) (by repeat (first | exact Ext.refl _ | assumption | refine Ext.trans ?_ (Ext.alloc _ _) | refine Ext.trans ?_ (Ext.drew _) | refine Ext.trans ?_ (Ext.drewN _ _) | refine Ext.trans ?_ (by assumption))) _ _ _ 1 1 [.int .i64 k] rfl rfl (rdA_new rfl (Ext.refl _)) (by simp [Value.oneCell']) (by omega) (by simp) ?_; intro v3 w3 hown3 hE3 hg3 hat3))
        go_roundw
        case rel => exact ⟨k + 1, n + 1, E ++ [(k : Int)], x, by omega, by go_num, val_int (by omega), HST.out, by rw [List.length_append, HN.out]; rfl, by omega, by omega, by omega, by rw [List.map_append]; exact hown3, Rd.app hR1 hg3 hap, hap.app hR1 hat3, hE3⟩
        case measure => simp [intOf]; omega
      · have HST := Lib.hid (brkTo_no HBR.out HX.out ht)
        go_wp2
        go_roundw
        case rel => exact ⟨k + 1, n, E, U + x, by omega, by go_num, rfl, HST.out, HN.out, by omega, by omega, by omega, hown, hR1, hap, hE⟩
        case measure => simp [intOf]; omega
    · have hkl : k = hs.length := by omega
      subst hkl
      clear hlt
      obtain ⟨A', c', rfl, hc', _⟩ := own_form hown
      go_wp2
      go_ret2
      exact ⟨A', c', by simp only [brkL, HBR.out, HN.out]; rfl, by simp only [brkL, HBR.out, HN.out]; exact hc', by simp only [brkL, HBR.out]; exact Rd.of_own hown, hE⟩

theorem spec_plBreaks (A : Option Addr) (c n : Nat) (hs : List Int) (d : Int) (lo hi : Nat) (w : World) (hn : hs.length = n) (hl : n ≤ 1048577) (hd1 : 1 ≤ d) (hd2 : d ≤ 1000) (hb : ∀ x ∈ hs, 0 ≤ x ∧ x ≤ 200 ∧ x ≤ d) (hR1 : RdI w lo hi A hs) :
    Calls Try.prog 58 #[.slice A n c, .int .i64 d] w (RetI w (brkL hs d)) := by
  subst hn
  have HS := Lib.hid hb
  clear hb
  go_enter Try.func58, Try.ntmps58
  go_wp2
  go_loopw [5, 6, 11] (fun v u i wr => ∃ (k n : Nat) (E : List Int) (U : Int), k ≤ hs.length ∧ i = .int .i64 k ∧ u = .int .i64 U ∧ brkTo hs d k = (E, U) ∧ E.length = n ∧ n ≤ k ∧ 0 ≤ U ∧ U ≤ d ∧ wr.ownsRow w.heap.size 3 1 v n (E.map (Value.int .i64)) ∧ RdI wr lo hi A hs ∧ Apart v lo hi ∧ Ext w wr) (fun _ _ i _ => hs.length - (intOf i).toNat)
  case atStart => exact ⟨0, 0, [], 0, Nat.zero_le _, rfl, rfl, rfl, rfl, Nat.le_refl _, by omega, by omega, own_nil _ _ _ _, hR1, Apart.nil _ _, Ext.refl _⟩
  case round =>
    obtain ⟨k, n, E, U, hk, rfl, rfl, hB, hn, hnk, hU0, hU1, hown, hR1, hap, hE⟩ := hrel
    have HBR := Lib.hid hB; clear hB
    have HN := Lib.hid hn; clear hn
    by_cases hlt : k < hs.length
    · obtain ⟨x, b, off, HX, rfl, _, _, h3, c0, _⟩ := RdI.get hR1 hlt
      have hx := HS.out x (List.mem_of_getElem? HX.out)
      by_cases ht : d < U + x
      · have HST := Lib.hid (brkTo_yes HBR.out HX.out ht)
        go_wp2_with (first | (at_builtin; refine wp_app _ w rfl (.tmp 21) (.tmp 23) 29 rfl 3 _ 1 8 Try.underlying29 intInfo0 rfl (by omega) _ n _ rfl (ownsRow_ext hown (Ext.alloc _ _)) (by repeat (first | exact Ext.refl _ | assumption | refine Ext.trans ?_ (Ext.alloc _ _) | refine Ext.trans ?_ (Ext.drew _) | refine Ext.trans ?_ (Ext.drewN _ _) | refine Ext.trans ?_ (by assumption))) _ _ _ 1 1 [.int .i64 k] rfl rfl (rdA_new rfl (Ext.refl _)) (by simp [Value.oneCell']) (by omega) (by simp) ?_; intro v3 w3 hown3 hE3 hg3 hat3))
        go_roundw
        case rel => exact ⟨k + 1, n + 1, E ++ [(k : Int)], x, by omega, by go_num, val_int (by omega), HST.out, by rw [List.length_append, HN.out]; rfl, by omega, by omega, by omega, by rw [List.map_append]; exact hown3, Rd.app hR1 hg3 hap, hap.app hR1 hat3, hE3⟩
        case measure => simp [intOf]; omega
      · have HST := Lib.hid (brkTo_no HBR.out HX.out ht)
        go_wp2
        go_roundw
        case rel => exact ⟨k + 1, n, E, U + x, by omega, by go_num, rfl, HST.out, HN.out, by omega, by omega, by omega, hown, hR1, hap, hE⟩
        case measure => simp [intOf]; omega
    · have hkl : k = hs.length := by omega
      subst hkl
      clear hlt
      obtain ⟨A', c', rfl, hc', _⟩ := own_form hown
      go_wp2
      go_ret
      exact ⟨A', c', by simp only [brkL, HBR.out, HN.out]; rfl, by simp only [brkL, HBR.out, HN.out]; exact hc', by simp only [brkL, HBR.out]; exact Rd.of_own hown, hE⟩

theorem spec_PageBreaks (A : Option Addr) (c : Nat) (ls : List (List Int)) (d : Int) (lo hi : Nat) (w : World) (hl : ls.length ≤ 1048577) (hb : ∀ l ∈ ls, l.length ≤ 1048577) (hr : RdII w lo hi A ls) :
    Calls Try.prog 37 #[.slice A ls.length c, .int .i64 d] w (RetI2 w (pbP ls d)) := by
  cases h : rowsOn ls d
  · rw [pbP_bad h]
    go_enter Try.func37, Try.ntmps37
    go_wp2_with (go_at_call 56; refine (spec_plPaged A c ls d lo hi _ hl hb hr).mono ?_; rintro e w1 ⟨rfl, hE1⟩; obtain ⟨hc1, hf1⟩ := bcell hE1; have hs1 := hE1.size; (try simp only [World.size_alloc] at hs1))
    go_ret2
    exact retI2_lit (by repeat (first | exact Ext.refl _ | assumption | refine Ext.trans ?_ (Ext.alloc _ _) | refine Ext.trans ?_ (Ext.drew _) | refine Ext.trans ?_ (Ext.drewN _ _) | refine Ext.trans ?_ (by assumption)))
  rw [pbP_good h]
  obtain ⟨_, ⟨hd1, hd2⟩, hs⟩ := rowsOn_parts h
  go_enter Try.func37, Try.ntmps37
  go_wp2_with (go_at_call 56; refine (spec_plPaged A c ls d lo hi _ hl hb hr).mono ?_; rintro e w1 ⟨rfl, hE1⟩; obtain ⟨hc1, hf1⟩ := bcell hE1; have hs1 := hE1.size; (try simp only [World.size_alloc] at hs1))
  refine (spec_plHeights A c ls lo hi _ hl hb (hr.ext (by repeat (first | exact Ext.refl _ | assumption | refine Ext.trans ?_ (Ext.alloc _ _) | refine Ext.trans ?_ (Ext.drew _) | refine Ext.trans ?_ (Ext.drewN _ _) | refine Ext.trans ?_ (by assumption))))).mono ?_
  rintro e w2 ⟨A2, c2, rfl, hc2, hR2, hE2⟩
  have hs2 := hE2.size
  go_wp2_with fail
  refine (spec_plBreaks _ _ _ (ls.map grt) d _ _ _ (by simp only [List.length_map]) (by omega) hd1 hd2 hs hR2).mono ?_
  rintro e w3 ⟨A3, c3, rfl, hc3, hR3, hE3⟩
  go_wp2_with fail
  go_ret2
  exact ⟨A3, c3, rfl, hc3, Rd.wide hR3 (by omega) (Nat.le_refl _) (Nat.le_refl _), (by repeat (first | exact Ext.refl _ | assumption | refine Ext.trans ?_ (Ext.alloc _ _) | refine Ext.trans ?_ (Ext.drew _) | refine Ext.trans ?_ (Ext.drewN _ _) | refine Ext.trans ?_ (by assumption)))⟩
end Go.Proofs.Ytnhddepmhelgiaa
