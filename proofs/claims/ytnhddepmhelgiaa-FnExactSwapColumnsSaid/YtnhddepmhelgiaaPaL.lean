/- The walks of SwapColumns. -/
import Derived.Test.YtnhddepmhelgiaaPaK
import Derived.BigRegion
import Derived.Deep.Cut
namespace Go.Proofs.Ytnhddepmhelgiaa
open Go.RowKit
set_option linter.unusedVariables false
theorem par_any {ls : List (List Int)} : True := trivial
set_option maxHeartbeats 1000000 in
theorem impl_SwapColumns (A : Option Addr) (c : Nat) (ls : List (List Int)) (i k : Int) (lo hi : Nat) (w : World) (hl : ls.length ≤ 1048577) (hb : ∀ l ∈ ls, l.length ≤ 1048577) (hr : RdII w lo hi A ls) :
    Calls Try.prog 44 #[.slice A ls.length c, .int .i64 i, .int .i64 k] w (RetII2 w (scP ls i k)) := by
  cases h : par ls
  · rw [scP_bad (by simp [scOk, h])]
    go_enter Try.func44, Try.ntmps44
    go_wp2_with (go_at_call 18; refine (impl_AreParallel A c ls lo hi _ hl hb hr).mono ?_; rintro e w1 ⟨rfl, hE1⟩; obtain ⟨hc1, hf1⟩ := bcell hE1; have hs1 := hE1.size; (try simp only [World.size_alloc] at hs1))
    go_ret2
    exact retII2_lit (by repeat (first | exact Ext.refl _ | assumption | refine Ext.trans ?_ (Ext.alloc _ _) | refine Ext.trans ?_ (Ext.drew _) | refine Ext.trans ?_ (Ext.drewN _ _) | refine Ext.trans ?_ (by assumption)))
  by_cases h0 : 0 < ls.length
  case neg =>
    rw [scP_bad (by simp [scOk]; intro _ _; omega)]
    have t0 : ((ls.length : Int) == 0) = true := by simp; exact List.eq_nil_of_length_eq_zero (by omega)
    go_enter Try.func44, Try.ntmps44
    go_wp2_with (go_at_call 18; refine (impl_AreParallel A c ls lo hi _ hl hb hr).mono ?_; rintro e w1 ⟨rfl, hE1⟩; obtain ⟨hc1, hf1⟩ := bcell hE1; have hs1 := hE1.size; (try simp only [World.size_alloc] at hs1))
    go_ret2
    exact retII2_lit (by repeat (first | exact Ext.refl _ | assumption | refine Ext.trans ?_ (Ext.alloc _ _) | refine Ext.trans ?_ (Ext.drew _) | refine Ext.trans ?_ (Ext.drewN _ _) | refine Ext.trans ?_ (by assumption)))
  obtain ⟨⟨ra0, rc0, rp0, rq0⟩, l0, b, off, HX0, rfl, g3, d0, _, hR0, _, _⟩ := RdII.get hr h0
  simp only [Nat.add_zero] at d0 hR0
  have hhd : hdLen ls = l0.length := by simp [hdLen, HX0.out]
  have HH := Lib.hid hhd; clear hhd
  obtain ⟨hz0, hl0, _⟩ := par_row h HX0.out
  clear hz0
  have t0 : ((ls.length : Int) == 0) = false := by rw [beq_eq_false_iff_ne]; omega
  cases h1 : inB i 0 ((l0.length : Int) - 1)
  · rw [scP_bad (by rw [scOk, HH.out, h1]; simp)]
    go_enter Try.func44, Try.ntmps44
    go_wp2_with fail
    refine (impl_AreParallel _ c ls lo hi _ hl hb hr).mono ?_
    rintro e w1 ⟨rfl, hE1⟩
    have d1 := hE1.cell d0
    have g4 : b < w1.heap.size := by have := hE1.size; omega
    go_wp2_with (go_at_call 50; refine (within_any _ _ _ _).mono ?_; rintro e w' ⟨rfl, rfl⟩)
    go_ret2
    exact retII2_lit (by repeat (first | exact Ext.refl _ | assumption | refine Ext.trans ?_ (Ext.alloc _ _) | refine Ext.trans ?_ (Ext.drew _) | refine Ext.trans ?_ (Ext.drewN _ _) | refine Ext.trans ?_ (by assumption)))
  cases h2 : inB k 0 ((l0.length : Int) - 1)
  · rw [scP_bad (by rw [scOk, HH.out, h2]; simp)]
    go_enter Try.func44, Try.ntmps44
    go_wp2_with fail
    refine (impl_AreParallel _ c ls lo hi _ hl hb hr).mono ?_
    rintro e w1 ⟨rfl, hE1⟩
    have d1 := hE1.cell d0
    have g4 : b < w1.heap.size := by have := hE1.size; omega
    go_wp2_with (go_at_call 50; refine (within_any _ _ _ _).mono ?_; rintro e w' ⟨rfl, rfl⟩)
    go_ret2
    exact retII2_lit (by repeat (first | exact Ext.refl _ | assumption | refine Ext.trans ?_ (Ext.alloc _ _) | refine Ext.trans ?_ (Ext.drew _) | refine Ext.trans ?_ (Ext.drewN _ _) | refine Ext.trans ?_ (by assumption)))
  rw [scP_good (by rw [scOk, HH.out, h1, h2, h]; simp; omega)]
  have j1 := inB_iff.1 h1
  have j2 := inB_iff.1 h2
  obtain ⟨I, hI⟩ : ∃ I : Nat, i = I := ⟨i.toNat, by omega⟩
  obtain ⟨K, hK⟩ : ∃ K : Nat, k = K := ⟨k.toNat, by omega⟩
  subst hI; subst hK
  rw [Int.toNat_natCast, Int.toNat_natCast]
  have hI : I < l0.length := by omega
  have hK : K < l0.length := by omega
  have h24 := par_len h
  go_enter Try.func44, Try.ntmps44
  go_wp2_with fail
  refine (impl_AreParallel _ c ls lo hi _ hl hb hr).mono ?_
  rintro e w1 ⟨rfl, hE1⟩
  have d1 := hE1.cell d0
  have hs1 := hE1.size
  have g4 : b < w1.heap.size := by omega
  go_wp2_with (go_at_call 50; refine (within_any _ _ _ _).mono ?_; rintro e w' ⟨rfl, rfl⟩)
  have H := Lib.hid h
  clear h h1 h2 t0 j1 j2 d0 d1 hb
  go_loopw [8, 44] (fun v j wr => ∃ (k : Nat) (rs : List Row), k ≤ ls.length ∧ j = .int .i64 k ∧ GrowII wr w.heap.size 29 v ((ls.take k).map fun l => swapR l I K) rs ∧ Ext w wr) (fun _ j _ => ls.length - (intOf j).toNat)
  case atStart => exact ⟨0, [], Nat.zero_le _, rfl, GrowII.of0 (own_lit0 _ _ hs1 (Ext.refl _)), (by repeat (first | exact Ext.refl _ | assumption | refine Ext.trans ?_ (Ext.alloc _ _) | refine Ext.trans ?_ (Ext.drew _) | refine Ext.trans ?_ (Ext.drewN _ _) | refine Ext.trans ?_ (by assumption)))⟩
  case round =>
    obtain ⟨k, rs, hk, rfl, hG, hE⟩ := hrel
    have hsz := hE.size
    by_cases hlt : k < ls.length
    · obtain ⟨⟨ra, rc, rp, rq⟩, l, b', off', HX, eA, h3, e1, _, hR1, _, _⟩ := RdII.get (hr.ext hE) hlt
      injection eA with eA; injection eA with eb eo _; subst eb; subst eo
      simp only at e1 hR1
      obtain ⟨hz1, hl6, _⟩ := par_row H.out HX.out
      rw [HH.out] at hz1
      have hln : l.length ≤ l0.length := by omega
      have hln2 : l0.length ≤ l.length := by omega
      have hlk : ((ls.take k).map fun l => swapR l I K).length ≤ k := by simp; omega
      obtain ⟨x0, b1, off1, HX0', rfl, _, hrq, h4, _, _⟩ := RdI.get hR1 (k := I) (by omega)
      have HS : Hid ((ls.take (k + 1)).map (fun l => swapR l I K) = (ls.take k).map (fun l => swapR l I K) ++ [swapR l I K]) := by show _ = _; rw [take_snoc HX.out, List.map_append]; rfl
      clear hz1
      have iI : (0 : Int) ≤ I := by omega
      have iK : (0 : Int) ≤ K := by omega
      have iI2 : (I : Int) < l.length := by omega
      have iK2 : (K : Int) < l.length := by omega
      go_wp2_with (first | (at_builtin; refine wp_app _ wr rfl (.tmp 48) (.tmp 49) 29 rfl 3 _ 1 8 Try.underlying29 intInfo0 rfl (by omega) _ 0 [] rfl (own_lit0 _ _ (Nat.le_refl _) (Ext.refl _)) (by repeat (first | exact Ext.refl _ | assumption | refine Ext.trans ?_ (Ext.alloc _ _) | refine Ext.trans ?_ (Ext.drew _) | refine Ext.trans ?_ (Ext.drewN _ _) | refine Ext.trans ?_ (by assumption))) _ _ _ l.length _ (l.map (Value.int .i64)) rfl (by simp) (Rd.toA (hR1.ext (by repeat (first | exact Ext.refl _ | assumption | refine Ext.trans ?_ (Ext.alloc _ _) | refine Ext.trans ?_ (Ext.drew _) | refine Ext.trans ?_ (Ext.drewN _ _) | refine Ext.trans ?_ (by assumption))))) (ints_one l) (by omega) (by simp) ?_; intro v3 w3 hown3 hE3 hg3 hat3; rw [Nat.zero_add, List.nil_append] at hown3; obtain ⟨g, c3, rfl, hgl, hgw, hc3⟩ := own_some hown3 (by omega); have hR3 : RdI w3 wr.heap.size w3.heap.size (some ⟨g, 0, none⟩) l := Rd.of_own hown3; clear hg3 hat3 hown3))
      obtain ⟨x, b2, off2, HXI, eA, _, _, h5, y0, _⟩ := RdI.get (hR1.ext hE3) (k := I) (by omega)
      injection eA with eA; injection eA with eb eo _; subst eb; subst eo
      obtain ⟨y, b2, off2, HXK, eA, _, _, _, z0, _⟩ := RdI.get (hR1.ext hE3) (k := K) (by omega)
      injection eA with eA; injection eA with eb eo _; subst eb; subst eo
      obtain ⟨x', b2, off2, HX', eA, _, _, _, m0, n0⟩ := RdI.get hR3 (k := I) (by omega)
      injection eA with eA; injection eA with eb eo _; subst eb; subst eo
      obtain ⟨y', b2, off2, HY', eA, _, _, _, m1, n1⟩ := RdI.get hR3 (k := K) (by omega)
      injection eA with eA; injection eA with eb eo _; subst eb; subst eo
      have hbg : ¬ b1 = g := by omega
      have hgb : ¬ g = b1 := by omega
      have HSW : Hid ((swapR l I K).map (Value.int .i64) = ((l.map (Value.int .i64)).set I (.int .i64 y)).set K (.int .i64 x)) := by show _ = _; rw [swapR, HXI.out, HXK.out, List.map_set, List.map_set]; rfl
      clear HX' HY'
      simp only [Nat.zero_add] at m0 m1 n0 n1
      by_cases hIK : I = K
      · subst hIK
        obtain rfl : x = y := by have := HXI.out.symm.trans HXK.out; injection this
        go_region
        obtain ⟨w5, hw5⟩ : ∃ w5, w5 = ((w3.setCell ⟨g, I, none⟩ (.int .i64 x)).setCell ⟨g, I, none⟩ (.int .i64 x)).drew := ⟨_, rfl⟩
        rw [← hw5]
        have hE5 : Ext wr w5 := by rw [hw5]; repeat (first | exact hE3 | refine Ext.trans ?_ (Ext.drew _) | refine Ext.setCell ?_ hgl _)
        have hz5 : w5.heap.size = w3.heap.size := by rw [hw5]; simp [World.setCell]
        have hR5 : RdI w5 wr.heap.size w5.heap.size (some ⟨g, 0, none⟩) (swapR l I I) := by
          rw [hz5, hw5]
          unfold RdI
          rw [HSW.out]
          have := Rd.set_ (Rd.set_ hR3 I (.int .i64 x)) I (.int .i64 x); simp only [Nat.zero_add] at this; exact Rd.ext this (Ext.drew _)
        have hc5 : (swapR l I I).length ≤ c3 := by rw [swapR_len]; exact hc3
        have hln5 : l.length = (swapR l I I).length := (swapR_len l I I).symm
        have HLN5 := Lib.hid hln5
        clear hw5 hz5 hln5 m0 m1 n0 n1 y0 z0 hR3 hE3
        go_wp2_with (first | (at_builtin; refine wp_app _ w rfl (.tmp 65) (.tmp 67) 22 rfl 29 _ 1 24 Try.underlying22 sliceInfo rfl (by omega) _ _ _ rfl (ownsRow_ext hG.2.1 (hE5.trans (Ext.alloc _ _))) (by repeat (first | exact Ext.refl _ | assumption | refine Ext.trans ?_ (Ext.alloc _ _) | refine Ext.trans ?_ (Ext.drew _) | refine Ext.trans ?_ (Ext.drewN _ _) | refine Ext.trans ?_ (by assumption))) _ _ _ 1 1 [.slice (some ⟨g, 0, none⟩) l.length c3] rfl rfl (rdA_new rfl (Ext.refl _)) (by simp [Value.oneCell']) (by omega) (by simp) ?_; intro v4 w4 hown4 hE4 hg4 hat4))
        go_roundw
        case rel => exact ⟨k + 1, _, by omega, by go_num, by rw [HS.out]; exact hG.push hE5 hc5 hR5 hsz (by rw [← HLN5.out]; exact hown4) _ hg4 hat4, hE4⟩
        case measure => simp [intOf]; omega
      · have hKI : ¬ K = I := fun h => hIK h.symm
        go_region
        obtain ⟨w5, hw5⟩ : ∃ w5, w5 = ((w3.setCell ⟨g, I, none⟩ (.int .i64 y)).setCell ⟨g, K, none⟩ (.int .i64 x)).drew := ⟨_, rfl⟩
        rw [← hw5]
        have hE5 : Ext wr w5 := by rw [hw5]; repeat (first | exact hE3 | refine Ext.trans ?_ (Ext.drew _) | refine Ext.setCell ?_ hgl _)
        have hz5 : w5.heap.size = w3.heap.size := by rw [hw5]; simp [World.setCell]
        have hR5 : RdI w5 wr.heap.size w5.heap.size (some ⟨g, 0, none⟩) (swapR l I K) := by
          rw [hz5, hw5]
          unfold RdI
          rw [HSW.out]
          have := Rd.set_ (Rd.set_ hR3 I (.int .i64 y)) K (.int .i64 x); simp only [Nat.zero_add] at this; exact Rd.ext this (Ext.drew _)
        have hc5 : (swapR l I K).length ≤ c3 := by rw [swapR_len]; exact hc3
        have hln5 : l.length = (swapR l I K).length := (swapR_len l I K).symm
        have HLN5 := Lib.hid hln5
        clear hw5 hz5 hln5 m0 m1 n0 n1 y0 z0 hR3 hE3
        go_wp2_with (first | (at_builtin; refine wp_app _ w rfl (.tmp 65) (.tmp 67) 22 rfl 29 _ 1 24 Try.underlying22 sliceInfo rfl (by omega) _ _ _ rfl (ownsRow_ext hG.2.1 (hE5.trans (Ext.alloc _ _))) (by repeat (first | exact Ext.refl _ | assumption | refine Ext.trans ?_ (Ext.alloc _ _) | refine Ext.trans ?_ (Ext.drew _) | refine Ext.trans ?_ (Ext.drewN _ _) | refine Ext.trans ?_ (by assumption))) _ _ _ 1 1 [.slice (some ⟨g, 0, none⟩) l.length c3] rfl rfl (rdA_new rfl (Ext.refl _)) (by simp [Value.oneCell']) (by omega) (by simp) ?_; intro v4 w4 hown4 hE4 hg4 hat4))
        go_roundw
        case rel => exact ⟨k + 1, _, by omega, by go_num, by rw [HS.out]; exact hG.push hE5 hc5 hR5 hsz (by rw [← HLN5.out]; exact hown4) _ hg4 hat4, hE4⟩
        case measure => simp [intOf]; omega
    · have hkl : k = ls.length := by omega
      subst hkl
      clear hlt
      rw [List.take_of_length_le (Nat.le_refl _)] at hG
      obtain ⟨A', c', rfl, hc'⟩ := hG.form
      go_wp2
      go_ret2
      exact ⟨A', c', by rw [List.length_map]; rfl, hc', hG.rd hsz, (by repeat (first | exact Ext.refl _ | assumption | refine Ext.trans ?_ (Ext.alloc _ _) | refine Ext.trans ?_ (Ext.drew _) | refine Ext.trans ?_ (Ext.drewN _ _) | refine Ext.trans ?_ (by assumption)))⟩
set_option maxHeartbeats 1000000 in
theorem spec_SwapColumns (A : Option Addr) (c : Nat) (ls : List (List Int)) (i k : Int) (lo hi : Nat) (w : World) (hl : ls.length ≤ 1048577) (hb : ∀ l ∈ ls, l.length ≤ 1048577) (hr : RdII w lo hi A ls) :
    Calls Try.prog 43 #[.slice A ls.length c, .int .i64 i, .int .i64 k] w (RetII2 w (scP ls i k)) := by
  cases h : par ls
  · rw [scP_bad (by simp [scOk, h])]
    go_enter Try.func43, Try.ntmps43
    go_wp2_with (go_at_call 48; refine (spec_plGood A c ls lo hi _ hl hb hr).mono ?_; rintro e w1 ⟨rfl, hE1⟩; obtain ⟨hc1, hf1⟩ := bcell hE1; have hs1 := hE1.size; (try simp only [World.size_alloc] at hs1))
    go_ret2
    exact retII2_lit (by repeat (first | exact Ext.refl _ | assumption | refine Ext.trans ?_ (Ext.alloc _ _) | refine Ext.trans ?_ (Ext.drew _) | refine Ext.trans ?_ (Ext.drewN _ _) | refine Ext.trans ?_ (by assumption)))
  by_cases h0 : 0 < ls.length
  case neg =>
    rw [scP_bad (by simp [scOk]; intro _ _; omega)]
    have t0 : ((ls.length : Int) == 0) = true := by simp; exact List.eq_nil_of_length_eq_zero (by omega)
    go_enter Try.func43, Try.ntmps43
    go_wp2_with (go_at_call 48; refine (spec_plGood A c ls lo hi _ hl hb hr).mono ?_; rintro e w1 ⟨rfl, hE1⟩; obtain ⟨hc1, hf1⟩ := bcell hE1; have hs1 := hE1.size; (try simp only [World.size_alloc] at hs1))
    go_ret2
    exact retII2_lit (by repeat (first | exact Ext.refl _ | assumption | refine Ext.trans ?_ (Ext.alloc _ _) | refine Ext.trans ?_ (Ext.drew _) | refine Ext.trans ?_ (Ext.drewN _ _) | refine Ext.trans ?_ (by assumption)))
  obtain ⟨⟨ra0, rc0, rp0, rq0⟩, l0, b, off, HX0, rfl, g3, d0, _, hR0, _, _⟩ := RdII.get hr h0
  simp only [Nat.add_zero] at d0 hR0
  have hhd : hdLen ls = l0.length := by simp [hdLen, HX0.out]
  have HH := Lib.hid hhd; clear hhd
  obtain ⟨hz0, hl0, _⟩ := par_row h HX0.out
  clear hz0
  have t0 : ((ls.length : Int) == 0) = false := by rw [beq_eq_false_iff_ne]; omega
  cases h1 : inB i 0 ((l0.length : Int) - 1)
  · rw [scP_bad (by rw [scOk, HH.out, h1]; simp)]
    go_enter Try.func43, Try.ntmps43
    go_wp2_with fail
    refine (spec_plGood _ c ls lo hi _ hl hb hr).mono ?_
    rintro e w1 ⟨rfl, hE1⟩
    have d1 := hE1.cell d0
    have g4 : b < w1.heap.size := by have := hE1.size; omega
    go_wp2_with (go_at_call 64; refine (l1In_any _ _ _ _).mono ?_; rintro e w' ⟨rfl, rfl⟩)
    go_ret2
    exact retII2_lit (by repeat (first | exact Ext.refl _ | assumption | refine Ext.trans ?_ (Ext.alloc _ _) | refine Ext.trans ?_ (Ext.drew _) | refine Ext.trans ?_ (Ext.drewN _ _) | refine Ext.trans ?_ (by assumption)))
  cases h2 : inB k 0 ((l0.length : Int) - 1)
  · rw [scP_bad (by rw [scOk, HH.out, h2]; simp)]
    go_enter Try.func43, Try.ntmps43
    go_wp2_with fail
    refine (spec_plGood _ c ls lo hi _ hl hb hr).mono ?_
    rintro e w1 ⟨rfl, hE1⟩
    have d1 := hE1.cell d0
    have g4 : b < w1.heap.size := by have := hE1.size; omega
    go_wp2_with (go_at_call 64; refine (l1In_any _ _ _ _).mono ?_; rintro e w' ⟨rfl, rfl⟩)
    go_ret2
    exact retII2_lit (by repeat (first | exact Ext.refl _ | assumption | refine Ext.trans ?_ (Ext.alloc _ _) | refine Ext.trans ?_ (Ext.drew _) | refine Ext.trans ?_ (Ext.drewN _ _) | refine Ext.trans ?_ (by assumption)))
  rw [scP_good (by rw [scOk, HH.out, h1, h2, h]; simp; omega)]
  have j1 := inB_iff.1 h1
  have j2 := inB_iff.1 h2
  obtain ⟨I, hI⟩ : ∃ I : Nat, i = I := ⟨i.toNat, by omega⟩
  obtain ⟨K, hK⟩ : ∃ K : Nat, k = K := ⟨k.toNat, by omega⟩
  subst hI; subst hK
  rw [Int.toNat_natCast, Int.toNat_natCast]
  have hI : I < l0.length := by omega
  have hK : K < l0.length := by omega
  have h24 := par_len h
  go_enter Try.func43, Try.ntmps43
  go_wp2_with fail
  refine (spec_plGood _ c ls lo hi _ hl hb hr).mono ?_
  rintro e w1 ⟨rfl, hE1⟩
  have d1 := hE1.cell d0
  have hs1 := hE1.size
  have g4 : b < w1.heap.size := by omega
  go_wp2_with (go_at_call 64; refine (l1In_any _ _ _ _).mono ?_; rintro e w' ⟨rfl, rfl⟩)
  have H := Lib.hid h
  clear h h1 h2 t0 j1 j2 d0 d1 hb
  go_loopw [8, 42] (fun v j wr => ∃ (k : Nat) (rs : List Row), k ≤ ls.length ∧ j = .int .i64 k ∧ GrowII wr w.heap.size 29 v ((ls.take k).map fun l => swapR l I K) rs ∧ Ext w wr) (fun _ j _ => ls.length - (intOf j).toNat)
  case atStart => exact ⟨0, [], Nat.zero_le _, rfl, GrowII.of0 (own_nil _ _ _ _), (by repeat (first | exact Ext.refl _ | assumption | refine Ext.trans ?_ (Ext.alloc _ _) | refine Ext.trans ?_ (Ext.drew _) | refine Ext.trans ?_ (Ext.drewN _ _) | refine Ext.trans ?_ (by assumption)))⟩
  case round =>
    obtain ⟨k, rs, hk, rfl, hG, hE⟩ := hrel
    have hsz := hE.size
    by_cases hlt : k < ls.length
    · obtain ⟨⟨ra, rc, rp, rq⟩, l, b', off', HX, eA, h3, e1, _, hR1, _, _⟩ := RdII.get (hr.ext hE) hlt
      injection eA with eA; injection eA with eb eo _; subst eb; subst eo
      simp only at e1 hR1
      obtain ⟨hz1, hl6, _⟩ := par_row H.out HX.out
      rw [HH.out] at hz1
      have hln : l.length ≤ l0.length := by omega
      have hln2 : l0.length ≤ l.length := by omega
      have hlk : ((ls.take k).map fun l => swapR l I K).length ≤ k := by simp; omega
      obtain ⟨x0, b1, off1, HX0', rfl, _, hrq, h4, _, _⟩ := RdI.get hR1 (k := I) (by omega)
      have HS : Hid ((ls.take (k + 1)).map (fun l => swapR l I K) = (ls.take k).map (fun l => swapR l I K) ++ [swapR l I K]) := by show _ = _; rw [take_snoc HX.out, List.map_append]; rfl
      clear hz1
      have iI : (0 : Int) ≤ I := by omega
      have iK : (0 : Int) ≤ K := by omega
      have iI2 : (I : Int) < l.length := by omega
      have iK2 : (K : Int) < l.length := by omega
      go_wp2_with fail
      refine (spec_l1Own _ rc _ l _ _ _ rfl (by omega) (Rd.toA hR1)).mono ?_
      rintro e w3 ⟨A3, c3, rfl, hc3, hR3, hE3⟩
      obtain ⟨x3, g, off3, _, rfl, hgl, hgw, _, _, _⟩ := RdI.get hR3 (k := I) (by omega)
      obtain ⟨x, b2, off2, HXI, eA, _, _, h5, y0, _⟩ := RdI.get (hR1.ext hE3) (k := I) (by omega)
      injection eA with eA; injection eA with eb eo _; subst eb; subst eo
      obtain ⟨y, b2, off2, HXK, eA, _, _, _, z0, _⟩ := RdI.get (hR1.ext hE3) (k := K) (by omega)
      injection eA with eA; injection eA with eb eo _; subst eb; subst eo
      obtain ⟨x', b2, off2, HX', eA, _, _, _, m0, n0⟩ := RdI.get hR3 (k := I) (by omega)
      injection eA with eA; injection eA with eb eo _; subst eb; subst eo
      obtain ⟨y', b2, off2, HY', eA, _, _, _, m1, n1⟩ := RdI.get hR3 (k := K) (by omega)
      injection eA with eA; injection eA with eb eo _; subst eb; subst eo
      have hbg : ¬ b1 = g := by omega
      have hgb : ¬ g = b1 := by omega
      have HSW : Hid ((swapR l I K).map (Value.int .i64) = ((l.map (Value.int .i64)).set I (.int .i64 y)).set K (.int .i64 x)) := by show _ = _; rw [swapR, HXI.out, HXK.out, List.map_set, List.map_set]; rfl
      clear HX' HY'
      by_cases hIK : I = K
      · subst hIK
        obtain rfl : x = y := by have := HXI.out.symm.trans HXK.out; injection this
        go_upto_region 10 with (fail)
        obtain ⟨w5, hw5⟩ : ∃ w5, w5 = ((w3.setCell ⟨g, off3 + I, none⟩ (.int .i64 x)).setCell ⟨g, off3 + I, none⟩ (.int .i64 x)) := ⟨_, rfl⟩
        rw [← hw5]
        have hE5 : Ext wr w5 := by rw [hw5]; repeat (first | exact hE3 | refine Ext.trans ?_ (Ext.drew _) | refine Ext.setCell ?_ hgl _)
        have hz5 : w5.heap.size = w3.heap.size := by rw [hw5]; simp [World.setCell]
        have hR5 : RdI w5 wr.heap.size w5.heap.size (some ⟨g, off3, none⟩) (swapR l I I) := by
          rw [hz5, hw5]
          unfold RdI
          rw [HSW.out]
          exact Rd.set_ (Rd.set_ hR3 I (.int .i64 x)) I (.int .i64 x)
        have hc5 : (swapR l I I).length ≤ c3 := by rw [swapR_len]; exact hc3
        have hln5 : l.length = (swapR l I I).length := (swapR_len l I I).symm
        have HLN5 := Lib.hid hln5
        clear hw5 hz5 hln5 m0 m1 n0 n1 y0 z0 hR3 hE3
        go_wp2_with (first | (at_builtin; refine wp_app _ w rfl (.tmp 62) (.tmp 64) 22 rfl 29 _ 1 24 Try.underlying22 sliceInfo rfl (by omega) _ _ _ rfl (ownsRow_ext hG.2.1 (hE5.trans (Ext.alloc _ _))) (by repeat (first | exact Ext.refl _ | assumption | refine Ext.trans ?_ (Ext.alloc _ _) | refine Ext.trans ?_ (Ext.drew _) | refine Ext.trans ?_ (Ext.drewN _ _) | refine Ext.trans ?_ (by assumption))) _ _ _ 1 1 [.slice (some ⟨g, off3, none⟩) l.length c3] rfl rfl (rdA_new rfl (Ext.refl _)) (by simp [Value.oneCell']) (by omega) (by simp) ?_; intro v4 w4 hown4 hE4 hg4 hat4))
        go_roundw
        case rel => exact ⟨k + 1, _, by omega, by go_num, by rw [HS.out]; exact hG.push hE5 hc5 hR5 hsz (by rw [← HLN5.out]; exact hown4) _ hg4 hat4, hE4⟩
        case measure => simp [intOf]; omega
      · have hKI : ¬ K = I := fun h => hIK h.symm
        go_upto_region 10 with (fail)
        obtain ⟨w5, hw5⟩ : ∃ w5, w5 = ((w3.setCell ⟨g, off3 + I, none⟩ (.int .i64 y)).setCell ⟨g, off3 + K, none⟩ (.int .i64 x)) := ⟨_, rfl⟩
        rw [← hw5]
        have hE5 : Ext wr w5 := by rw [hw5]; repeat (first | exact hE3 | refine Ext.trans ?_ (Ext.drew _) | refine Ext.setCell ?_ hgl _)
        have hz5 : w5.heap.size = w3.heap.size := by rw [hw5]; simp [World.setCell]
        have hR5 : RdI w5 wr.heap.size w5.heap.size (some ⟨g, off3, none⟩) (swapR l I K) := by
          rw [hz5, hw5]
          unfold RdI
          rw [HSW.out]
          exact Rd.set_ (Rd.set_ hR3 I (.int .i64 y)) K (.int .i64 x)
        have hc5 : (swapR l I K).length ≤ c3 := by rw [swapR_len]; exact hc3
        have hln5 : l.length = (swapR l I K).length := (swapR_len l I K).symm
        have HLN5 := Lib.hid hln5
        clear hw5 hz5 hln5 m0 m1 n0 n1 y0 z0 hR3 hE3
        go_wp2_with (first | (at_builtin; refine wp_app _ w rfl (.tmp 62) (.tmp 64) 22 rfl 29 _ 1 24 Try.underlying22 sliceInfo rfl (by omega) _ _ _ rfl (ownsRow_ext hG.2.1 (hE5.trans (Ext.alloc _ _))) (by repeat (first | exact Ext.refl _ | assumption | refine Ext.trans ?_ (Ext.alloc _ _) | refine Ext.trans ?_ (Ext.drew _) | refine Ext.trans ?_ (Ext.drewN _ _) | refine Ext.trans ?_ (by assumption))) _ _ _ 1 1 [.slice (some ⟨g, off3, none⟩) l.length c3] rfl rfl (rdA_new rfl (Ext.refl _)) (by simp [Value.oneCell']) (by omega) (by simp) ?_; intro v4 w4 hown4 hE4 hg4 hat4))
        go_roundw
        case rel => exact ⟨k + 1, _, by omega, by go_num, by rw [HS.out]; exact hG.push hE5 hc5 hR5 hsz (by rw [← HLN5.out]; exact hown4) _ hg4 hat4, hE4⟩
        case measure => simp [intOf]; omega
    · have hkl : k = ls.length := by omega
      subst hkl
      clear hlt
      rw [List.take_of_length_le (Nat.le_refl _)] at hG
      obtain ⟨A', c', rfl, hc'⟩ := hG.form
      go_wp2
      go_ret2
      exact ⟨A', c', by rw [List.length_map]; rfl, hc', hG.rd hsz, (by repeat (first | exact Ext.refl _ | assumption | refine Ext.trans ?_ (Ext.alloc _ _) | refine Ext.trans ?_ (Ext.drew _) | refine Ext.trans ?_ (Ext.drewN _ _) | refine Ext.trans ?_ (by assumption)))⟩
end Go.Proofs.Ytnhddepmhelgiaa
