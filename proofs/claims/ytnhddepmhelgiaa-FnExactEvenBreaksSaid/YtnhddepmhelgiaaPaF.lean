/- The walks of BlanksOf. -/
import Derived.Test.YtnhddepmhelgiaaPaP
import Derived.Deep.RegionWith
namespace Go.Proofs.Ytnhddepmhelgiaa
open Go.RowKit
set_option linter.unusedVariables false
theorem impl_BlanksOf (A : Option Addr) (c : Nat) (ls : List (List Int)) (lo hi : Nat) (w : World) (hl : ls.length ≤ 1048577) (hb : ∀ l ∈ ls, l.length ≤ 1048577) (hr : RdII w lo hi A ls) :
    Calls Try.prog 23 #[.slice A ls.length c] w (RetI2 w (blP ls)) := by
  cases h : par ls
  · rw [blP_bad h]
    go_enter Try.func23, Try.ntmps23
    go_wp2_with (go_at_call 18; refine (impl_AreParallel A c ls lo hi _ hl hb hr).mono ?_; rintro e w1 ⟨rfl, hE1⟩; obtain ⟨hc1, hf1⟩ := bcell hE1; have hs1 := hE1.size; (try simp only [World.size_alloc] at hs1))
    go_ret2
    exact retI2_lit (by repeat (first | exact Ext.refl _ | assumption | refine Ext.trans ?_ (Ext.alloc _ _) | refine Ext.trans ?_ (Ext.drew _) | refine Ext.trans ?_ (Ext.drewN _ _) | refine Ext.trans ?_ (by assumption)))
  rw [blP_good h]
  by_cases h0 : 0 < ls.length
  case neg =>
    obtain rfl : ls = [] := List.eq_nil_of_length_eq_zero (by omega)
    go_enter Try.func23, Try.ntmps23
    go_wp2_with (go_at_call 18; refine (impl_AreParallel A c [] lo hi _ (by simp) (by simp) hr).mono ?_; rintro e w1 ⟨rfl, hE1⟩; obtain ⟨hc1, hf1⟩ := bcell hE1; have hs1 := hE1.size; (try simp only [World.size_alloc] at hs1))
    go_loopw [24] (fun i wr => i = .int .i64 0 ∧ Ext w wr) (fun i _ => 0)
    case atStart => exact ⟨rfl, (by repeat (first | exact Ext.refl _ | assumption | refine Ext.trans ?_ (Ext.alloc _ _) | refine Ext.trans ?_ (Ext.drew _) | refine Ext.trans ?_ (Ext.drewN _ _) | refine Ext.trans ?_ (by assumption)))⟩
    case round =>
      obtain ⟨rfl, hE⟩ := hrel
      go_wp2
      go_ret2
      exact ⟨_, _, rfl, Nat.zero_le _, Rd.nil (Nat.le_refl _), hE⟩
  obtain ⟨⟨ra, rc, rp, rq⟩, l0, b, off, HX0, rfl, g3, d0, _, hR0, _, _⟩ := RdII.get hr h0
  simp only [Nat.add_zero] at d0 hR0
  have hhd : hdLen ls = l0.length := by simp [hdLen, HX0.out]
  have HH := Lib.hid hhd; clear hhd
  have hl0 := (par_row h HX0.out).2.1
  obtain ⟨cs0, hmk, hf0⟩ := make_ints (P := Try.prog) 29 3 Try.underlying29 intInfo0 l0.length (by omega)
  have HF0 := Lib.hid hf0; clear hf0
  have HB := Lib.hid hb
  go_enter Try.func23, Try.ntmps23
  go_wp2_with fail
  refine (impl_AreParallel _ c ls lo hi _ hl hb hr).mono ?_
  rintro e w1 ⟨rfl, hE1⟩
  have d1 := hE1.cell d0
  have hs1 := hE1.size
  have g4 : b < w1.heap.size := by omega
  have H1 := Lib.hid h
  clear hb d0
  go_wp2
  clear hmk h
  obtain ⟨G, hG⟩ : ∃ G, G = w1.heap.size + 1 := ⟨_, rfl⟩
  have hB0 : Blk ((w1.alloc (.cells #[] 3)).alloc (.cells cs0 3)) G 3 cs0 := by rw [hG]; have := Blk.new (w1.alloc (.cells #[] 3)) 3 cs0; simpa using this
  rw [← hG]
  have hwG : w.heap.size ≤ G := by omega
  clear hG
  go_loopw [24] (fun i wr => ∃ (k : Nat) (cur : Array Value), k ≤ ls.length ∧ i = .int .i64 k ∧ Blk wr G 3 cur ∧ FillI cur l0.length (fun c => blkTo ls k c) ∧ Ext w wr) (fun i _ => ls.length - (intOf i).toNat)
  case atStart => exact ⟨0, cs0, Nat.zero_le _, rfl, hB0, HF0.out.congr (fun i _ => by simp [blkTo]), (by repeat (first | exact Ext.refl _ | assumption | refine Ext.trans ?_ (Ext.alloc _ _) | refine Ext.trans ?_ (Ext.drew _) | refine Ext.trans ?_ (Ext.drewN _ _) | refine Ext.trans ?_ (by assumption)))⟩
  case round =>
    obtain ⟨k, cur, hk, rfl, hB, hF, hE⟩ := hrel
    obtain ⟨wo, rfl⟩ : ∃ wo : World, wo = wr := ⟨_, rfl⟩
    by_cases hlt : k < ls.length
    · obtain ⟨⟨ra', rc', rp', rq'⟩, l, b', off', HX, eA, h3', c0', _, hR, _, _⟩ := RdII.get hr hlt
      injection eA with eA; injection eA with eb eo _; subst eb; subst eo
      simp only at c0' hR
      have c0 := hE.cell c0'
      have h3 : b < wo.heap.size := by have := hE.size; omega
      clear c0' h3'
      have hll := HB.out l (List.mem_of_getElem? HX.out)
      have hln := (par_row H1.out HX.out).1
      rw [HH.out] at hln
      have HLN := Lib.hid hln
      have hln1 : l.length ≤ l0.length := by omega
      have hln2 : l0.length ≤ l.length := by omega
      clear hln
      go_wp2
      go_loopw [30] (fun i wr => ∃ (j : Nat) (cur : Array Value), j ≤ l.length ∧ i = .int .i64 j ∧ Blk wr G 3 cur ∧ FillI cur l0.length (fun c => if c < j then blkTo ls (k + 1) c else blkTo ls k c) ∧ Ext w wr) (fun i _ => l.length - (intOf i).toNat)
      case atStart => exact ⟨0, cur, Nat.zero_le _, rfl, hB, hF.congr (fun i _ => by simp), hE⟩
      case round =>
        obtain ⟨j, cur, hj, rfl, hB, hF, hE⟩ := hrel
        by_cases hjt : j < l.length
        · obtain ⟨x, b2, off2, HY, rfl, _, _, h4, y0, _⟩ := RdI.get (hR.ext hE) hjt
          obtain ⟨q0, r0⟩ := hF.cell hB (k := j) (by omega)
          rw [if_neg (by omega)] at q0
          have hgl := hB.lt
          have i0 : (0 : Int) ≤ j := by omega
          have i1 : (j : Int) < l0.length := by omega
          have i2 : (j : Int) < l.length := by omega
          go_wp2_with fail
          go_region_with ((go_at_call 55; refine (impl_greatest _ _ _ l _ _ _ rfl hll ((hR.ext hE).ext (by repeat (first | exact Ext.refl _ | assumption | refine Ext.trans ?_ (Ext.alloc _ _) | refine Ext.trans ?_ (Ext.drew _) | refine Ext.trans ?_ (Ext.drewN _ _) | refine Ext.trans ?_ (by assumption))))).mono ?_; rintro e w1 ⟨rfl, rfl⟩))
          all_goals
            go_wp2
            go_roundw
            case rel => exact ⟨j + 1, _, by omega, by go_num, (hB.set_ j _).ext (Ext.drew _), (hF.set_ j _).congr (fun i _ => by
                by_cases e : i = j
                · subst e; rw [if_pos (by omega), if_pos rfl, blkTo_succ HX.out HY.out]
                · simp only [e, if_false]
                  by_cases e2 : i < j
                  · rw [if_pos e2, if_pos (by omega)]
                  · rw [if_neg e2, if_neg (by omega)]), (Ext.setCell hE hwG _).trans (Ext.drew _)⟩
            case measure => simp [intOf]; omega
        · have hjl : j = l.length := by omega
          subst hjl
          clear hjt
          go_wp2
          go_roundw
          case rel => exact ⟨k + 1, cur, by omega, by go_num, hB, hF.congr (fun i hi => by rw [if_pos (by omega)]), hE⟩
          case measure => simp [intOf]; omega
    · have hkl : k = ls.length := by omega
      subst hkl
      clear hlt
      go_wp2
      go_ret2
      refine ⟨_, _, by rw [blkL_len, HH.out]; rfl, by rw [blkL_len, HH.out]; exact Nat.le_refl _, ?_, hE⟩
      exact hF.rd hB hwG (by rw [blkL_len, HH.out]) (fun i hi => blkL_at (by rw [HH.out]; exact hi))
theorem spec_plBlanks (A : Option Addr) (c : Nat) (ls : List (List Int)) (lo hi : Nat) (w : World) (hl : ls.length ≤ 1048577) (hb : ∀ l ∈ ls, l.length ≤ 1048577) (h : par ls = true) (hr : RdII w lo hi A ls) :
    Calls Try.prog 54 #[.slice A ls.length c] w (RetI w (blkL ls)) := by
  by_cases h0 : 0 < ls.length
  case neg =>
    obtain rfl : ls = [] := List.eq_nil_of_length_eq_zero (by omega)
    go_enter Try.func54, Try.ntmps54
    go_wp2
    go_ret
    exact ⟨_, _, rfl, Nat.zero_le _, Rd.nil (Nat.le_refl _), Ext.refl _⟩
  obtain ⟨⟨ra, rc, rp, rq⟩, l0, b, off, HX0, rfl, g3, d0, _, hR0, _, _⟩ := RdII.get hr h0
  simp only [Nat.add_zero] at d0 hR0
  have hhd : hdLen ls = l0.length := by simp [hdLen, HX0.out]
  have HH := Lib.hid hhd; clear hhd
  have hl0 := (par_row h HX0.out).2.1
  obtain ⟨cs0, hmk, hf0⟩ := make_ints (P := Try.prog) 29 3 Try.underlying29 intInfo0 l0.length (by omega)
  have HF0 := Lib.hid hf0; clear hf0
  have HB := Lib.hid hb
  have t0 : ((ls.length : Int) == 0) = false := by rw [beq_eq_false_iff_ne]; omega
  have H1 := Lib.hid h
  clear hb h
  go_enter Try.func54, Try.ntmps54
  go_wp2
  clear hmk t0
  obtain ⟨G, hG⟩ : ∃ G, G = w.heap.size := ⟨_, rfl⟩
  have hB0 : Blk (w.alloc (.cells cs0 3)) G 3 cs0 := by rw [hG]; exact Blk.new _ _ _
  rw [← hG]
  have hwG : w.heap.size ≤ G := by omega
  clear hG
  go_loopw [18] (fun i wr => ∃ (k : Nat) (cur : Array Value), k ≤ ls.length ∧ i = .int .i64 k ∧ Blk wr G 3 cur ∧ FillI cur l0.length (fun c => blkTo ls k c) ∧ Ext w wr) (fun i _ => ls.length - (intOf i).toNat)
  case atStart => exact ⟨0, cs0, Nat.zero_le _, rfl, hB0, HF0.out.congr (fun i _ => by simp [blkTo]), (by repeat (first | exact Ext.refl _ | assumption | refine Ext.trans ?_ (Ext.alloc _ _) | refine Ext.trans ?_ (Ext.drew _) | refine Ext.trans ?_ (Ext.drewN _ _) | refine Ext.trans ?_ (by assumption)))⟩
  case round =>
    obtain ⟨k, cur, hk, rfl, hB, hF, hE⟩ := hrel
    obtain ⟨wo, rfl⟩ : ∃ wo : World, wo = wr := ⟨_, rfl⟩
    by_cases hlt : k < ls.length
    · obtain ⟨⟨ra', rc', rp', rq'⟩, l, b', off', HX, eA, h3', c0', _, hR, _, _⟩ := RdII.get hr hlt
      injection eA with eA; injection eA with eb eo _; subst eb; subst eo
      simp only at c0' hR
      have c0 := hE.cell c0'
      have h3 : b < wo.heap.size := by have := hE.size; omega
      clear c0' h3'
      have hll := HB.out l (List.mem_of_getElem? HX.out)
      have hln := (par_row H1.out HX.out).1
      rw [HH.out] at hln
      have HLN := Lib.hid hln
      have hln1 : l.length ≤ l0.length := by omega
      have hln2 : l0.length ≤ l.length := by omega
      clear hln
      go_wp2
      go_loopw [24] (fun i wr => ∃ (j : Nat) (cur : Array Value), j ≤ l.length ∧ i = .int .i64 j ∧ Blk wr G 3 cur ∧ FillI cur l0.length (fun c => if c < j then blkTo ls (k + 1) c else blkTo ls k c) ∧ Ext w wr) (fun i _ => l.length - (intOf i).toNat)
      case atStart => exact ⟨0, cur, Nat.zero_le _, rfl, hB, hF.congr (fun i _ => by simp), hE⟩
      case round =>
        obtain ⟨j, cur, hj, rfl, hB, hF, hE⟩ := hrel
        by_cases hjt : j < l.length
        · obtain ⟨x, b2, off2, HY, rfl, _, _, h4, y0, _⟩ := RdI.get (hR.ext hE) hjt
          obtain ⟨q0, r0⟩ := hF.cell hB (k := j) (by omega)
          rw [if_neg (by omega)] at q0
          have hgl := hB.lt
          have i0 : (0 : Int) ≤ j := by omega
          have i1 : (j : Int) < l0.length := by omega
          have i2 : (j : Int) < l.length := by omega
          go_wp2_with fail
          go_region_with ((go_at_call 74; refine (spec_plHigh _ _ _ l _ _ _ rfl hll ((hR.ext hE).ext (by repeat (first | exact Ext.refl _ | assumption | refine Ext.trans ?_ (Ext.alloc _ _) | refine Ext.trans ?_ (Ext.drew _) | refine Ext.trans ?_ (Ext.drewN _ _) | refine Ext.trans ?_ (by assumption))))).mono ?_; rintro e w1 ⟨rfl, rfl⟩))
          all_goals
            go_wp2
            go_roundw
            case rel => exact ⟨j + 1, _, by omega, by go_num, (hB.set_ j _).ext (Ext.drew _), (hF.set_ j _).congr (fun i _ => by
                by_cases e : i = j
                · subst e; rw [if_pos (by omega), if_pos rfl, blkTo_succ HX.out HY.out]
                · simp only [e, if_false]
                  by_cases e2 : i < j
                  · rw [if_pos e2, if_pos (by omega)]
                  · rw [if_neg e2, if_neg (by omega)]), (Ext.setCell hE hwG _).trans (Ext.drew _)⟩
            case measure => simp [intOf]; omega
        · have hjl : j = l.length := by omega
          subst hjl
          clear hjt
          go_wp2
          go_roundw
          case rel => exact ⟨k + 1, cur, by omega, by go_num, hB, hF.congr (fun i hi => by rw [if_pos (by omega)]), hE⟩
          case measure => simp [intOf]; omega
    · have hkl : k = ls.length := by omega
      subst hkl
      clear hlt
      go_wp2
      go_ret
      refine ⟨_, _, by rw [blkL_len, HH.out]; rfl, by rw [blkL_len, HH.out]; exact Nat.le_refl _, ?_, hE⟩
      exact hF.rd hB hwG (by rw [blkL_len, HH.out]) (fun i hi => blkL_at (by rw [HH.out]; exact hi))
theorem spec_BlanksOf (A : Option Addr) (c : Nat) (ls : List (List Int)) (lo hi : Nat) (w : World) (hl : ls.length ≤ 1048577) (hb : ∀ l ∈ ls, l.length ≤ 1048577) (hr : RdII w lo hi A ls) :
    Calls Try.prog 22 #[.slice A ls.length c] w (RetI2 w (blP ls)) := by
  cases h : par ls
  · rw [blP_bad h]
    go_enter Try.func22, Try.ntmps22
    go_wp2_with (go_at_call 48; refine (spec_plGood A c ls lo hi _ hl hb hr).mono ?_; rintro e w1 ⟨rfl, hE1⟩; obtain ⟨hc1, hf1⟩ := bcell hE1; have hs1 := hE1.size; (try simp only [World.size_alloc] at hs1))
    go_ret2
    exact retI2_lit (by repeat (first | exact Ext.refl _ | assumption | refine Ext.trans ?_ (Ext.alloc _ _) | refine Ext.trans ?_ (Ext.drew _) | refine Ext.trans ?_ (Ext.drewN _ _) | refine Ext.trans ?_ (by assumption)))
  · rw [blP_good h]
    go_enter Try.func22, Try.ntmps22
    go_wp2_with (go_at_call 48; refine (spec_plGood A c ls lo hi _ hl hb hr).mono ?_; rintro e w1 ⟨rfl, hE1⟩; obtain ⟨hc1, hf1⟩ := bcell hE1; have hs1 := hE1.size; (try simp only [World.size_alloc] at hs1))
    refine (spec_plBlanks A c ls lo hi _ hl hb h (hr.ext hE1)).mono ?_
    rintro e w2 ⟨A2, c2, rfl, hc2, hR2, hE2⟩
    go_wp2_with fail
    go_ret2
    exact ⟨A2, c2, rfl, hc2, Rd.wide hR2 hs1 (Nat.le_refl _) (Nat.le_refl _), (by repeat (first | exact Ext.refl _ | assumption | refine Ext.trans ?_ (Ext.alloc _ _) | refine Ext.trans ?_ (Ext.drew _) | refine Ext.trans ?_ (Ext.drewN _ _) | refine Ext.trans ?_ (by assumption)))⟩
end Go.Proofs.Ytnhddepmhelgiaa
