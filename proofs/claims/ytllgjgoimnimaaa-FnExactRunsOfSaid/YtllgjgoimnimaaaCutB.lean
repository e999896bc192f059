/- The walks of AreCutIns, the program's and the reference's. -/
import Derived.Test.YtllgjgoimnimaaaCutA
namespace Go.Proofs.Ytllgjgoimnimaaa
open Go.RowKit
set_option linter.unusedVariables false
theorem areCut_bad {m : Int} {l : List Cut} (h : goodTo l l.length = false) : areCut m l = false := by simp [areCut, h]
theorem areCut_tight {m : Int} {l : List Cut} (h : roomTo m l 230 = false) : areCut m l = false := by simp [areCut, h]
theorem all_take_succ {l : List Cut} {j : Nat} {y : Cut} (p : Cut → Bool) (h : l[j]? = some y) : (l.take (j + 1)).all p = ((l.take j).all p && p y) := by
  rw [take_snoc h]; simp
theorem all_take_mono {l : List Cut} {j k : Nat} (p : Cut → Bool) (hj : j ≤ k) (h : (l.take j).all p = false) : (l.take k).all p = false := by
  rw [List.all_eq_false] at h ⊢
  obtain ⟨x, hx, hp⟩ := h
  refine ⟨x, ?_, hp⟩
  have : (l.take j) = (l.take k).take j := by rw [List.take_take, Nat.min_eq_left hj]
  rw [this] at hx
  exact List.mem_of_mem_take hx

set_option maxRecDepth 100000 in
theorem impl_AreCutIns (m : Int) (A : Option Addr) (c : Nat) (l : List Cut) (lo hi : Nat) (w : World) (hl : l.length ≤ 1048577) (hcap : l.length ≤ c) (hr : RdC w lo hi A l) :
    Calls Try.prog 19 #[.int .i64 m, .slice A l.length c] w fun e w' => e = .returned (.bool (areCut m l)) ∧ Ext w w' := by
  go_enter Try.func19, Try.ntmps19
  go_wp2
  go_loopw [12] (fun i wr => ∃ k : Nat, k ≤ l.length ∧ i = .int .i64 k ∧ goodTo l k = true ∧ Ext w wr) (fun i _ => l.length - (intOf i).toNat)
  case atStart => exact ⟨0, Nat.zero_le _, rfl, rfl, Ext.refl _⟩
  case round =>
    obtain ⟨k, hk, rfl, hg, hE⟩ := hrel
    have HG := Lib.hid hg; clear hg
    obtain ⟨wo, rfl⟩ : ∃ wo : World, wo = wr := ⟨_, rfl⟩
    by_cases hlt : k < l.length
    · obtain ⟨x, b, off, HX, rfl, h1, h2, h3, c0, c1, c2, c3⟩ := RdC.get (hr.ext hE) hlt
      cases hcut : isCut x
      · go_wp2_with (go_at_call 52; refine (isCutIn_any x _).mono ?_; rintro e w1 ⟨rfl, hE1⟩; obtain ⟨hc1, hf1⟩ := bcell hE1; have hs1 := hE1.size; (try simp only [World.size_alloc] at hs1))
        go_ret
        refine ⟨ret_bool ?_, (by repeat (first | exact Ext.refl _ | assumption | refine Ext.trans ?_ (Ext.alloc _ _) | refine Ext.trans ?_ (Ext.drew _) | refine Ext.trans ?_ (Ext.drewN _ _) | refine Ext.trans ?_ (by assumption)))⟩
        rw [areCut_bad (goodTo_mono (k := k + 1) _ (by omega) (by rw [goodTo_succ HX.out]; simp [goodAt, hcut]))]
      · go_wp2_with (go_at_call 52; refine (isCutIn_any x _).mono ?_; rintro e w1 ⟨rfl, hE1⟩; obtain ⟨hc1, hf1⟩ := bcell hE1; have hs1 := hE1.size; (try simp only [World.size_alloc] at hs1))
        have x0 := box_new hE1 (j := 0) rfl
        have x1 := box_new hE1 (j := 1) rfl
        have x3 := box_new hE1 (j := 3) rfl
        have hE2 : Ext w w1 := (by repeat (first | exact Ext.refl _ | assumption | refine Ext.trans ?_ (Ext.alloc _ _) | refine Ext.trans ?_ (Ext.drew _) | refine Ext.trans ?_ (Ext.drewN _ _) | refine Ext.trans ?_ (by assumption)))
        clear hc1 hf1 c0 c1 c2 c3 hE1
        have HCUT := Lib.hid hcut; clear hcut
        go_loopw [24] (fun i wr => ∃ j : Nat, j ≤ k ∧ i = .int .i64 j ∧ (l.take j).all (fun y => !clashC x y) = true ∧ Ext w1 wr) (fun i _ => k - (intOf i).toNat)
        case atStart => exact ⟨0, Nat.zero_le _, rfl, rfl, Ext.refl _⟩
        case round =>
          obtain ⟨j, hj, rfl, ha, hE3⟩ := hrel
          have HA := Lib.hid ha; clear ha
          by_cases hjt : j < k
          · obtain ⟨y, b', off', HY, eA, h1', h2', h3', d0, d1, d2, d3⟩ := RdC.get ((hr.ext hE2).ext hE3) (k := j) (by omega)
            injection eA with eA
            injection eA with eb eo _
            subst eb; subst eo
            have hlt2 : wo.heap.size < wr.heap.size := by have := hE3.size; omega
            have y0 := hE3.cell x0
            have y1 := hE3.cell x1
            have y3 := hE3.cell x3
            cases t1 : (x.side == y.side)
            · go_wp2
              go_roundw
              case rel => exact ⟨j + 1, by omega, by go_num, by rw [all_take_succ _ HY.out, HA.out]; simp [clashC, t1], (by repeat (first | exact Ext.refl _ | assumption | refine Ext.trans ?_ (Ext.alloc _ _) | refine Ext.trans ?_ (Ext.drew _) | refine Ext.trans ?_ (Ext.drewN _ _) | refine Ext.trans ?_ (by assumption)))⟩
              case measure => simp [intOf]; omega
            · by_cases t2 : x.line < wrap64 (y.line + y.lines)
              · by_cases t3 : y.line < wrap64 (x.line + x.lines)
                · go_wp2
                  go_ret
                  refine ⟨ret_bool ?_, (by repeat (first | exact Ext.refl _ | assumption | refine Ext.trans ?_ (Ext.alloc _ _) | refine Ext.trans ?_ (Ext.drew _) | refine Ext.trans ?_ (Ext.drewN _ _) | refine Ext.trans ?_ (by assumption)))⟩
                  have hcl : (l.take k).all (fun y => !clashC x y) = false := all_take_mono _ (j := j + 1) (by omega) (by rw [all_take_succ _ HY.out]; simp [clashC, t1, t2, t3])
                  rw [areCut_bad (goodTo_mono (k := k + 1) _ (by omega) (by rw [goodTo_succ HX.out, goodAt, hcl]; simp))]
                · go_wp2
                  go_roundw
                  case rel => exact ⟨j + 1, by omega, by go_num, by rw [all_take_succ _ HY.out, HA.out]; simp [clashC, t1, t2, t3], (by repeat (first | exact Ext.refl _ | assumption | refine Ext.trans ?_ (Ext.alloc _ _) | refine Ext.trans ?_ (Ext.drew _) | refine Ext.trans ?_ (Ext.drewN _ _) | refine Ext.trans ?_ (by assumption)))⟩
                  case measure => simp [intOf]; omega
              · go_wp2
                go_roundw
                case rel => exact ⟨j + 1, by omega, by go_num, by rw [all_take_succ _ HY.out, HA.out]; simp [clashC, t1, t2], (by repeat (first | exact Ext.refl _ | assumption | refine Ext.trans ?_ (Ext.alloc _ _) | refine Ext.trans ?_ (Ext.drew _) | refine Ext.trans ?_ (Ext.drewN _ _) | refine Ext.trans ?_ (by assumption)))⟩
                case measure => simp [intOf]; omega
          · go_wp2
            go_roundw
            case rel =>
              have e : j = k := by omega
              have HA' := HA.out
              rw [e] at HA'
              exact ⟨k + 1, by omega, by go_num, by rw [goodTo_succ HX.out, HG.out, goodAt, HCUT.out, HA']; rfl, (by repeat (first | exact Ext.refl _ | assumption | refine Ext.trans ?_ (Ext.alloc _ _) | refine Ext.trans ?_ (Ext.drew _) | refine Ext.trans ?_ (Ext.drewN _ _) | refine Ext.trans ?_ (by assumption)))⟩
            case measure => simp [intOf]; omega
    · have hkl : k = l.length := by omega
      subst hkl
      clear hlt
      go_wp2
      go_loopw [9] (fun i wr => ∃ j : Nat, j ≤ 230 ∧ i = .int .i64 j ∧ roomTo m l j = true ∧ Ext w wr) (fun i _ => 230 - (intOf i).toNat)
      case atStart => exact ⟨0, Nat.zero_le _, rfl, rfl, hE⟩
      case round =>
        obtain ⟨j, hj, rfl, ha, hE3⟩ := hrel
        have HA := Lib.hid ha; clear ha
        by_cases hjt : j < 230
        · by_cases hm : meas m l j < 40
          · go_wp2_with (go_at_call 53; refine (measureAt_any m A c l j lo hi _ hl (hr.ext hE3)).mono ?_; rintro e w1 ⟨rfl, hE1⟩; obtain ⟨hc1, hf1⟩ := bcell hE1; have hs1 := hE1.size; (try simp only [World.size_alloc] at hs1))
            go_ret
            refine ⟨ret_bool ?_, (by repeat (first | exact Ext.refl _ | assumption | refine Ext.trans ?_ (Ext.alloc _ _) | refine Ext.trans ?_ (Ext.drew _) | refine Ext.trans ?_ (Ext.drewN _ _) | refine Ext.trans ?_ (by assumption)))⟩
            rw [areCut_tight (roomTo_mono (k := j + 1) _ (by omega) (by rw [roomTo_succ]; simp; omega))]
          · go_wp2_with (go_at_call 53; refine (measureAt_any m A c l j lo hi _ hl (hr.ext hE3)).mono ?_; rintro e w1 ⟨rfl, hE1⟩; obtain ⟨hc1, hf1⟩ := bcell hE1; have hs1 := hE1.size; (try simp only [World.size_alloc] at hs1))
            go_roundw
            case rel => exact ⟨j + 1, by omega, by go_num, by rw [roomTo_succ, HA.out]; simp; omega, (by repeat (first | exact Ext.refl _ | assumption | refine Ext.trans ?_ (Ext.alloc _ _) | refine Ext.trans ?_ (Ext.drew _) | refine Ext.trans ?_ (Ext.drewN _ _) | refine Ext.trans ?_ (by assumption)))⟩
            case measure => simp [intOf]; omega
        · have hj2 : j = 230 := by omega
          subst hj2
          clear hjt
          cases hcol : inB m 40 600
          · go_wp2_with (go_at_call 54; refine (isColumn_any m _).mono ?_; rintro e w' ⟨rfl, rfl⟩)
            go_ret
            exact ⟨ret_bool (by simp [areCut, hcol]), (by repeat (first | exact Ext.refl _ | assumption | refine Ext.trans ?_ (Ext.alloc _ _) | refine Ext.trans ?_ (Ext.drew _) | refine Ext.trans ?_ (Ext.drewN _ _) | refine Ext.trans ?_ (by assumption)))⟩
          · go_wp2_with (go_at_call 54; refine (isColumn_any m _).mono ?_; rintro e w' ⟨rfl, rfl⟩)
            go_ret
            exact ⟨ret_bool (by simp [areCut, hcol, HG.out, HA.out]; omega), (by repeat (first | exact Ext.refl _ | assumption | refine Ext.trans ?_ (Ext.alloc _ _) | refine Ext.trans ?_ (Ext.drew _) | refine Ext.trans ?_ (Ext.drewN _ _) | refine Ext.trans ?_ (by assumption)))⟩

set_option maxRecDepth 100000 in
theorem spec_inGood (m : Int) (A : Option Addr) (c : Nat) (l : List Cut) (lo hi : Nat) (w : World) (hl : l.length ≤ 1048577) (hcap : l.length ≤ c) (hr : RdC w lo hi A l) :
    Calls Try.prog 51 #[.int .i64 m, .slice A l.length c] w fun e w' => e = .returned (.bool (areCut m l)) ∧ Ext w w' := by
  cases hcol : inB m 40 600
  · go_enter Try.func51, Try.ntmps51
    go_wp2_with (go_at_call 48; refine (l1In_any _ _ _ _).mono ?_; rintro e w' ⟨rfl, rfl⟩)
    go_ret
    exact ⟨ret_bool (by simp [areCut, hcol]), (by repeat (first | exact Ext.refl _ | assumption | refine Ext.trans ?_ (Ext.alloc _ _) | refine Ext.trans ?_ (Ext.drew _) | refine Ext.trans ?_ (Ext.drewN _ _) | refine Ext.trans ?_ (by assumption)))⟩
  by_cases hlen : l.length ≤ 10
  case neg =>
    have hlen' : 10 < l.length := by omega
    go_enter Try.func51, Try.ntmps51
    go_wp2_with (go_at_call 48; refine (l1In_any _ _ _ _).mono ?_; rintro e w' ⟨rfl, rfl⟩)
    go_ret
    exact ⟨ret_bool (by simp [areCut, hlen']), (by repeat (first | exact Ext.refl _ | assumption | refine Ext.trans ?_ (Ext.alloc _ _) | refine Ext.trans ?_ (Ext.drew _) | refine Ext.trans ?_ (Ext.drewN _ _) | refine Ext.trans ?_ (by assumption)))⟩
  go_enter Try.func51, Try.ntmps51
  go_wp2_with (go_at_call 48; refine (l1In_any _ _ _ _).mono ?_; rintro e w' ⟨rfl, rfl⟩)
  have HCOL := Lib.hid hcol; clear hcol
  go_loopw [20] (fun i wr => ∃ k : Nat, k ≤ l.length ∧ i = .int .i64 k ∧ goodTo l k = true ∧ Ext w wr) (fun i _ => l.length - (intOf i).toNat)
  case atStart => exact ⟨0, Nat.zero_le _, rfl, rfl, Ext.refl _⟩
  case round =>
    obtain ⟨k, hk, rfl, hg, hE⟩ := hrel
    have HG := Lib.hid hg; clear hg
    obtain ⟨wo, rfl⟩ : ∃ wo : World, wo = wr := ⟨_, rfl⟩
    by_cases hlt : k < l.length
    · obtain ⟨x, b, off, HX, rfl, h1, h2, h3, c0, c1, c2, c3⟩ := RdC.get (hr.ext hE) hlt
      cases hcut : isCut x
      · go_wp2_with (go_at_call 57; refine (inCut_any x _).mono ?_; rintro e w1 ⟨rfl, hE1⟩; obtain ⟨hc1, hf1⟩ := bcell hE1; have hs1 := hE1.size; (try simp only [World.size_alloc] at hs1))
        go_ret
        refine ⟨ret_bool ?_, (by repeat (first | exact Ext.refl _ | assumption | refine Ext.trans ?_ (Ext.alloc _ _) | refine Ext.trans ?_ (Ext.drew _) | refine Ext.trans ?_ (Ext.drewN _ _) | refine Ext.trans ?_ (by assumption)))⟩
        rw [areCut_bad (goodTo_mono (k := k + 1) _ (by omega) (by rw [goodTo_succ HX.out]; simp [goodAt, hcut]))]
      · go_wp2_with (go_at_call 57; refine (inCut_any x _).mono ?_; rintro e w1 ⟨rfl, hE1⟩; obtain ⟨hc1, hf1⟩ := bcell hE1; have hs1 := hE1.size; (try simp only [World.size_alloc] at hs1))
        have x0 := box_new hE1 (j := 0) rfl
        have x1 := box_new hE1 (j := 1) rfl
        have x3 := box_new hE1 (j := 3) rfl
        have hE2 : Ext w w1 := (by repeat (first | exact Ext.refl _ | assumption | refine Ext.trans ?_ (Ext.alloc _ _) | refine Ext.trans ?_ (Ext.drew _) | refine Ext.trans ?_ (Ext.drewN _ _) | refine Ext.trans ?_ (by assumption)))
        clear hc1 hf1 c0 c1 c2 c3 hE1
        have HCUT := Lib.hid hcut; clear hcut
        go_loopw [32] (fun i wr => ∃ j : Nat, j ≤ k ∧ i = .int .i64 j ∧ (l.take j).all (fun y => !clashC x y) = true ∧ Ext w1 wr) (fun i _ => k - (intOf i).toNat)
        case atStart => exact ⟨0, Nat.zero_le _, rfl, rfl, Ext.refl _⟩
        case round =>
          obtain ⟨j, hj, rfl, ha, hE3⟩ := hrel
          have HA := Lib.hid ha; clear ha
          by_cases hjt : j < k
          · obtain ⟨y, b', off', HY, eA, h1', h2', h3', d0, d1, d2, d3⟩ := RdC.get ((hr.ext hE2).ext hE3) (k := j) (by omega)
            injection eA with eA
            injection eA with eb eo _
            subst eb; subst eo
            have hlt2 : wo.heap.size < wr.heap.size := by have := hE3.size; omega
            have y0 := hE3.cell x0
            have y1 := hE3.cell x1
            have y3 := hE3.cell x3
            cases t1 : (x.side == y.side)
            · go_wp2
              go_roundw
              case rel => exact ⟨j + 1, by omega, by go_num, by rw [all_take_succ _ HY.out, HA.out]; simp [clashC, t1], (by repeat (first | exact Ext.refl _ | assumption | refine Ext.trans ?_ (Ext.alloc _ _) | refine Ext.trans ?_ (Ext.drew _) | refine Ext.trans ?_ (Ext.drewN _ _) | refine Ext.trans ?_ (by assumption)))⟩
              case measure => simp [intOf]; omega
            · by_cases t2 : x.line < wrap64 (y.line + y.lines)
              · by_cases t3 : y.line < wrap64 (x.line + x.lines)
                · go_wp2
                  go_ret
                  refine ⟨ret_bool ?_, (by repeat (first | exact Ext.refl _ | assumption | refine Ext.trans ?_ (Ext.alloc _ _) | refine Ext.trans ?_ (Ext.drew _) | refine Ext.trans ?_ (Ext.drewN _ _) | refine Ext.trans ?_ (by assumption)))⟩
                  have hcl : (l.take k).all (fun y => !clashC x y) = false := all_take_mono _ (j := j + 1) (by omega) (by rw [all_take_succ _ HY.out]; simp [clashC, t1, t2, t3])
                  rw [areCut_bad (goodTo_mono (k := k + 1) _ (by omega) (by rw [goodTo_succ HX.out, goodAt, hcl]; simp))]
                · go_wp2
                  go_roundw
                  case rel => exact ⟨j + 1, by omega, by go_num, by rw [all_take_succ _ HY.out, HA.out]; simp [clashC, t1, t2, t3], (by repeat (first | exact Ext.refl _ | assumption | refine Ext.trans ?_ (Ext.alloc _ _) | refine Ext.trans ?_ (Ext.drew _) | refine Ext.trans ?_ (Ext.drewN _ _) | refine Ext.trans ?_ (by assumption)))⟩
                  case measure => simp [intOf]; omega
              · go_wp2
                go_roundw
                case rel => exact ⟨j + 1, by omega, by go_num, by rw [all_take_succ _ HY.out, HA.out]; simp [clashC, t1, t2], (by repeat (first | exact Ext.refl _ | assumption | refine Ext.trans ?_ (Ext.alloc _ _) | refine Ext.trans ?_ (Ext.drew _) | refine Ext.trans ?_ (Ext.drewN _ _) | refine Ext.trans ?_ (by assumption)))⟩
                case measure => simp [intOf]; omega
          · go_wp2
            go_roundw
            case rel =>
              have e : j = k := by omega
              have HA' := HA.out
              rw [e] at HA'
              exact ⟨k + 1, by omega, by go_num, by rw [goodTo_succ HX.out, HG.out, goodAt, HCUT.out, HA']; rfl, (by repeat (first | exact Ext.refl _ | assumption | refine Ext.trans ?_ (Ext.alloc _ _) | refine Ext.trans ?_ (Ext.drew _) | refine Ext.trans ?_ (Ext.drewN _ _) | refine Ext.trans ?_ (by assumption)))⟩
            case measure => simp [intOf]; omega
    · have hkl : k = l.length := by omega
      subst hkl
      clear hlt
      go_wp2
      go_loopw [9] (fun i wr => ∃ j : Nat, j ≤ 230 ∧ i = .int .i64 j ∧ roomTo m l j = true ∧ Ext w wr) (fun i _ => 230 - (intOf i).toNat)
      case atStart => exact ⟨0, Nat.zero_le _, rfl, rfl, hE⟩
      case round =>
        obtain ⟨j, hj, rfl, ha, hE3⟩ := hrel
        have HA := Lib.hid ha; clear ha
        by_cases hjt : j < 230
        · by_cases hm : meas m l j < 40
          · go_wp2_with (go_at_call 56; refine (inMeasure_any m A c l j lo hi _ hl (hr.ext hE3)).mono ?_; rintro e w1 ⟨rfl, hE1⟩; obtain ⟨hc1, hf1⟩ := bcell hE1; have hs1 := hE1.size; (try simp only [World.size_alloc] at hs1))
            go_ret
            refine ⟨ret_bool ?_, (by repeat (first | exact Ext.refl _ | assumption | refine Ext.trans ?_ (Ext.alloc _ _) | refine Ext.trans ?_ (Ext.drew _) | refine Ext.trans ?_ (Ext.drewN _ _) | refine Ext.trans ?_ (by assumption)))⟩
            rw [areCut_tight (roomTo_mono (k := j + 1) _ (by omega) (by rw [roomTo_succ]; simp; omega))]
          · go_wp2_with (go_at_call 56; refine (inMeasure_any m A c l j lo hi _ hl (hr.ext hE3)).mono ?_; rintro e w1 ⟨rfl, hE1⟩; obtain ⟨hc1, hf1⟩ := bcell hE1; have hs1 := hE1.size; (try simp only [World.size_alloc] at hs1))
            go_roundw
            case rel => exact ⟨j + 1, by omega, by go_num, by rw [roomTo_succ, HA.out]; simp; omega, (by repeat (first | exact Ext.refl _ | assumption | refine Ext.trans ?_ (Ext.alloc _ _) | refine Ext.trans ?_ (Ext.drew _) | refine Ext.trans ?_ (Ext.drewN _ _) | refine Ext.trans ?_ (by assumption)))⟩
            case measure => simp [intOf]; omega
        · have hj2 : j = 230 := by omega
          subst hj2
          clear hjt
          go_wp2
          go_ret
          exact ⟨ret_bool (by simp [areCut, HCOL.out, HG.out, HA.out, hlen]), (by repeat (first | exact Ext.refl _ | assumption | refine Ext.trans ?_ (Ext.alloc _ _) | refine Ext.trans ?_ (Ext.drew _) | refine Ext.trans ?_ (Ext.drewN _ _) | refine Ext.trans ?_ (by assumption)))⟩

theorem spec_AreCutIns (m : Int) (A : Option Addr) (c : Nat) (l : List Cut) (lo hi : Nat) (w : World) (hl : l.length ≤ 1048577) (hcap : l.length ≤ c) (hr : RdC w lo hi A l) :
    Calls Try.prog 17 #[.int .i64 m, .slice A l.length c] w fun e w' => e = .returned (.bool (areCut m l)) ∧ Ext w w' := by
  go_enter Try.func17, Try.ntmps17
  go_wp2_with (go_at_call 51; refine (spec_inGood m A c l lo hi _ hl hcap hr).mono ?_; rintro e w1 ⟨rfl, hE1⟩; obtain ⟨hc1, hf1⟩ := bcell hE1; have hs1 := hE1.size; (try simp only [World.size_alloc] at hs1))
  go_ret
  exact ⟨rfl, (by repeat (first | exact Ext.refl _ | assumption | refine Ext.trans ?_ (Ext.alloc _ _) | refine Ext.trans ?_ (Ext.drew _) | refine Ext.trans ?_ (Ext.drewN _ _) | refine Ext.trans ?_ (by assumption)))⟩
end Go.Proofs.Ytllgjgoimnimaaa
