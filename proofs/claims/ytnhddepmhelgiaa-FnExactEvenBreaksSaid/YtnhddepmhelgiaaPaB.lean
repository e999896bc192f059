/- The walk of the program's AreParallel. -/
import Derived.Test.YtnhddepmhelgiaaPaA
namespace Go.Proofs.Ytnhddepmhelgiaa
open Go.RowKit
set_option linter.unusedVariables false
theorem impl_AreParallel (A : Option Addr) (c : Nat) (ls : List (List Int)) (lo hi : Nat) (w : World) (hl : ls.length ≤ 1048577) (hb : ∀ l ∈ ls, l.length ≤ 1048577) (hr : RdII w lo hi A ls) :
    Calls Try.prog 18 #[.slice A ls.length c] w fun e w' => e = .returned (.bool (par ls)) ∧ Ext w w' := by
  have HB := Lib.hid hb; clear hb
  go_enter Try.func18, Try.ntmps18
  go_wp2
  go_loopw [9] (fun i wr => ∃ k : Nat, k ≤ ls.length ∧ i = .int .i64 k ∧ rowsTo ls k = true ∧ Ext w wr) (fun i _ => ls.length - (intOf i).toNat)
  case atStart => exact ⟨0, Nat.zero_le _, rfl, rfl, Ext.refl _⟩
  case round =>
    obtain ⟨k, hk, rfl, hg, hE⟩ := hrel
    have HG := Lib.hid hg; clear hg
    by_cases hlt : k < ls.length
    · obtain ⟨r, l, b, off, HX, rfl, h3, c0, hlc, hR, _, _⟩ := RdII.get (hr.ext hE) hlt
      obtain ⟨ra, rc, rp, rq⟩ := r
      simp only at c0 hlc hR
      obtain ⟨r0, l0, b', off', HX0, eA, _, d0, _, _, _, _⟩ := RdII.get (hr.ext hE) (k := 0) (by omega)
      injection eA with eA; injection eA with eb eo _; subst eb; subst eo
      simp only [Nat.add_zero] at d0
      have hll := HB.out l (List.mem_of_getElem? HX.out)
      have hll0 := HB.out l0 (List.mem_of_getElem? HX0.out)
      have hh : hdLen ls = l0.length := by simp [hdLen, HX0.out]
      have HH := Lib.hid hh; clear hh
      have bad : rowOk l0.length l = false → par ls = false := fun h => par_bad HX.out (by rw [HH.out]; exact h)
      have BAD := Lib.hid bad; clear bad
      by_cases t2 : l.length = l0.length
      · have t2' : ((l.length : Int) != (l0.length : Int)) = false := by simp [t2]
        have T2 := Lib.hid t2; clear t2
        cases t1 : inB l.length 1 6
        · go_wp2_with (go_at_call 50; refine (within_any _ _ _ _).mono ?_; rintro e w' ⟨rfl, rfl⟩)
          go_ret
          exact ⟨ret_bool (BAD.out (by simp [rowOk, t1])).symm, (by repeat (first | exact Ext.refl _ | assumption | refine Ext.trans ?_ (Ext.alloc _ _) | refine Ext.trans ?_ (Ext.drew _) | refine Ext.trans ?_ (Ext.drewN _ _) | refine Ext.trans ?_ (by assumption)))⟩
        · have hl1 := (inB_iff.1 t1).1
          obtain ⟨_, b2, off2, _, rfl, _, _, g3, _, _⟩ := RdI.get hR (k := 0) (by omega)
          go_wp2_with (go_at_call 50; refine (within_any _ _ _ _).mono ?_; rintro e w' ⟨rfl, rfl⟩)
          obtain ⟨wo, rfl⟩ : ∃ wo : World, wo = wr := ⟨_, rfl⟩
          have T1 := Lib.hid t1; clear t1
          go_loop [28] (fun i => ∃ j : Nat, j ≤ l.length ∧ i = .int .i64 j ∧ (l.take j).all (fun x => inB x 0 200) = true) (fun i => l.length - (intOf i).toNat)
          case atStart => exact ⟨0, Nat.zero_le _, rfl, rfl⟩
          case round =>
            obtain ⟨j, hj, rfl, ha⟩ := hrel
            have HA := Lib.hid ha; clear ha
            by_cases hjt : j < l.length
            · obtain ⟨x, b3, off3, HY, eA2, _, _, _, y0, _⟩ := RdI.get hR hjt
              injection eA2 with eA2; injection eA2 with eb eo _; subst eb; subst eo
              cases t3 : inB x 0 200
              · go_wp2_with (go_at_call 50; refine (within_any _ _ _ _).mono ?_; rintro e w' ⟨rfl, rfl⟩)
                go_ret
                exact ⟨ret_bool (BAD.out (by rw [rowOk, all_bad HY.out t3]; simp)).symm, (by repeat (first | exact Ext.refl _ | assumption | refine Ext.trans ?_ (Ext.alloc _ _) | refine Ext.trans ?_ (Ext.drew _) | refine Ext.trans ?_ (Ext.drewN _ _) | refine Ext.trans ?_ (by assumption)))⟩
              · go_wp2_with (go_at_call 50; refine (within_any _ _ _ _).mono ?_; rintro e w' ⟨rfl, rfl⟩)
                go_round
                case rel => exact ⟨j + 1, by omega, by go_num, by rw [all_take_succ _ HY.out, HA.out, t3]; rfl⟩
                case measure => simp [intOf]; omega
            · have hjl : j = l.length := by omega
              subst hjl
              clear hjt
              have h := HA.out
              rw [List.take_of_length_le (Nat.le_refl _)] at h
              have HH2 := Lib.hid h; clear h
              go_wp2
              go_roundw
              case rel => exact ⟨k + 1, by omega, by go_num, by rw [rowsTo_succ HX.out, HG.out, HH.out, rowOk, T1.out, HH2.out]; simp [T2.out], (by repeat (first | exact Ext.refl _ | assumption | refine Ext.trans ?_ (Ext.alloc _ _) | refine Ext.trans ?_ (Ext.drew _) | refine Ext.trans ?_ (Ext.drewN _ _) | refine Ext.trans ?_ (by assumption)))⟩
              case measure => simp [intOf]; omega
      · have t2' : ((l.length : Int) != (l0.length : Int)) = true := by simp; omega
        go_wp2_with (go_at_call 50; refine (within_any _ _ _ _).mono ?_; rintro e w' ⟨rfl, rfl⟩)
        go_ret
        exact ⟨ret_bool (BAD.out (by simp [rowOk, t2])).symm, (by repeat (first | exact Ext.refl _ | assumption | refine Ext.trans ?_ (Ext.alloc _ _) | refine Ext.trans ?_ (Ext.drew _) | refine Ext.trans ?_ (Ext.drewN _ _) | refine Ext.trans ?_ (by assumption)))⟩
    · have hkl : k = ls.length := by omega
      subst hkl
      clear hlt
      go_wp2
      go_ret
      exact ⟨ret_bool (by simp [par, HG.out]; try omega), (by repeat (first | exact Ext.refl _ | assumption | refine Ext.trans ?_ (Ext.alloc _ _) | refine Ext.trans ?_ (Ext.drew _) | refine Ext.trans ?_ (Ext.drewN _ _) | refine Ext.trans ?_ (by assumption)))⟩
end Go.Proofs.Ytnhddepmhelgiaa
