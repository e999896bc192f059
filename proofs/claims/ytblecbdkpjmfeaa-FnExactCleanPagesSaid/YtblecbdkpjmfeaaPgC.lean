/- The walks of the functions on ends of pages: widows and orphans. -/
import Derived.Test.YtblecbdkpjmfeaaPgB
namespace Go.Proofs.Ytblecbdkpjmfeaa
open Go.RowKit
theorem impl_increases (A : Option Addr) (c : Nat) (l : List Int) (p q : Int) (lo hi : Nat) (w : World) (hl : l.length ≤ 1048577) (hr : RdI w lo hi A l) :
    Calls Try.prog 59 #[.slice A l.length c, .int .i64 p, .int .i64 q] w fun e w' => e = .returned (.bool (rise l p q)) ∧ Ext w w' := by
  go_enter Try.func59, Try.ntmps59
  go_wp2
  go_loopw [11] (fun i wr => ∃ k : Nat, k ≤ l.length ∧ i = .int .i64 k ∧ riseTo l p q k = true ∧ Ext w wr) (fun i _ => l.length - (intOf i).toNat)
  case atStart => exact ⟨0, Nat.zero_le _, rfl, rfl, Ext.refl _⟩
  case round =>
    obtain ⟨k, hk, rfl, hg, hE⟩ := hrel
    have HG := Lib.hid hg; clear hg
    by_cases hlt : k < l.length
    · obtain ⟨x, b, off, HX, rfl, h1, h2, h3, c0, _⟩ := RdI.get (hr.ext hE) hlt
      have bad : riseAt l p q k x = false → rise l p q = false := rise_bad HX.out
      have BAD := Lib.hid bad; clear bad
      cases t1 : inB x p q
      · go_wp2_with (go_at_call 40; refine (within_any _ _ _ _).mono ?_; rintro e w' ⟨rfl, rfl⟩)
        go_ret
        exact ⟨ret_bool (BAD.out (by simp [riseAt, t1])).symm, (by repeat (first | exact Ext.refl _ | assumption | refine Ext.trans ?_ (Ext.alloc _ _) | refine Ext.trans ?_ (Ext.drew _) | refine Ext.trans ?_ (Ext.drewN _ _) | refine Ext.trans ?_ (by assumption)))⟩
      by_cases hk0 : k = 0
      · subst hk0
        simp only [Nat.add_zero] at c0
        go_wp2_with (go_at_call 40; refine (within_any _ _ _ _).mono ?_; rintro e w' ⟨rfl, rfl⟩)
        go_roundw
        case rel => exact ⟨1, by omega, by go_num, by rw [riseTo_succ HX.out, HG.out]; simp [riseAt, t1], (by repeat (first | exact Ext.refl _ | assumption | refine Ext.trans ?_ (Ext.alloc _ _) | refine Ext.trans ?_ (Ext.drew _) | refine Ext.trans ?_ (Ext.drewN _ _) | refine Ext.trans ?_ (by assumption)))⟩
        case measure => simp [intOf]; omega
      · have hk1 : 1 ≤ k := by omega
        have hk2 : 0 < k := by omega
        obtain ⟨y, b', off', HY, eA, _, _, _, d0, _⟩ := RdI.get (hr.ext hE) (k := k - 1) (by omega)
        injection eA with eA; injection eA with eb eo _; subst eb; subst eo
        have hat : riseAt l p q k x = decide (y < x) := by simp [riseAt, t1, hk0, HY.out]
        have HAT := Lib.hid hat; clear hat hk0
        by_cases hyx : x ≤ y
        · go_wp2_with (go_at_call 40; refine (within_any _ _ _ _).mono ?_; rintro e w' ⟨rfl, rfl⟩)
          go_ret
          exact ⟨ret_bool (BAD.out (by rw [HAT.out]; simp; omega)).symm, (by repeat (first | exact Ext.refl _ | assumption | refine Ext.trans ?_ (Ext.alloc _ _) | refine Ext.trans ?_ (Ext.drew _) | refine Ext.trans ?_ (Ext.drewN _ _) | refine Ext.trans ?_ (by assumption)))⟩
        · have hyx' : y < x := by omega
          go_wp2_with (go_at_call 40; refine (within_any _ _ _ _).mono ?_; rintro e w' ⟨rfl, rfl⟩)
          go_roundw
          case rel => exact ⟨k + 1, by omega, by go_num, by rw [riseTo_succ HX.out, HG.out, HAT.out]; simp; omega, (by repeat (first | exact Ext.refl _ | assumption | refine Ext.trans ?_ (Ext.alloc _ _) | refine Ext.trans ?_ (Ext.drew _) | refine Ext.trans ?_ (Ext.drewN _ _) | refine Ext.trans ?_ (by assumption)))⟩
          case measure => simp [intOf]; omega
    · have hkl : k = l.length := by omega
      subst hkl
      clear hlt
      go_wp2
      go_ret
      exact ⟨ret_bool (by rw [rise, HG.out]), (by repeat (first | exact Ext.refl _ | assumption | refine Ext.trans ?_ (Ext.alloc _ _) | refine Ext.trans ?_ (Ext.drew _) | refine Ext.trans ?_ (Ext.drewN _ _) | refine Ext.trans ?_ (by assumption)))⟩
theorem spec_l1Rising (A : Option Addr) (c : Nat) (l : List Int) (p q : Int) (lo hi : Nat) (w : World) (hl : l.length ≤ 1048577) (hr : RdI w lo hi A l) :
    Calls Try.prog 58 #[.slice A l.length c, .int .i64 p, .int .i64 q] w fun e w' => e = .returned (.bool (rise l p q)) ∧ Ext w w' := by
  go_enter Try.func58, Try.ntmps58
  go_wp2
  go_loopw [11] (fun i wr => ∃ k : Nat, k ≤ l.length ∧ i = .int .i64 k ∧ riseTo l p q k = true ∧ Ext w wr) (fun i _ => l.length - (intOf i).toNat)
  case atStart => exact ⟨0, Nat.zero_le _, rfl, rfl, Ext.refl _⟩
  case round =>
    obtain ⟨k, hk, rfl, hg, hE⟩ := hrel
    have HG := Lib.hid hg; clear hg
    by_cases hlt : k < l.length
    · obtain ⟨x, b, off, HX, rfl, h1, h2, h3, c0, _⟩ := RdI.get (hr.ext hE) hlt
      have bad : riseAt l p q k x = false → rise l p q = false := rise_bad HX.out
      have BAD := Lib.hid bad; clear bad
      cases t1 : inB x p q
      · go_wp2_with (go_at_call 56; refine (l1In_any _ _ _ _).mono ?_; rintro e w' ⟨rfl, rfl⟩)
        go_ret
        exact ⟨ret_bool (BAD.out (by simp [riseAt, t1])).symm, (by repeat (first | exact Ext.refl _ | assumption | refine Ext.trans ?_ (Ext.alloc _ _) | refine Ext.trans ?_ (Ext.drew _) | refine Ext.trans ?_ (Ext.drewN _ _) | refine Ext.trans ?_ (by assumption)))⟩
      by_cases hk0 : k = 0
      · subst hk0
        simp only [Nat.add_zero] at c0
        go_wp2_with (go_at_call 56; refine (l1In_any _ _ _ _).mono ?_; rintro e w' ⟨rfl, rfl⟩)
        go_roundw
        case rel => exact ⟨1, by omega, by go_num, by rw [riseTo_succ HX.out, HG.out]; simp [riseAt, t1], (by repeat (first | exact Ext.refl _ | assumption | refine Ext.trans ?_ (Ext.alloc _ _) | refine Ext.trans ?_ (Ext.drew _) | refine Ext.trans ?_ (Ext.drewN _ _) | refine Ext.trans ?_ (by assumption)))⟩
        case measure => simp [intOf]; omega
      · have hk1 : 1 ≤ k := by omega
        have hk2 : 0 < k := by omega
        obtain ⟨y, b', off', HY, eA, _, _, _, d0, _⟩ := RdI.get (hr.ext hE) (k := k - 1) (by omega)
        injection eA with eA; injection eA with eb eo _; subst eb; subst eo
        have hat : riseAt l p q k x = decide (y < x) := by simp [riseAt, t1, hk0, HY.out]
        have HAT := Lib.hid hat; clear hat hk0
        by_cases hyx : x ≤ y
        · go_wp2_with (go_at_call 56; refine (l1In_any _ _ _ _).mono ?_; rintro e w' ⟨rfl, rfl⟩)
          go_ret
          exact ⟨ret_bool (BAD.out (by rw [HAT.out]; simp; omega)).symm, (by repeat (first | exact Ext.refl _ | assumption | refine Ext.trans ?_ (Ext.alloc _ _) | refine Ext.trans ?_ (Ext.drew _) | refine Ext.trans ?_ (Ext.drewN _ _) | refine Ext.trans ?_ (by assumption)))⟩
        · have hyx' : y < x := by omega
          go_wp2_with (go_at_call 56; refine (l1In_any _ _ _ _).mono ?_; rintro e w' ⟨rfl, rfl⟩)
          go_roundw
          case rel => exact ⟨k + 1, by omega, by go_num, by rw [riseTo_succ HX.out, HG.out, HAT.out]; simp; omega, (by repeat (first | exact Ext.refl _ | assumption | refine Ext.trans ?_ (Ext.alloc _ _) | refine Ext.trans ?_ (Ext.drew _) | refine Ext.trans ?_ (Ext.drewN _ _) | refine Ext.trans ?_ (by assumption)))⟩
          case measure => simp [intOf]; omega
    · have hkl : k = l.length := by omega
      subst hkl
      clear hlt
      go_wp2
      go_ret
      exact ⟨ret_bool (by rw [rise, HG.out]), (by repeat (first | exact Ext.refl _ | assumption | refine Ext.trans ?_ (Ext.alloc _ _) | refine Ext.trans ?_ (Ext.drew _) | refine Ext.trans ?_ (Ext.drewN _ _) | refine Ext.trans ?_ (by assumption)))⟩

theorem impl_areEnds (A B : Option Addr) (c d : Nat) (l : List SetL) (ends : List Int) (lo hi lo' hi' : Nat) (w : World) (hl : l.length ≤ 1048577) (hl' : ends.length ≤ 1048577) (hq : InRS l) (hr : RdS w lo hi A l) (hr' : RdI w lo' hi' B ends) :
    Calls Try.prog 48 #[.slice A l.length c, .slice B ends.length d] w fun e w' => e = .returned (.bool (areE l ends)) ∧ Ext w w' := by
  cases h1 : gal l
  · have hv : areE l ends = false := by simp [areE, h1]
    rw [hv]; clear hv
    go_enter Try.func48, Try.ntmps48
    go_wp2_with (go_at_call 15; refine (impl_IsGalley A c l lo hi _ hl hq hr).mono ?_; rintro e w1 ⟨rfl, hE1⟩; obtain ⟨hc1, hf1⟩ := bcell hE1; have hs1 := hE1.size; (try simp only [World.size_alloc] at hs1))
    go_ret
    exact ⟨rfl, (by repeat (first | exact Ext.refl _ | assumption | refine Ext.trans ?_ (Ext.alloc _ _) | refine Ext.trans ?_ (Ext.drew _) | refine Ext.trans ?_ (Ext.drewN _ _) | refine Ext.trans ?_ (by assumption)))⟩
  by_cases h2 : 0 < ends.length
  case neg =>
    have hv : areE l ends = false := by simp [areE, h2]
    rw [hv]; clear hv
    go_enter Try.func48, Try.ntmps48
    go_wp2_with (go_at_call 15; refine (impl_IsGalley A c l lo hi _ hl hq hr).mono ?_; rintro e w1 ⟨rfl, hE1⟩; obtain ⟨hc1, hf1⟩ := bcell hE1; have hs1 := hE1.size; (try simp only [World.size_alloc] at hs1))
    go_ret
    exact ⟨rfl, (by repeat (first | exact Ext.refl _ | assumption | refine Ext.trans ?_ (Ext.alloc _ _) | refine Ext.trans ?_ (Ext.drew _) | refine Ext.trans ?_ (Ext.drewN _ _) | refine Ext.trans ?_ (by assumption)))⟩
  cases h3 : rise ends 1 l.length
  · have hv : areE l ends = false := by simp [areE, h3]
    rw [hv]; clear hv
    go_enter Try.func48, Try.ntmps48
    go_wp2_with (first | (go_at_call 15; refine (impl_IsGalley A c l lo hi _ hl hq hr).mono ?_; rintro e w1 ⟨rfl, hE1⟩; obtain ⟨hc1, hf1⟩ := bcell hE1; have hs1 := hE1.size; (try simp only [World.size_alloc] at hs1)) | (go_at_call 59; refine (impl_increases B d ends 1 l.length lo' hi' _ hl' (hr'.ext hE1)).mono ?_; rintro e w2 ⟨rfl, hE2⟩; obtain ⟨hc2, hf2⟩ := bcell hE2; have hs2 := hE2.size; (try simp only [World.size_alloc] at hs2)))
    go_ret
    exact ⟨rfl, (by repeat (first | exact Ext.refl _ | assumption | refine Ext.trans ?_ (Ext.alloc _ _) | refine Ext.trans ?_ (Ext.drew _) | refine Ext.trans ?_ (Ext.drewN _ _) | refine Ext.trans ?_ (by assumption)))⟩
  obtain ⟨x, b, off, HX, rfl, g1, g2, g3, c0, _⟩ := RdI.get hr' (k := ends.length - 1) (by omega)
  have hv : areE l ends = (x == (l.length : Int)) := by
    simp only [areE, h1, h3, HX.out, h2, decide_true, Bool.and_self, Bool.true_and]
    rw [Bool.eq_iff_iff]; simp
  rw [hv]; clear hv
  go_enter Try.func48, Try.ntmps48
  go_wp2_with fail
  refine (impl_IsGalley A c l lo hi _ hl hq hr).mono ?_
  rintro e w1 ⟨rfl, hE1⟩
  go_wp2_with fail
  refine (impl_increases _ d ends 1 l.length lo' hi' _ hl' (hr'.ext hE1)).mono ?_
  rintro e w2 ⟨rfl, hE2⟩
  have c2 := (hE1.trans hE2).cell c0
  go_wp2_with fail
  go_ret
  exact ⟨rfl, (by repeat (first | exact Ext.refl _ | assumption | refine Ext.trans ?_ (Ext.alloc _ _) | refine Ext.trans ?_ (Ext.drew _) | refine Ext.trans ?_ (Ext.drewN _ _) | refine Ext.trans ?_ (by assumption)))⟩
theorem spec_pgEnds (A B : Option Addr) (c d : Nat) (l : List SetL) (ends : List Int) (lo hi lo' hi' : Nat) (w : World) (hl : l.length ≤ 1048577) (hl' : ends.length ≤ 1048577) (hr : RdS w lo hi A l) (hr' : RdI w lo' hi' B ends) :
    Calls Try.prog 46 #[.slice A l.length c, .slice B ends.length d] w fun e w' => e = .returned (.bool (areE l ends)) ∧ Ext w w' := by
  cases h1 : gal l
  · have hv : areE l ends = false := by simp [areE, h1]
    rw [hv]; clear hv
    go_enter Try.func46, Try.ntmps46
    go_wp2_with (go_at_call 38; refine (spec_pgGood A c l lo hi _ hl hr).mono ?_; rintro e w1 ⟨rfl, hE1⟩; obtain ⟨hc1, hf1⟩ := bcell hE1; have hs1 := hE1.size; (try simp only [World.size_alloc] at hs1))
    go_ret
    exact ⟨rfl, (by repeat (first | exact Ext.refl _ | assumption | refine Ext.trans ?_ (Ext.alloc _ _) | refine Ext.trans ?_ (Ext.drew _) | refine Ext.trans ?_ (Ext.drewN _ _) | refine Ext.trans ?_ (by assumption)))⟩
  by_cases h2 : 0 < ends.length
  case neg =>
    have hv : areE l ends = false := by simp [areE, h2]
    rw [hv]; clear hv
    go_enter Try.func46, Try.ntmps46
    go_wp2_with (go_at_call 38; refine (spec_pgGood A c l lo hi _ hl hr).mono ?_; rintro e w1 ⟨rfl, hE1⟩; obtain ⟨hc1, hf1⟩ := bcell hE1; have hs1 := hE1.size; (try simp only [World.size_alloc] at hs1))
    go_ret
    exact ⟨rfl, (by repeat (first | exact Ext.refl _ | assumption | refine Ext.trans ?_ (Ext.alloc _ _) | refine Ext.trans ?_ (Ext.drew _) | refine Ext.trans ?_ (Ext.drewN _ _) | refine Ext.trans ?_ (by assumption)))⟩
  cases h3 : rise ends 1 l.length
  · have hv : areE l ends = false := by simp [areE, h3]
    rw [hv]; clear hv
    go_enter Try.func46, Try.ntmps46
    go_wp2_with (first | (go_at_call 38; refine (spec_pgGood A c l lo hi _ hl hr).mono ?_; rintro e w1 ⟨rfl, hE1⟩; obtain ⟨hc1, hf1⟩ := bcell hE1; have hs1 := hE1.size; (try simp only [World.size_alloc] at hs1)) | (go_at_call 58; refine (spec_l1Rising B d ends 1 l.length lo' hi' _ hl' (hr'.ext hE1)).mono ?_; rintro e w2 ⟨rfl, hE2⟩; obtain ⟨hc2, hf2⟩ := bcell hE2; have hs2 := hE2.size; (try simp only [World.size_alloc] at hs2)))
    go_ret
    exact ⟨rfl, (by repeat (first | exact Ext.refl _ | assumption | refine Ext.trans ?_ (Ext.alloc _ _) | refine Ext.trans ?_ (Ext.drew _) | refine Ext.trans ?_ (Ext.drewN _ _) | refine Ext.trans ?_ (by assumption)))⟩
  obtain ⟨x, b, off, HX, rfl, g1, g2, g3, c0, _⟩ := RdI.get hr' (k := ends.length - 1) (by omega)
  have hv : areE l ends = (x == (l.length : Int)) := by
    simp only [areE, h1, h3, HX.out, h2, decide_true, Bool.and_self, Bool.true_and]
    rw [Bool.eq_iff_iff]; simp
  rw [hv]; clear hv
  go_enter Try.func46, Try.ntmps46
  go_wp2_with fail
  refine (spec_pgGood A c l lo hi _ hl hr).mono ?_
  rintro e w1 ⟨rfl, hE1⟩
  go_wp2_with fail
  refine (spec_l1Rising _ d ends 1 l.length lo' hi' _ hl' (hr'.ext hE1)).mono ?_
  rintro e w2 ⟨rfl, hE2⟩
  have c2 := (hE1.trans hE2).cell c0
  go_wp2_with fail
  go_ret
  exact ⟨rfl, (by repeat (first | exact Ext.refl _ | assumption | refine Ext.trans ?_ (Ext.alloc _ _) | refine Ext.trans ?_ (Ext.drew _) | refine Ext.trans ?_ (Ext.drewN _ _) | refine Ext.trans ?_ (by assumption)))⟩
end Go.Proofs.Ytblecbdkpjmfeaa
