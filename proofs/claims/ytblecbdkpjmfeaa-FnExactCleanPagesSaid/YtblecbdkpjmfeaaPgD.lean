/- The walks of isLast, isFirst, isWidow, isOrphan; pgFirst, pgLast. -/
import Derived.Test.YtblecbdkpjmfeaaPgC
namespace Go.Proofs.Ytblecbdkpjmfeaa
open Go.RowKit
theorem ne_beq (a b : Int) : decide (a ≠ b) = (a != b) := by rw [Bool.eq_iff_iff]; simp
theorem impl_isLast (A : Option Addr) (c : Nat) (l : List SetL) (i : Nat) (lo hi : Nat) (w : World) (hl : l.length ≤ 1048577) (hil : i < l.length) (hr : RdS w lo hi A l) :
    Calls Try.prog 61 #[.slice A l.length c, .int .i64 i] w fun e w' => e = .returned (.bool (lastP l i)) ∧ Ext w w' := by
  obtain ⟨x, b, off, HX, rfl, _, _, h3, _, _, c2⟩ := RdS.get hr hil
  by_cases he : i + 1 = l.length
  · have hv : lastP l i = true := by simp [lastP, he]
    rw [hv]; clear hv
    have t1 : ((i : Int) == (l.length : Int) - 1) = true := by simp; omega
    have q1 : IntKind.i64.wrap ((l.length : Int) - 1) = (l.length : Int) - 1 := IntWalk.i64_in _ (by omega)
    have HE := Lib.hid he; clear he
    go_enter Try.func61, Try.ntmps61
    go_wp2
    go_quiet (fail)
    go_wp2
    go_ret
    exact ⟨rfl, (by repeat (first | exact Ext.refl _ | assumption | refine Ext.trans ?_ (Ext.alloc _ _) | refine Ext.trans ?_ (Ext.drew _) | refine Ext.trans ?_ (Ext.drewN _ _) | refine Ext.trans ?_ (by assumption)))⟩
  · obtain ⟨y, b', off', HY, eA, _, _, _, _, _, d2⟩ := RdS.get hr (k := i + 1) (by omega)
    injection eA with eA; injection eA with eb eo _; subst eb; subst eo
    have hv : lastP l i = (y.para != x.para) := by simp only [lastP, pa_at HX.out, pa_at HY.out, he, ne_beq, decide_false, Bool.false_or]
    rw [hv]; clear hv
    have t1 : ((i : Int) == (l.length : Int) - 1) = false := by simp; omega
    have g1 : (0 : Int) ≤ (i : Int) + 1 := by omega
    have g2 : (i : Int) + 1 < l.length := by omega
    have g3 : (0 : Int) ≤ (i : Int) := by omega
    have g4 : (i : Int) < l.length := by omega
    have q1 : IntKind.i64.wrap ((l.length : Int) - 1) = (l.length : Int) - 1 := IntWalk.i64_in _ (by omega)
    have q2 : IntKind.i64.wrap ((i : Int) + 1) = (i : Int) + 1 := IntWalk.i64_in _ (by omega)
    have q3 : ((i : Int) + 1).toNat = i + 1 := by omega
    have HE := Lib.hid he; clear he
    go_enter Try.func61, Try.ntmps61
    go_wp2
    go_quiet (fail)
    go_wp2
    go_ret
    exact ⟨rfl, (by repeat (first | exact Ext.refl _ | assumption | refine Ext.trans ?_ (Ext.alloc _ _) | refine Ext.trans ?_ (Ext.drew _) | refine Ext.trans ?_ (Ext.drewN _ _) | refine Ext.trans ?_ (by assumption)))⟩
theorem impl_isFirst (A : Option Addr) (c : Nat) (l : List SetL) (i : Nat) (lo hi : Nat) (w : World) (hl : l.length ≤ 1048577) (hil : i < l.length) (hr : RdS w lo hi A l) :
    Calls Try.prog 60 #[.slice A l.length c, .int .i64 i] w fun e w' => e = .returned (.bool (firstP l i)) ∧ Ext w w' := by
  obtain ⟨x, b, off, HX, rfl, _, _, h3, _, _, c2⟩ := RdS.get hr hil
  by_cases he : i = 0
  · subst he
    have hv : firstP l 0 = true := by simp [firstP]
    rw [hv]; clear hv
    go_enter Try.func60, Try.ntmps60
    go_wp2
    go_quiet (fail)
    go_wp2
    go_ret
    exact ⟨rfl, (by repeat (first | exact Ext.refl _ | assumption | refine Ext.trans ?_ (Ext.alloc _ _) | refine Ext.trans ?_ (Ext.drew _) | refine Ext.trans ?_ (Ext.drewN _ _) | refine Ext.trans ?_ (by assumption)))⟩
  · obtain ⟨y, b', off', HY, eA, _, _, _, _, _, d2⟩ := RdS.get hr (k := i - 1) (by omega)
    injection eA with eA; injection eA with eb eo _; subst eb; subst eo
    have hv : firstP l i = (y.para != x.para) := by simp only [firstP, pa_at HX.out, pa_at HY.out, he, ne_beq, decide_false, Bool.false_or]
    rw [hv]; clear hv
    have t1 : ((i : Int) == 0) = false := by simp; omega
    have g1 : (0 : Int) ≤ (i : Int) - 1 := by omega
    have g2 : (i : Int) - 1 < l.length := by omega
    have g3 : (0 : Int) ≤ (i : Int) := by omega
    have g4 : (i : Int) < l.length := by omega
    have g5 : 1 ≤ i := by omega
    have q2 : IntKind.i64.wrap ((i : Int) - 1) = (i : Int) - 1 := IntWalk.i64_in _ (by omega)
    have q3 : ((i : Int) - 1).toNat = i - 1 := by omega
    have HE := Lib.hid he; clear he
    go_enter Try.func60, Try.ntmps60
    go_wp2
    go_quiet (fail)
    go_wp2
    go_ret
    exact ⟨rfl, (by repeat (first | exact Ext.refl _ | assumption | refine Ext.trans ?_ (Ext.alloc _ _) | refine Ext.trans ?_ (Ext.drew _) | refine Ext.trans ?_ (Ext.drewN _ _) | refine Ext.trans ?_ (by assumption)))⟩
theorem impl_isWidow (A : Option Addr) (c : Nat) (l : List SetL) (i : Nat) (lo hi : Nat) (w : World) (hl : l.length ≤ 1048577) (hil : i < l.length) (hr : RdS w lo hi A l) :
    Calls Try.prog 51 #[.slice A l.length c, .int .i64 i] w fun e w' => e = .returned (.bool (widow l i)) ∧ Ext w w' := by
  by_cases h0 : 0 < i
  case neg =>
    obtain rfl : i = 0 := by omega
    have hv : widow l 0 = false := by simp [widow]
    rw [hv]; clear hv
    go_enter Try.func51, Try.ntmps51
    go_wp2
    go_ret
    exact ⟨rfl, (by repeat (first | exact Ext.refl _ | assumption | refine Ext.trans ?_ (Ext.alloc _ _) | refine Ext.trans ?_ (Ext.drew _) | refine Ext.trans ?_ (Ext.drewN _ _) | refine Ext.trans ?_ (by assumption)))⟩
  cases h1 : lastP l i
  · have hv : widow l i = false := by simp [widow, h1]
    rw [hv]; clear hv
    go_enter Try.func51, Try.ntmps51
    go_wp2_with (go_at_call 61; refine (impl_isLast A c l i lo _ _ hl hil hr).mono ?_; rintro e w1 ⟨rfl, hE1⟩; obtain ⟨hc1, hf1⟩ := bcell hE1; have hs1 := hE1.size; (try simp only [World.size_alloc] at hs1))
    go_ret
    exact ⟨rfl, (by repeat (first | exact Ext.refl _ | assumption | refine Ext.trans ?_ (Ext.alloc _ _) | refine Ext.trans ?_ (Ext.drew _) | refine Ext.trans ?_ (Ext.drewN _ _) | refine Ext.trans ?_ (by assumption)))⟩
  · have hv : widow l i = !firstP l i := by simp [widow, h1, h0]
    rw [hv]; clear hv
    go_enter Try.func51, Try.ntmps51
    go_wp2_with (first | (go_at_call 61; refine (impl_isLast A c l i lo _ _ hl hil hr).mono ?_; rintro e w1 ⟨rfl, hE1⟩; obtain ⟨hc1, hf1⟩ := bcell hE1; have hs1 := hE1.size; (try simp only [World.size_alloc] at hs1)) | (go_at_call 60; refine (impl_isFirst A c l i lo _ _ hl hil (hr.ext hE1)).mono ?_; rintro e w2 ⟨rfl, hE2⟩; obtain ⟨hc2, hf2⟩ := bcell hE2; have hs2 := hE2.size; (try simp only [World.size_alloc] at hs2)))
    go_ret
    exact ⟨rfl, (by repeat (first | exact Ext.refl _ | assumption | refine Ext.trans ?_ (Ext.alloc _ _) | refine Ext.trans ?_ (Ext.drew _) | refine Ext.trans ?_ (Ext.drewN _ _) | refine Ext.trans ?_ (by assumption)))⟩
theorem impl_isOrphan (A : Option Addr) (c : Nat) (l : List SetL) (i : Nat) (lo hi : Nat) (w : World) (hl : l.length ≤ 1048577) (hi1 : 1 ≤ i) (hil : i ≤ l.length) (hr : RdS w lo hi A l) :
    Calls Try.prog 49 #[.slice A l.length c, .int .i64 i] w fun e w' => e = .returned (.bool (orphan l i)) ∧ Ext w w' := by
  by_cases h0 : i < l.length
  case neg =>
    have hv : orphan l i = false := by simp [orphan, h0]
    rw [hv]; clear hv
    go_enter Try.func49, Try.ntmps49
    go_wp2
    go_ret
    exact ⟨rfl, (by repeat (first | exact Ext.refl _ | assumption | refine Ext.trans ?_ (Ext.alloc _ _) | refine Ext.trans ?_ (Ext.drew _) | refine Ext.trans ?_ (Ext.drewN _ _) | refine Ext.trans ?_ (by assumption)))⟩
  have hc : ((i : Int) - 1) = ((i - 1 : Nat) : Int) := by omega
  have HC := Lib.hid hc; clear hc
  cases h1 : firstP l (i - 1)
  · have hv : orphan l i = false := by simp [orphan, h1]
    rw [hv]; clear hv
    go_enter Try.func49, Try.ntmps49
    go_wp2_with fail
    rw [HC.out]
    refine (impl_isFirst A c l (i - 1) lo _ _ hl (by omega) hr).mono ?_
    rintro e w1 ⟨rfl, hE1⟩
    go_wp2
    go_ret
    exact ⟨rfl, (by repeat (first | exact Ext.refl _ | assumption | refine Ext.trans ?_ (Ext.alloc _ _) | refine Ext.trans ?_ (Ext.drew _) | refine Ext.trans ?_ (Ext.drewN _ _) | refine Ext.trans ?_ (by assumption)))⟩
  · have hv : orphan l i = !lastP l (i - 1) := by simp [orphan, h1, h0]
    rw [hv]; clear hv
    go_enter Try.func49, Try.ntmps49
    go_wp2_with fail
    rw [HC.out]
    refine (impl_isFirst A c l (i - 1) lo _ _ hl (by omega) hr).mono ?_
    rintro e w1 ⟨rfl, hE1⟩
    go_wp2_with fail
    rw [HC.out]
    refine (impl_isLast A c l (i - 1) lo _ _ hl (by omega) (hr.ext hE1)).mono ?_
    rintro e w2 ⟨rfl, hE2⟩
    go_wp2
    go_ret
    exact ⟨rfl, (by repeat (first | exact Ext.refl _ | assumption | refine Ext.trans ?_ (Ext.alloc _ _) | refine Ext.trans ?_ (Ext.drew _) | refine Ext.trans ?_ (Ext.drewN _ _) | refine Ext.trans ?_ (by assumption)))⟩
end Go.Proofs.Ytblecbdkpjmfeaa
