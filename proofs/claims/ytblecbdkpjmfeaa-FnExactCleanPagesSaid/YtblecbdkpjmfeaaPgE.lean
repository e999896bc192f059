/- The walks of pgFirst, pgLast. -/
import Derived.Test.YtblecbdkpjmfeaaPgD
namespace Go.Proofs.Ytblecbdkpjmfeaa
open Go.RowKit
def pgF (l : List SetL) (i : Nat) : Bool := firstP l i && !lastP l i
def pgL (l : List SetL) (i : Nat) : Bool := lastP l i && !firstP l i
theorem widow_pgL (l : List SetL) (i : Nat) : widow l i = pgL l i := by
  by_cases h : i = 0
  · subst h; simp [widow, pgL, firstP]
  · simp [widow, pgL, show 0 < i by omega]
theorem orphan_pgF {l : List SetL} {i : Nat} (h : i < l.length) : orphan l i = pgF l (i - 1) := by simp [orphan, pgF, h]
theorem ne_not (a b : Int) : (!(a != b)) = (a == b) := by rw [Bool.eq_iff_iff]; simp
theorem spec_pgFirst (A : Option Addr) (c : Nat) (l : List SetL) (i : Nat) (lo hi : Nat) (w : World) (hl : l.length ≤ 1048577) (hil : i < l.length) (hr : RdS w lo hi A l) :
    Calls Try.prog 47 #[.slice A l.length c, .int .i64 i] w fun e w' => e = .returned (.bool (pgF l i)) ∧ Ext w w' := by
  obtain ⟨x, b, off, HX, rfl, _, _, h3, _, _, c2⟩ := RdS.get hr hil
  have g3 : (0 : Int) ≤ (i : Int) := by omega
  have g4 : (i : Int) < l.length := by omega
  have q2 : IntKind.i64.wrap ((i : Int) + 1) = (i : Int) + 1 := IntWalk.i64_in _ (by omega)
  have q3 : ((i : Int) + 1).toNat = i + 1 := by omega
  by_cases he : i = 0
  · subst he
    have hv0 : firstP l 0 = true := by simp [firstP]
    by_cases hn : 1 < l.length
    case neg =>
      have hv : pgF l 0 = false := by simp [pgF, lastP]; intro; omega
      rw [hv]; clear hv hv0
      have u1 : decide ((1 : Int) < (l.length : Int)) = false := by simp; omega
      have u2 : decide (1 < l.length) = false := by simp; omega
      clear q2 q3 g3 g4
      go_enter Try.func47, Try.ntmps47
      go_wp2
      go_quiet (fail)
      go_wp2
      go_ret
      exact ⟨rfl, (by repeat (first | exact Ext.refl _ | assumption | refine Ext.trans ?_ (Ext.alloc _ _) | refine Ext.trans ?_ (Ext.drew _) | refine Ext.trans ?_ (Ext.drewN _ _) | refine Ext.trans ?_ (by assumption)))⟩
    obtain ⟨z, b', off', HZ, eA, _, _, _, _, _, d2⟩ := RdS.get hr (k := 1) (by omega)
    injection eA with eA; injection eA with eb eo _; subst eb; subst eo
    have hv : pgF l 0 = (z.para == x.para) := by
      simp only [pgF, hv0, lastP, pa_at HX.out, pa_at HZ.out, Bool.true_and, show ¬ 0 + 1 = l.length by omega, decide_false, Bool.false_or, ne_beq, ne_not, Nat.zero_add]
    rw [hv]; clear hv hv0
    have u1 : decide ((1 : Int) < (l.length : Int)) = true := by simp; omega
    have u2 : decide (1 < l.length) = true := by simp; omega
    have u3 : (1 : Int) < l.length := by omega
    have u4 : (0 : Int) < l.length := by omega
    simp only [Nat.zero_mul, Nat.one_mul, Nat.add_zero] at c2 d2
    clear q2 q3 g3 g4
    go_enter Try.func47, Try.ntmps47
    go_wp2
    go_quiet (fail)
    go_wp2
    go_ret
    exact ⟨rfl, (by repeat (first | exact Ext.refl _ | assumption | refine Ext.trans ?_ (Ext.alloc _ _) | refine Ext.trans ?_ (Ext.drew _) | refine Ext.trans ?_ (Ext.drewN _ _) | refine Ext.trans ?_ (by assumption)))⟩
  · obtain ⟨y, b', off', HY, eA, _, _, _, _, _, d2⟩ := RdS.get hr (k := i - 1) (by omega)
    injection eA with eA; injection eA with eb eo _; subst eb; subst eo
    have hv0 : firstP l i = (y.para != x.para) := by simp only [firstP, pa_at HX.out, pa_at HY.out, he, ne_beq, decide_false, Bool.false_or]
    have t1 : ((i : Int) == 0) = false := by simp; omega
    have g1 : (0 : Int) ≤ (i : Int) - 1 := by omega
    have g2 : (i : Int) - 1 < l.length := by omega
    have g5 : 1 ≤ i := by omega
    have q4 : IntKind.i64.wrap ((i : Int) - 1) = (i : Int) - 1 := IntWalk.i64_in _ (by omega)
    have q5 : ((i : Int) - 1).toNat = i - 1 := by omega
    have HE := Lib.hid he; clear he
    cases t2 : (y.para != x.para)
    · have hv : pgF l i = false := by rw [pgF, hv0, t2]; rfl
      rw [hv]; clear hv hv0
      go_enter Try.func47, Try.ntmps47
      go_wp2
      go_quiet (fail)
      go_wp2
      go_ret
      exact ⟨rfl, (by repeat (first | exact Ext.refl _ | assumption | refine Ext.trans ?_ (Ext.alloc _ _) | refine Ext.trans ?_ (Ext.drew _) | refine Ext.trans ?_ (Ext.drewN _ _) | refine Ext.trans ?_ (by assumption)))⟩
    by_cases hn : i + 1 < l.length
    case neg =>
      have hv : pgF l i = false := by simp [pgF, lastP]; intro; omega
      rw [hv]; clear hv hv0
      have u1 : decide ((i : Int) + 1 < (l.length : Int)) = false := by simp; omega
      have u2 : decide (i + 1 < l.length) = false := by simp; omega
      go_enter Try.func47, Try.ntmps47
      go_wp2
      go_quiet (fail)
      go_wp2
      go_ret
      exact ⟨rfl, (by repeat (first | exact Ext.refl _ | assumption | refine Ext.trans ?_ (Ext.alloc _ _) | refine Ext.trans ?_ (Ext.drew _) | refine Ext.trans ?_ (Ext.drewN _ _) | refine Ext.trans ?_ (by assumption)))⟩
    obtain ⟨z, b', off', HZ, eA, _, _, _, _, _, e2⟩ := RdS.get hr (k := i + 1) (by omega)
    injection eA with eA; injection eA with eb eo _; subst eb; subst eo
    have hv : pgF l i = (z.para == x.para) := by
      simp only [pgF, hv0, t2, lastP, pa_at HX.out, pa_at HZ.out, Bool.true_and, show ¬ i + 1 = l.length by omega, decide_false, Bool.false_or, ne_beq, ne_not]
    rw [hv]; clear hv hv0
    have u1 : decide ((i : Int) + 1 < (l.length : Int)) = true := by simp; omega
    have u2 : decide (i + 1 < l.length) = true := by simp; omega
    have u3 : (i : Int) + 1 < l.length := by omega
    have u4 : (0 : Int) ≤ (i : Int) + 1 := by omega
    go_enter Try.func47, Try.ntmps47
    go_wp2
    go_quiet (fail)
    go_wp2
    go_ret
    exact ⟨rfl, (by repeat (first | exact Ext.refl _ | assumption | refine Ext.trans ?_ (Ext.alloc _ _) | refine Ext.trans ?_ (Ext.drew _) | refine Ext.trans ?_ (Ext.drewN _ _) | refine Ext.trans ?_ (by assumption)))⟩
theorem spec_pgLast (A : Option Addr) (c : Nat) (l : List SetL) (i : Nat) (lo hi : Nat) (w : World) (hl : l.length ≤ 1048577) (hil : i < l.length) (hr : RdS w lo hi A l) :
    Calls Try.prog 50 #[.slice A l.length c, .int .i64 i] w fun e w' => e = .returned (.bool (pgL l i)) ∧ Ext w w' := by
  obtain ⟨x, b, off, HX, rfl, _, _, h3, _, _, c2⟩ := RdS.get hr hil
  have g3 : (0 : Int) ≤ (i : Int) := by omega
  have g4 : (i : Int) < l.length := by omega
  have q1 : IntKind.i64.wrap ((l.length : Int) - 1) = (l.length : Int) - 1 := IntWalk.i64_in _ (by omega)
  have q2 : IntKind.i64.wrap ((i : Int) + 1) = (i : Int) + 1 := IntWalk.i64_in _ (by omega)
  have q3 : ((i : Int) + 1).toNat = i + 1 := by omega
  have q4 : IntKind.i64.wrap ((i : Int) - 1) = (i : Int) - 1 := IntWalk.i64_in _ (by omega)
  have q5 : ((i : Int) - 1).toNat = i - 1 := by omega
  by_cases he : i + 1 = l.length
  · have hv0 : lastP l i = true := by simp [lastP, he]
    have t1 : ((i : Int) == (l.length : Int) - 1) = true := by simp; omega
    by_cases h0 : 0 < i
    case neg =>
      have hv : pgL l i = false := by simp [pgL, firstP]; intro; omega
      rw [hv]; clear hv hv0
      have u1 : decide ((0 : Int) < (i : Int)) = false := by simp; omega
      have u2 : decide (0 < i) = false := by simp; omega
      have HE := Lib.hid he; clear he
      go_enter Try.func50, Try.ntmps50
      go_wp2
      go_quiet (fail)
      go_wp2
      go_ret
      exact ⟨rfl, (by repeat (first | exact Ext.refl _ | assumption | refine Ext.trans ?_ (Ext.alloc _ _) | refine Ext.trans ?_ (Ext.drew _) | refine Ext.trans ?_ (Ext.drewN _ _) | refine Ext.trans ?_ (by assumption)))⟩
    obtain ⟨y, b', off', HY, eA, _, _, _, _, _, d2⟩ := RdS.get hr (k := i - 1) (by omega)
    injection eA with eA; injection eA with eb eo _; subst eb; subst eo
    have hv : pgL l i = (y.para == x.para) := by
      simp only [pgL, hv0, firstP, pa_at HX.out, pa_at HY.out, Bool.true_and, show ¬ i = 0 by omega, decide_false, Bool.false_or, ne_beq, ne_not]
    rw [hv]; clear hv hv0
    have u1 : decide ((0 : Int) < (i : Int)) = true := by simp; omega
    have u2 : decide (0 < i) = true := by simp; omega
    have g1 : (0 : Int) ≤ (i : Int) - 1 := by omega
    have g2 : (i : Int) - 1 < l.length := by omega
    have g5 : 1 ≤ i := by omega
    have HE := Lib.hid he; clear he
    go_enter Try.func50, Try.ntmps50
    go_wp2
    go_quiet (fail)
    go_wp2
    go_ret
    exact ⟨rfl, (by repeat (first | exact Ext.refl _ | assumption | refine Ext.trans ?_ (Ext.alloc _ _) | refine Ext.trans ?_ (Ext.drew _) | refine Ext.trans ?_ (Ext.drewN _ _) | refine Ext.trans ?_ (by assumption)))⟩
  · obtain ⟨z, b', off', HZ, eA, _, _, _, _, _, e2⟩ := RdS.get hr (k := i + 1) (by omega)
    injection eA with eA; injection eA with eb eo _; subst eb; subst eo
    have hv0 : lastP l i = (z.para != x.para) := by simp only [lastP, pa_at HX.out, pa_at HZ.out, he, ne_beq, decide_false, Bool.false_or]
    have t1 : ((i : Int) == (l.length : Int) - 1) = false := by simp; omega
    have u3 : (i : Int) + 1 < l.length := by omega
    have u4 : (0 : Int) ≤ (i : Int) + 1 := by omega
    have HE := Lib.hid he; clear he
    cases t2 : (z.para != x.para)
    · have hv : pgL l i = false := by rw [pgL, hv0, t2]; rfl
      rw [hv]; clear hv hv0
      go_enter Try.func50, Try.ntmps50
      go_wp2
      go_quiet (fail)
      go_wp2
      go_ret
      exact ⟨rfl, (by repeat (first | exact Ext.refl _ | assumption | refine Ext.trans ?_ (Ext.alloc _ _) | refine Ext.trans ?_ (Ext.drew _) | refine Ext.trans ?_ (Ext.drewN _ _) | refine Ext.trans ?_ (by assumption)))⟩
    by_cases h0 : 0 < i
    case neg =>
      have hv : pgL l i = false := by simp [pgL, firstP]; intro; omega
      rw [hv]; clear hv hv0
      have u1 : decide ((0 : Int) < (i : Int)) = false := by simp; omega
      have u2 : decide (0 < i) = false := by simp; omega
      go_enter Try.func50, Try.ntmps50
      go_wp2
      go_quiet (fail)
      go_wp2
      go_ret
      exact ⟨rfl, (by repeat (first | exact Ext.refl _ | assumption | refine Ext.trans ?_ (Ext.alloc _ _) | refine Ext.trans ?_ (Ext.drew _) | refine Ext.trans ?_ (Ext.drewN _ _) | refine Ext.trans ?_ (by assumption)))⟩
    obtain ⟨y, b', off', HY, eA, _, _, _, _, _, d2⟩ := RdS.get hr (k := i - 1) (by omega)
    injection eA with eA; injection eA with eb eo _; subst eb; subst eo
    have hv : pgL l i = (y.para == x.para) := by
      simp only [pgL, hv0, t2, firstP, pa_at HX.out, pa_at HY.out, Bool.true_and, show ¬ i = 0 by omega, decide_false, Bool.false_or, ne_beq, ne_not]
    rw [hv]; clear hv hv0
    have u1 : decide ((0 : Int) < (i : Int)) = true := by simp; omega
    have u2 : decide (0 < i) = true := by simp; omega
    have g1 : (0 : Int) ≤ (i : Int) - 1 := by omega
    have g2 : (i : Int) - 1 < l.length := by omega
    have g5 : 1 ≤ i := by omega
    go_enter Try.func50, Try.ntmps50
    go_wp2
    go_quiet (fail)
    go_wp2
    go_ret
    exact ⟨rfl, (by repeat (first | exact Ext.refl _ | assumption | refine Ext.trans ?_ (Ext.alloc _ _) | refine Ext.trans ?_ (Ext.drew _) | refine Ext.trans ?_ (Ext.drewN _ _) | refine Ext.trans ?_ (by assumption)))⟩
end Go.Proofs.Ytblecbdkpjmfeaa
