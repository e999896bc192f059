/- The walks of the cost of some breaks: the program's and the reference's. -/
import Derived.Test.YtmfoankgfiofdaaParC
namespace Go.Proofs.Ytmfoankgfiofdaa
open Go.RowKit
set_option linter.unusedVariables false
theorem juWhy_good (A : Option Addr) (c n : Nat) (l : List Int) (r : Rul) (m : Int) (lo hi : Nat) (w : World) (hn : l.length = n) (h1 : 1 ≤ l.length) (h2 : l.length ≤ 24) (hw : ∀ x ∈ l, 1 ≤ x ∧ x ≤ 600) (r1 : 1 ≤ r.least) (r2 : r.least ≤ r.normal) (r3 : r.normal ≤ r.most) (r4 : r.most ≤ 54) (m1 : 1 ≤ m) (m2 : m ≤ 2000) (hf : fits l r m = true) (hr : RdI w lo hi A l) :
    Calls Try.prog 61 #[.slice A n c, .agg #[.int .i64 r.least, .int .i64 r.normal, .int .i64 r.most], .int .i64 m] w fun e w' => e = .returned (.int .i64 0) ∧ Ext w w' := by
  subst hn
  obtain ⟨s1, s2⟩ := sumW_bound (by omega) hw
  have HW := Lib.hid hw; clear hw
  have p1 : 0 ≤ ((l.length : Int) - 1) * r.least := Int.mul_nonneg (by omega) (by omega)
  have p2 : 0 ≤ ((l.length : Int) - 1) * r.most := Int.mul_nonneg (by omega) (by omega)
  have p3 : 0 ≤ ((l.length : Int) - 1) * r.normal := Int.mul_nonneg (by omega) (by omega)
  have p4 : ((l.length : Int) - 1) * r.least ≤ 24 * 54 := Int.mul_le_mul (by omega) (by omega) (by omega) (by omega)
  have p5 : ((l.length : Int) - 1) * r.most ≤ 24 * 54 := Int.mul_le_mul (by omega) (by omega) (by omega) (by omega)
  have p6 : ((l.length : Int) - 1) * r.normal ≤ 24 * 54 := Int.mul_le_mul (by omega) (by omega) (by omega) (by omega)
  have hf := inB_iff.1 hf
  have hr' := hr.ext (Ext.alloc w (.cells #[.int .i64 r.least, .int .i64 r.normal, .int .i64 r.most] 28))
  go_enter Try.func61, Try.ntmps61
  go_wp2_with (first | (go_at_call 50; refine (spec_juSum A c _ l lo hi _ rfl (by omega) hr').mono ?_; rintro e w' ⟨rfl, rfl⟩))
  go_ret
  exact ⟨rfl, (by repeat (first | exact Ext.refl _ | assumption | refine Ext.trans ?_ (Ext.alloc _ _) | refine Ext.trans ?_ (Ext.drew _) | refine Ext.trans ?_ (Ext.drewN _ _) | refine Ext.trans ?_ (by assumption)))⟩
theorem juWhy_b0 (A : Option Addr) (c n : Nat) (l : List Int) (r : Rul) (m : Int) (lo hi : Nat) (w : World) (hn : l.length = n) (h1 : 1 ≤ l.length) (h2 : l.length ≤ 24) (hw : ∀ x ∈ l, 1 ≤ x ∧ x ≤ 600) (r1 : 1 ≤ r.least) (r2 : r.least ≤ r.normal) (r3 : r.normal ≤ r.most) (r4 : r.most ≤ 54) (m1 : 1 ≤ m) (m2 : m ≤ 2000) (hf : fits l r m = false) (g0 : l.length ≤ 1) (g1 : m - sumW l < ((l.length : Int) - 1) * r.least) (hr : RdI w lo hi A l) :
    Calls Try.prog 61 #[.slice A n c, .agg #[.int .i64 r.least, .int .i64 r.normal, .int .i64 r.most], .int .i64 m] w fun e w' => (∃ v : Int, v ≠ 0 ∧ e = .returned (.int .i64 v)) ∧ Ext w w' := by
  subst hn
  obtain ⟨s1, s2⟩ := sumW_bound (by omega) hw
  have HW := Lib.hid hw; clear hw
  have p1 : 0 ≤ ((l.length : Int) - 1) * r.least := Int.mul_nonneg (by omega) (by omega)
  have p2 : 0 ≤ ((l.length : Int) - 1) * r.most := Int.mul_nonneg (by omega) (by omega)
  have p3 : 0 ≤ ((l.length : Int) - 1) * r.normal := Int.mul_nonneg (by omega) (by omega)
  have p4 : ((l.length : Int) - 1) * r.least ≤ 24 * 54 := Int.mul_le_mul (by omega) (by omega) (by omega) (by omega)
  have p5 : ((l.length : Int) - 1) * r.most ≤ 24 * 54 := Int.mul_le_mul (by omega) (by omega) (by omega) (by omega)
  have p6 : ((l.length : Int) - 1) * r.normal ≤ 24 * 54 := Int.mul_le_mul (by omega) (by omega) (by omega) (by omega)
  have hnf : ¬ (((l.length : Int) - 1) * r.least ≤ m - sumW l ∧ m - sumW l ≤ ((l.length : Int) - 1) * r.most) := fun h => by rw [fits, inB_iff.2 h] at hf; cases hf
  clear hf p3 p6
  have hr' := hr.ext (Ext.alloc w (.cells #[.int .i64 r.least, .int .i64 r.normal, .int .i64 r.most] 28))
  go_enter Try.func61, Try.ntmps61
  go_wp2_with (first | (go_at_call 50; refine (spec_juSum A c _ l lo hi _ rfl (by omega) hr').mono ?_; rintro e w' ⟨rfl, rfl⟩))
  go_ret
  exact ⟨⟨_, by omega, rfl⟩, (by repeat (first | exact Ext.refl _ | assumption | refine Ext.trans ?_ (Ext.alloc _ _) | refine Ext.trans ?_ (Ext.drew _) | refine Ext.trans ?_ (Ext.drewN _ _) | refine Ext.trans ?_ (by assumption)))⟩
theorem juWhy_b1 (A : Option Addr) (c n : Nat) (l : List Int) (r : Rul) (m : Int) (lo hi : Nat) (w : World) (hn : l.length = n) (h1 : 1 ≤ l.length) (h2 : l.length ≤ 24) (hw : ∀ x ∈ l, 1 ≤ x ∧ x ≤ 600) (r1 : 1 ≤ r.least) (r2 : r.least ≤ r.normal) (r3 : r.normal ≤ r.most) (r4 : r.most ≤ 54) (m1 : 1 ≤ m) (m2 : m ≤ 2000) (hf : fits l r m = false) (g0 : l.length ≤ 1) (g1 : ¬ m - sumW l < ((l.length : Int) - 1) * r.least) (hr : RdI w lo hi A l) :
    Calls Try.prog 61 #[.slice A n c, .agg #[.int .i64 r.least, .int .i64 r.normal, .int .i64 r.most], .int .i64 m] w fun e w' => (∃ v : Int, v ≠ 0 ∧ e = .returned (.int .i64 v)) ∧ Ext w w' := by
  subst hn
  obtain ⟨s1, s2⟩ := sumW_bound (by omega) hw
  have HW := Lib.hid hw; clear hw
  have p1 : 0 ≤ ((l.length : Int) - 1) * r.least := Int.mul_nonneg (by omega) (by omega)
  have p2 : 0 ≤ ((l.length : Int) - 1) * r.most := Int.mul_nonneg (by omega) (by omega)
  have p3 : 0 ≤ ((l.length : Int) - 1) * r.normal := Int.mul_nonneg (by omega) (by omega)
  have p4 : ((l.length : Int) - 1) * r.least ≤ 24 * 54 := Int.mul_le_mul (by omega) (by omega) (by omega) (by omega)
  have p5 : ((l.length : Int) - 1) * r.most ≤ 24 * 54 := Int.mul_le_mul (by omega) (by omega) (by omega) (by omega)
  have p6 : ((l.length : Int) - 1) * r.normal ≤ 24 * 54 := Int.mul_le_mul (by omega) (by omega) (by omega) (by omega)
  have hnf : ¬ (((l.length : Int) - 1) * r.least ≤ m - sumW l ∧ m - sumW l ≤ ((l.length : Int) - 1) * r.most) := fun h => by rw [fits, inB_iff.2 h] at hf; cases hf
  clear hf p3 p6
  have hr' := hr.ext (Ext.alloc w (.cells #[.int .i64 r.least, .int .i64 r.normal, .int .i64 r.most] 28))
  go_enter Try.func61, Try.ntmps61
  go_wp2_with (first | (go_at_call 50; refine (spec_juSum A c _ l lo hi _ rfl (by omega) hr').mono ?_; rintro e w' ⟨rfl, rfl⟩))
  go_ret
  exact ⟨⟨_, by omega, rfl⟩, (by repeat (first | exact Ext.refl _ | assumption | refine Ext.trans ?_ (Ext.alloc _ _) | refine Ext.trans ?_ (Ext.drew _) | refine Ext.trans ?_ (Ext.drewN _ _) | refine Ext.trans ?_ (by assumption)))⟩
theorem juWhy_b2 (A : Option Addr) (c n : Nat) (l : List Int) (r : Rul) (m : Int) (lo hi : Nat) (w : World) (hn : l.length = n) (h1 : 1 ≤ l.length) (h2 : l.length ≤ 24) (hw : ∀ x ∈ l, 1 ≤ x ∧ x ≤ 600) (r1 : 1 ≤ r.least) (r2 : r.least ≤ r.normal) (r3 : r.normal ≤ r.most) (r4 : r.most ≤ 54) (m1 : 1 ≤ m) (m2 : m ≤ 2000) (hf : fits l r m = false) (g0 : ¬ l.length = 1) (g1 : m - sumW l < ((l.length : Int) - 1) * r.least) (hr : RdI w lo hi A l) :
    Calls Try.prog 61 #[.slice A n c, .agg #[.int .i64 r.least, .int .i64 r.normal, .int .i64 r.most], .int .i64 m] w fun e w' => (∃ v : Int, v ≠ 0 ∧ e = .returned (.int .i64 v)) ∧ Ext w w' := by
  subst hn
  obtain ⟨s1, s2⟩ := sumW_bound (by omega) hw
  have HW := Lib.hid hw; clear hw
  have p1 : 0 ≤ ((l.length : Int) - 1) * r.least := Int.mul_nonneg (by omega) (by omega)
  have p2 : 0 ≤ ((l.length : Int) - 1) * r.most := Int.mul_nonneg (by omega) (by omega)
  have p3 : 0 ≤ ((l.length : Int) - 1) * r.normal := Int.mul_nonneg (by omega) (by omega)
  have p4 : ((l.length : Int) - 1) * r.least ≤ 24 * 54 := Int.mul_le_mul (by omega) (by omega) (by omega) (by omega)
  have p5 : ((l.length : Int) - 1) * r.most ≤ 24 * 54 := Int.mul_le_mul (by omega) (by omega) (by omega) (by omega)
  have p6 : ((l.length : Int) - 1) * r.normal ≤ 24 * 54 := Int.mul_le_mul (by omega) (by omega) (by omega) (by omega)
  have hnf : ¬ (((l.length : Int) - 1) * r.least ≤ m - sumW l ∧ m - sumW l ≤ ((l.length : Int) - 1) * r.most) := fun h => by rw [fits, inB_iff.2 h] at hf; cases hf
  clear hf p3 p6
  have hr' := hr.ext (Ext.alloc w (.cells #[.int .i64 r.least, .int .i64 r.normal, .int .i64 r.most] 28))
  go_enter Try.func61, Try.ntmps61
  go_wp2_with (first | (go_at_call 50; refine (spec_juSum A c _ l lo hi _ rfl (by omega) hr').mono ?_; rintro e w' ⟨rfl, rfl⟩))
  go_ret
  exact ⟨⟨_, by omega, rfl⟩, (by repeat (first | exact Ext.refl _ | assumption | refine Ext.trans ?_ (Ext.alloc _ _) | refine Ext.trans ?_ (Ext.drew _) | refine Ext.trans ?_ (Ext.drewN _ _) | refine Ext.trans ?_ (by assumption)))⟩
theorem juWhy_b3 (A : Option Addr) (c n : Nat) (l : List Int) (r : Rul) (m : Int) (lo hi : Nat) (w : World) (hn : l.length = n) (h1 : 1 ≤ l.length) (h2 : l.length ≤ 24) (hw : ∀ x ∈ l, 1 ≤ x ∧ x ≤ 600) (r1 : 1 ≤ r.least) (r2 : r.least ≤ r.normal) (r3 : r.normal ≤ r.most) (r4 : r.most ≤ 54) (m1 : 1 ≤ m) (m2 : m ≤ 2000) (hf : fits l r m = false) (g0 : ¬ l.length = 1) (g1 : ¬ m - sumW l < ((l.length : Int) - 1) * r.least) (hr : RdI w lo hi A l) :
    Calls Try.prog 61 #[.slice A n c, .agg #[.int .i64 r.least, .int .i64 r.normal, .int .i64 r.most], .int .i64 m] w fun e w' => (∃ v : Int, v ≠ 0 ∧ e = .returned (.int .i64 v)) ∧ Ext w w' := by
  subst hn
  obtain ⟨s1, s2⟩ := sumW_bound (by omega) hw
  have HW := Lib.hid hw; clear hw
  have p1 : 0 ≤ ((l.length : Int) - 1) * r.least := Int.mul_nonneg (by omega) (by omega)
  have p2 : 0 ≤ ((l.length : Int) - 1) * r.most := Int.mul_nonneg (by omega) (by omega)
  have p3 : 0 ≤ ((l.length : Int) - 1) * r.normal := Int.mul_nonneg (by omega) (by omega)
  have p4 : ((l.length : Int) - 1) * r.least ≤ 24 * 54 := Int.mul_le_mul (by omega) (by omega) (by omega) (by omega)
  have p5 : ((l.length : Int) - 1) * r.most ≤ 24 * 54 := Int.mul_le_mul (by omega) (by omega) (by omega) (by omega)
  have p6 : ((l.length : Int) - 1) * r.normal ≤ 24 * 54 := Int.mul_le_mul (by omega) (by omega) (by omega) (by omega)
  have hnf : ¬ (((l.length : Int) - 1) * r.least ≤ m - sumW l ∧ m - sumW l ≤ ((l.length : Int) - 1) * r.most) := fun h => by rw [fits, inB_iff.2 h] at hf; cases hf
  clear hf p3 p6
  have hr' := hr.ext (Ext.alloc w (.cells #[.int .i64 r.least, .int .i64 r.normal, .int .i64 r.most] 28))
  go_enter Try.func61, Try.ntmps61
  go_wp2_with (first | (go_at_call 50; refine (spec_juSum A c _ l lo hi _ rfl (by omega) hr').mono ?_; rintro e w' ⟨rfl, rfl⟩))
  go_ret
  exact ⟨⟨_, by omega, rfl⟩, (by repeat (first | exact Ext.refl _ | assumption | refine Ext.trans ?_ (Ext.alloc _ _) | refine Ext.trans ?_ (Ext.drew _) | refine Ext.trans ?_ (Ext.drewN _ _) | refine Ext.trans ?_ (by assumption)))⟩
theorem juWhy_bad (A : Option Addr) (c n : Nat) (l : List Int) (r : Rul) (m : Int) (lo hi : Nat) (w : World) (hn : l.length = n) (h1 : 1 ≤ l.length) (h2 : l.length ≤ 24) (hw : ∀ x ∈ l, 1 ≤ x ∧ x ≤ 600) (r1 : 1 ≤ r.least) (r2 : r.least ≤ r.normal) (r3 : r.normal ≤ r.most) (r4 : r.most ≤ 54) (m1 : 1 ≤ m) (m2 : m ≤ 2000) (hf : fits l r m = false) (hr : RdI w lo hi A l) :
    Calls Try.prog 61 #[.slice A n c, .agg #[.int .i64 r.least, .int .i64 r.normal, .int .i64 r.most], .int .i64 m] w fun e w' => (∃ v : Int, v ≠ 0 ∧ e = .returned (.int .i64 v)) ∧ Ext w w' := by
  by_cases g0 : l.length = 1
  · by_cases g1 : m - sumW l < ((l.length : Int) - 1) * r.least
    · exact juWhy_b0 A c n l r m lo hi w hn h1 h2 hw r1 r2 r3 r4 m1 m2 hf (by omega) g1 hr
    · exact juWhy_b1 A c n l r m lo hi w hn h1 h2 hw r1 r2 r3 r4 m1 m2 hf (by omega) g1 hr
  · by_cases g1 : m - sumW l < ((l.length : Int) - 1) * r.least
    · exact juWhy_b2 A c n l r m lo hi w hn h1 h2 hw r1 r2 r3 r4 m1 m2 hf g0 g1 hr
    · exact juWhy_b3 A c n l r m lo hi w hn h1 h2 hw r1 r2 r3 r4 m1 m2 hf g0 g1 hr
theorem spec_paLine (A : Option Addr) (c n : Nat) (l : List Int) (r : Rul) (m : Int) (lo hi : Nat) (w : World) (hn : l.length = n) (h1 : 1 ≤ l.length) (h2 : l.length ≤ 24) (hw : ∀ x ∈ l, 1 ≤ x ∧ x ≤ 600) (r1 : 1 ≤ r.least) (r2 : r.least ≤ r.normal) (r3 : r.normal ≤ r.most) (r4 : r.most ≤ 54) (m1 : 1 ≤ m) (m2 : m ≤ 2000) (hr : RdI w lo hi A l) :
    Calls Try.prog 43 #[.slice A n c, .agg #[.int .i64 r.least, .int .i64 r.normal, .int .i64 r.most], .int .i64 m, .bool false] w fun e w' => e = .returned (.tuple #[.int .i64 (lc l r m), .bool (lineOk l r m)]) ∧ Ext w w' := by
  subst hn
  by_cases h20 : l.length ≤ 20
  case neg =>
    have e1 : lineOk l r m = false := by simp [lineOk, h20]
    have e2 : lc l r m = 0 := by simp [lc, e1]
    rw [e1, e2]; clear e1 e2
    go_enter Try.func43, Try.ntmps43
    go_wp2
    go_ret2
    exact ⟨rfl, (by repeat (first | exact Ext.refl _ | assumption | refine Ext.trans ?_ (Ext.alloc _ _) | refine Ext.trans ?_ (Ext.drew _) | refine Ext.trans ?_ (Ext.drewN _ _) | refine Ext.trans ?_ (by assumption)))⟩
  obtain ⟨w0, hw0⟩ : ∃ w0, w0 = w.alloc (.cells #[.int .i64 r.least, .int .i64 r.normal, .int .i64 r.most] 28) := ⟨_, rfl⟩
  have x0 : w0.cell? ⟨w.heap.size, 0, none⟩ = some (.int .i64 r.least) := by rw [hw0]; exact box_new (Ext.refl _) rfl
  have x1 : w0.cell? ⟨w.heap.size, 1, none⟩ = some (.int .i64 r.normal) := by rw [hw0]; exact box_new (Ext.refl _) rfl
  have x2 : w0.cell? ⟨w.heap.size, 2, none⟩ = some (.int .i64 r.most) := by rw [hw0]; exact box_new (Ext.refl _) rfl
  have hE0 : Ext w w0 := by rw [hw0]; exact Ext.alloc _ _
  have hlt0 : w.heap.size < w0.heap.size := by rw [hw0]; simp
  have HW0 := Lib.hid hw0
  clear hw0
  have hr' := hr.ext hE0
  cases hf : fits l r m
  · have e1 : lineOk l r m = false := by simp [lineOk, hf]
    have e2 : lc l r m = 0 := by simp [lc, e1]
    rw [e1, e2]; clear e1 e2
    go_enter Try.func43, Try.ntmps43
    go_wp2_with fail
    rw [← HW0.out]
    refine (juWhy_bad A c _ l r m lo hi _ rfl h1 h2 hw r1 r2 r3 r4 m1 m2 hf hr').mono ?_
    rintro e w1 ⟨⟨v, hv, rfl⟩, hE1⟩
    go_wp2_with fail
    go_ret2
    exact ⟨rfl, (by repeat (first | exact Ext.refl _ | assumption | refine Ext.trans ?_ (Ext.alloc _ _) | refine Ext.trans ?_ (Ext.drew _) | refine Ext.trans ?_ (Ext.drewN _ _) | refine Ext.trans ?_ (by assumption)))⟩
  · have e1 : lineOk l r m = true := by simp [lineOk, hf, h20]
    have e2 : lc l r m = costs (spc l m) r := by simp [lc, e1]
    rw [e1, e2]; clear e1 e2
    go_enter Try.func43, Try.ntmps43
    go_wp2_with fail
    rw [← HW0.out]
    refine (juWhy_good A c _ l r m lo hi _ rfl h1 h2 hw r1 r2 r3 r4 m1 m2 hf hr').mono ?_
    rintro e w1 ⟨rfl, hE1⟩
    have y0 := hE1.cell x0; have y1 := hE1.cell x1; have y2 := hE1.cell x2
    have hlt1 : w.heap.size < w1.heap.size := by have := hE1.size; omega
    go_wp2_with fail
    refine (spec_juCost A c _ l r m lo hi _ rfl h1 h2 hw r1 r2 r3 r4 m1 m2 hf (hr'.ext hE1)).mono ?_
    rintro e w2 ⟨rfl, hE2⟩
    go_wp2_with fail
    go_ret2
    exact ⟨rfl, (by repeat (first | exact Ext.refl _ | assumption | refine Ext.trans ?_ (Ext.alloc _ _) | refine Ext.trans ?_ (Ext.drew _) | refine Ext.trans ?_ (Ext.drewN _ _) | refine Ext.trans ?_ (by assumption)))⟩
theorem spec_paLine_last (A : Option Addr) (c n : Nat) (l : List Int) (r : Rul) (m : Int) (lo hi : Nat) (w : World) (hn : l.length = n) (h1 : 1 ≤ l.length) (h2 : l.length ≤ 24) (hw : ∀ x ∈ l, 1 ≤ x ∧ x ≤ 600) (r1 : 1 ≤ r.least) (r2 : r.least ≤ r.normal) (r3 : r.normal ≤ r.most) (r4 : r.most ≤ 54) (m1 : 1 ≤ m) (m2 : m ≤ 2000) (hr : RdI w lo hi A l) :
    Calls Try.prog 43 #[.slice A n c, .agg #[.int .i64 r.least, .int .i64 r.normal, .int .i64 r.most], .int .i64 m, .bool true] w fun e w' => e = .returned (.tuple #[.int .i64 0, .bool (canEnd l r m)]) ∧ Ext w w' := by
  subst hn
  by_cases h20 : l.length ≤ 20
  case neg =>
    have e1 : canEnd l r m = false := by simp [canEnd, h20]
    rw [e1]; clear e1
    go_enter Try.func43, Try.ntmps43
    go_wp2
    go_ret2
    exact ⟨rfl, (by repeat (first | exact Ext.refl _ | assumption | refine Ext.trans ?_ (Ext.alloc _ _) | refine Ext.trans ?_ (Ext.drew _) | refine Ext.trans ?_ (Ext.drewN _ _) | refine Ext.trans ?_ (by assumption)))⟩
  obtain ⟨s1, s2⟩ := sumW_bound (by omega) hw
  have HW := Lib.hid hw; clear hw
  have p1 : 0 ≤ ((l.length : Int) - 1) * r.least := Int.mul_nonneg (by omega) (by omega)
  have p2 : 0 ≤ ((l.length : Int) - 1) * r.most := Int.mul_nonneg (by omega) (by omega)
  have p3 : 0 ≤ ((l.length : Int) - 1) * r.normal := Int.mul_nonneg (by omega) (by omega)
  have p4 : ((l.length : Int) - 1) * r.least ≤ 24 * 54 := Int.mul_le_mul (by omega) (by omega) (by omega) (by omega)
  have p5 : ((l.length : Int) - 1) * r.most ≤ 24 * 54 := Int.mul_le_mul (by omega) (by omega) (by omega) (by omega)
  have p6 : ((l.length : Int) - 1) * r.normal ≤ 24 * 54 := Int.mul_le_mul (by omega) (by omega) (by omega) (by omega)
  obtain ⟨w0, hw0⟩ : ∃ w0, w0 = w.alloc (.cells #[.int .i64 r.least, .int .i64 r.normal, .int .i64 r.most] 28) := ⟨_, rfl⟩
  have x0 : w0.cell? ⟨w.heap.size, 0, none⟩ = some (.int .i64 r.least) := by rw [hw0]; exact box_new (Ext.refl _) rfl
  have x1 : w0.cell? ⟨w.heap.size, 1, none⟩ = some (.int .i64 r.normal) := by rw [hw0]; exact box_new (Ext.refl _) rfl
  have x2 : w0.cell? ⟨w.heap.size, 2, none⟩ = some (.int .i64 r.most) := by rw [hw0]; exact box_new (Ext.refl _) rfl
  have hE0 : Ext w w0 := by rw [hw0]; exact Ext.alloc _ _
  have hlt0 : w.heap.size < w0.heap.size := by rw [hw0]; simp
  have HW0 := Lib.hid hw0
  clear hw0
  have hr' := hr.ext hE0
  have y1 : ∀ x : XW w0, x.v.cell? ⟨w.heap.size, 1, none⟩ = _ := fun x => x.h.cell x1
  have k1 : IntKind.i64.wrap ((l.length : Int) - 1) = (l.length : Int) - 1 := IntWalk.i64_in _ (by omega)
  have k2 : IntKind.i64.wrap (((l.length : Int) - 1) * r.normal) = ((l.length : Int) - 1) * r.normal := IntWalk.i64_in _ (by omega)
  have k3 : IntKind.i64.wrap (sumW l + ((l.length : Int) - 1) * r.normal) = sumW l + ((l.length : Int) - 1) * r.normal := IntWalk.i64_in _ (by omega)
  have e1 : canEnd l r m = decide (sumW l + ((l.length : Int) - 1) * r.normal ≤ m) := by simp [canEnd, h20]
  rw [e1]; clear e1
  go_enter Try.func43, Try.ntmps43
  go_wp2_with fail
  rw [← HW0.out]
  refine wp_region_xw (w0 := w0) (by kernel_rfl) (by kernel_rfl) (by repeat (first | exact Ext.refl _ | assumption | refine Ext.trans ?_ (Ext.alloc _ _) | refine Ext.trans ?_ (Ext.drew _) | refine Ext.trans ?_ (Ext.drewN _ _) | refine Ext.trans ?_ (by assumption))) ?_; (repeat (go_big_quiet_step ((go_at_call 50; exact XW.same (spec_juSum A c _ l lo hi _ rfl (by omega) (hr'.ext (XW.h _))))))); refine wpQuiet_nil ?_; intro w1 hw'; obtain ⟨⟨_, hEw1⟩, hw''⟩ := hw'; subst hw''
  go_wp2
  go_ret2
  exact ⟨rfl, (by repeat (first | exact Ext.refl _ | assumption | refine Ext.trans ?_ (Ext.alloc _ _) | refine Ext.trans ?_ (Ext.drew _) | refine Ext.trans ?_ (Ext.drewN _ _) | refine Ext.trans ?_ (by assumption)))⟩
end Go.Proofs.Ytmfoankgfiofdaa
