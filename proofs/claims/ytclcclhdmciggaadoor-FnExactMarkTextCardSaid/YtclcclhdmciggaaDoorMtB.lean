/- The text of a mark: the program's and the reference's. -/
import Derived.Test.YtclcclhdmciggaaDoorMtK1
import Derived.Test.YtclcclhdmciggaaDoorMtK2
import Derived.Test.YtclcclhdmciggaaDoorMtK3
import Derived.Test.YtclcclhdmciggaaDoorMtK4
namespace Go.Proofs.YtclcclhdmciggaaDoor
open Go.RowKit
set_option linter.unusedVariables false
theorem impl_markText (a p : Nat) (k : Int) (t : ByteArray) (w : World) (ha : a < 100) (hp : p < 100) (hk : 1 ≤ k ∧ k ≤ 4) (ht : t.size ≤ 1048577) :
    Calls Tryd.prog 11 #[.agg #[.int .i64 (a : Int), .int .i64 (p : Int), .int .i64 k, .string t]] w fun e w' => e = .returned (.string (mtS ⟨a, p, k, t⟩)) ∧ Ext w w' := by
  obtain ⟨hk1, hk4⟩ := hk
  by_cases q1 : k = 1
  · subst q1; exact impl_markText1 a p t w ha hp ht
  by_cases q2 : k = 2
  · subst q2; exact impl_markText2 a p t w ha hp ht
  by_cases q3 : k = 3
  · subst q3; exact impl_markText3 a p t w ha hp ht
  by_cases q4 : k = 4
  · subst q4; exact impl_markText4 a p t w ha hp ht
  omega
set_option maxHeartbeats 8000000 in
theorem spec_pfText1 (a p : Nat) (t : ByteArray) (w : World) (ha : a < 100) (hp : p < 100) (ht : t.size ≤ 1048577) :
    Calls Tryd.prog 9 #[.agg #[.int .i64 (a : Int), .int .i64 (p : Int), .int .i64 1, .string t]] w fun e w' => e = .returned (.string (mtS ⟨a, p, 1, t⟩)) ∧ Ext w w' := by
  have hv : mtS ⟨a, p, 1, t⟩ = numS a ++ ⟨#[58]⟩ ++ numS p ++ ⟨#[100]⟩ ++ t := rfl
  rw [hv]
  obtain ⟨w0, hw0⟩ : ∃ x, x = w.alloc (.cells #[.int .i64 (a : Int), .int .i64 (p : Int), .int .i64 1, .string t] 27) := ⟨_, rfl⟩
  have hE0 : Ext w w0 := by rw [hw0]; exact Ext.alloc _ _
  have x0 : w0.cell? ⟨w.heap.size, 0, none⟩ = some (.int .i64 (a : Int)) := by rw [hw0]; exact box_new (Ext.refl _) rfl
  have x1 : w0.cell? ⟨w.heap.size, 1, none⟩ = some (.int .i64 (p : Int)) := by rw [hw0]; exact box_new (Ext.refl _) rfl
  have x2 : w0.cell? ⟨w.heap.size, 2, none⟩ = some (.int .i64 1) := by rw [hw0]; exact box_new (Ext.refl _) rfl
  have x3 : w0.cell? ⟨w.heap.size, 3, none⟩ = some (.string t) := by rw [hw0]; exact box_new (Ext.refl _) rfl
  have hlt0 : w.heap.size < w0.heap.size := by rw [hw0]; simp
  have HW0 := Lib.hid hw0
  have s1 := numS_size ha
  have s2 := numS_size hp
  have z1 : ¬ 9223372036854775807 < (numS a).size + 1 := by omega
  have z2 : ¬ 9223372036854775807 < (numS a).size + 1 + (numS p).size := by omega
  have z3 : ¬ 9223372036854775807 < (numS a).size + 1 + (numS p).size + 1 := by omega
  have z4 : ¬ 9223372036854775807 < (numS a).size + 1 + (numS p).size + 1 + t.size := by omega
  clear hv hw0
  have e0 : ∀ y : XW w0, y.v.cell? ⟨w.heap.size, 0, none⟩ = _ := fun y => y.h.cell x0
  have e1 : ∀ y : XW w0, y.v.cell? ⟨w.heap.size, 1, none⟩ = _ := fun y => y.h.cell x1
  have e2 : ∀ y : XW w0, y.v.cell? ⟨w.heap.size, 2, none⟩ = _ := fun y => y.h.cell x2
  have e3 : ∀ y : XW w0, y.v.cell? ⟨w.heap.size, 3, none⟩ = _ := fun y => y.h.cell x3
  go_enter Tryd.func9, Tryd.ntmps9
  go_wp2_with fail
  have hw0' := HW0.out
  rw [← hw0']
  clear hw0'
  refine wp_region_xw (w0 := w0) (by kernel_rfl) (by kernel_rfl) (by repeat (first | exact Ext.refl _ | assumption | refine Ext.trans ?_ (Ext.alloc _ _) | refine Ext.trans ?_ (Ext.drew _) | refine Ext.trans ?_ (Ext.drewN _ _) | refine Ext.trans ?_ (by assumption))) ?_; (repeat (go_big_quiet_step (first | (go_at_call 14; with_reducible exact XW.call (spec_l1Num_any a _ ha)) | (go_at_call 14; with_reducible exact XW.call (spec_l1Num_any p _ hp))))); refine wpQuiet_nil ?_; intro w1 hw'; obtain ⟨⟨_, hEw1⟩, hw''⟩ := hw'; subst hw''
  go_wp2_with fail
  go_ret
  exact ⟨rfl, (by repeat (first | exact Ext.refl _ | assumption | refine Ext.trans ?_ (Ext.alloc _ _) | refine Ext.trans ?_ (Ext.drew _) | refine Ext.trans ?_ (Ext.drewN _ _) | refine Ext.trans ?_ (by assumption)))⟩
set_option maxHeartbeats 8000000 in
theorem spec_pfText2 (a p : Nat) (t : ByteArray) (w : World) (ha : a < 100) (hp : p < 100) (ht : t.size ≤ 1048577) :
    Calls Tryd.prog 9 #[.agg #[.int .i64 (a : Int), .int .i64 (p : Int), .int .i64 2, .string t]] w fun e w' => e = .returned (.string (mtS ⟨a, p, 2, t⟩)) ∧ Ext w w' := by
  have hv : mtS ⟨a, p, 2, t⟩ = numS a ++ ⟨#[58]⟩ ++ numS p ++ ⟨#[105]⟩ ++ t := rfl
  rw [hv]
  obtain ⟨w0, hw0⟩ : ∃ x, x = w.alloc (.cells #[.int .i64 (a : Int), .int .i64 (p : Int), .int .i64 2, .string t] 27) := ⟨_, rfl⟩
  have hE0 : Ext w w0 := by rw [hw0]; exact Ext.alloc _ _
  have x0 : w0.cell? ⟨w.heap.size, 0, none⟩ = some (.int .i64 (a : Int)) := by rw [hw0]; exact box_new (Ext.refl _) rfl
  have x1 : w0.cell? ⟨w.heap.size, 1, none⟩ = some (.int .i64 (p : Int)) := by rw [hw0]; exact box_new (Ext.refl _) rfl
  have x2 : w0.cell? ⟨w.heap.size, 2, none⟩ = some (.int .i64 2) := by rw [hw0]; exact box_new (Ext.refl _) rfl
  have x3 : w0.cell? ⟨w.heap.size, 3, none⟩ = some (.string t) := by rw [hw0]; exact box_new (Ext.refl _) rfl
  have hlt0 : w.heap.size < w0.heap.size := by rw [hw0]; simp
  have HW0 := Lib.hid hw0
  have s1 := numS_size ha
  have s2 := numS_size hp
  have z1 : ¬ 9223372036854775807 < (numS a).size + 1 := by omega
  have z2 : ¬ 9223372036854775807 < (numS a).size + 1 + (numS p).size := by omega
  have z3 : ¬ 9223372036854775807 < (numS a).size + 1 + (numS p).size + 1 := by omega
  have z4 : ¬ 9223372036854775807 < (numS a).size + 1 + (numS p).size + 1 + t.size := by omega
  clear hv hw0
  have e0 : ∀ y : XW w0, y.v.cell? ⟨w.heap.size, 0, none⟩ = _ := fun y => y.h.cell x0
  have e1 : ∀ y : XW w0, y.v.cell? ⟨w.heap.size, 1, none⟩ = _ := fun y => y.h.cell x1
  have e2 : ∀ y : XW w0, y.v.cell? ⟨w.heap.size, 2, none⟩ = _ := fun y => y.h.cell x2
  have e3 : ∀ y : XW w0, y.v.cell? ⟨w.heap.size, 3, none⟩ = _ := fun y => y.h.cell x3
  go_enter Tryd.func9, Tryd.ntmps9
  go_wp2_with fail
  have hw0' := HW0.out
  rw [← hw0']
  clear hw0'
  refine wp_region_xw (w0 := w0) (by kernel_rfl) (by kernel_rfl) (by repeat (first | exact Ext.refl _ | assumption | refine Ext.trans ?_ (Ext.alloc _ _) | refine Ext.trans ?_ (Ext.drew _) | refine Ext.trans ?_ (Ext.drewN _ _) | refine Ext.trans ?_ (by assumption))) ?_; (repeat (go_big_quiet_step (first | (go_at_call 14; with_reducible exact XW.call (spec_l1Num_any a _ ha)) | (go_at_call 14; with_reducible exact XW.call (spec_l1Num_any p _ hp))))); refine wpQuiet_nil ?_; intro w1 hw'; obtain ⟨⟨_, hEw1⟩, hw''⟩ := hw'; subst hw''
  go_wp2_with fail
  go_ret
  exact ⟨rfl, (by repeat (first | exact Ext.refl _ | assumption | refine Ext.trans ?_ (Ext.alloc _ _) | refine Ext.trans ?_ (Ext.drew _) | refine Ext.trans ?_ (Ext.drewN _ _) | refine Ext.trans ?_ (by assumption)))⟩
set_option maxHeartbeats 8000000 in
theorem spec_pfText3 (a p : Nat) (t : ByteArray) (w : World) (ha : a < 100) (hp : p < 100) (ht : t.size ≤ 1048577) :
    Calls Tryd.prog 9 #[.agg #[.int .i64 (a : Int), .int .i64 (p : Int), .int .i64 3, .string t]] w fun e w' => e = .returned (.string (mtS ⟨a, p, 3, t⟩)) ∧ Ext w w' := by
  have hv : mtS ⟨a, p, 3, t⟩ = numS a ++ ⟨#[58]⟩ ++ numS p ++ ⟨#[114]⟩ ++ t := rfl
  rw [hv]
  obtain ⟨w0, hw0⟩ : ∃ x, x = w.alloc (.cells #[.int .i64 (a : Int), .int .i64 (p : Int), .int .i64 3, .string t] 27) := ⟨_, rfl⟩
  have hE0 : Ext w w0 := by rw [hw0]; exact Ext.alloc _ _
  have x0 : w0.cell? ⟨w.heap.size, 0, none⟩ = some (.int .i64 (a : Int)) := by rw [hw0]; exact box_new (Ext.refl _) rfl
  have x1 : w0.cell? ⟨w.heap.size, 1, none⟩ = some (.int .i64 (p : Int)) := by rw [hw0]; exact box_new (Ext.refl _) rfl
  have x2 : w0.cell? ⟨w.heap.size, 2, none⟩ = some (.int .i64 3) := by rw [hw0]; exact box_new (Ext.refl _) rfl
  have x3 : w0.cell? ⟨w.heap.size, 3, none⟩ = some (.string t) := by rw [hw0]; exact box_new (Ext.refl _) rfl
  have hlt0 : w.heap.size < w0.heap.size := by rw [hw0]; simp
  have HW0 := Lib.hid hw0
  have s1 := numS_size ha
  have s2 := numS_size hp
  have z1 : ¬ 9223372036854775807 < (numS a).size + 1 := by omega
  have z2 : ¬ 9223372036854775807 < (numS a).size + 1 + (numS p).size := by omega
  have z3 : ¬ 9223372036854775807 < (numS a).size + 1 + (numS p).size + 1 := by omega
  have z4 : ¬ 9223372036854775807 < (numS a).size + 1 + (numS p).size + 1 + t.size := by omega
  clear hv hw0
  have e0 : ∀ y : XW w0, y.v.cell? ⟨w.heap.size, 0, none⟩ = _ := fun y => y.h.cell x0
  have e1 : ∀ y : XW w0, y.v.cell? ⟨w.heap.size, 1, none⟩ = _ := fun y => y.h.cell x1
  have e2 : ∀ y : XW w0, y.v.cell? ⟨w.heap.size, 2, none⟩ = _ := fun y => y.h.cell x2
  have e3 : ∀ y : XW w0, y.v.cell? ⟨w.heap.size, 3, none⟩ = _ := fun y => y.h.cell x3
  go_enter Tryd.func9, Tryd.ntmps9
  go_wp2_with fail
  have hw0' := HW0.out
  rw [← hw0']
  clear hw0'
  refine wp_region_xw (w0 := w0) (by kernel_rfl) (by kernel_rfl) (by repeat (first | exact Ext.refl _ | assumption | refine Ext.trans ?_ (Ext.alloc _ _) | refine Ext.trans ?_ (Ext.drew _) | refine Ext.trans ?_ (Ext.drewN _ _) | refine Ext.trans ?_ (by assumption))) ?_; (repeat (go_big_quiet_step (first | (go_at_call 14; with_reducible exact XW.call (spec_l1Num_any a _ ha)) | (go_at_call 14; with_reducible exact XW.call (spec_l1Num_any p _ hp))))); refine wpQuiet_nil ?_; intro w1 hw'; obtain ⟨⟨_, hEw1⟩, hw''⟩ := hw'; subst hw''
  go_wp2_with fail
  go_ret
  exact ⟨rfl, (by repeat (first | exact Ext.refl _ | assumption | refine Ext.trans ?_ (Ext.alloc _ _) | refine Ext.trans ?_ (Ext.drew _) | refine Ext.trans ?_ (Ext.drewN _ _) | refine Ext.trans ?_ (by assumption)))⟩
set_option maxHeartbeats 8000000 in
theorem spec_pfText4 (a p : Nat) (t : ByteArray) (w : World) (ha : a < 100) (hp : p < 100) (ht : t.size ≤ 1048577) :
    Calls Tryd.prog 9 #[.agg #[.int .i64 (a : Int), .int .i64 (p : Int), .int .i64 4, .string t]] w fun e w' => e = .returned (.string (mtS ⟨a, p, 4, t⟩)) ∧ Ext w w' := by
  have hv : mtS ⟨a, p, 4, t⟩ = numS a ++ ⟨#[58]⟩ ++ numS p ++ ⟨#[115]⟩ ++ t := rfl
  rw [hv]
  obtain ⟨w0, hw0⟩ : ∃ x, x = w.alloc (.cells #[.int .i64 (a : Int), .int .i64 (p : Int), .int .i64 4, .string t] 27) := ⟨_, rfl⟩
  have hE0 : Ext w w0 := by rw [hw0]; exact Ext.alloc _ _
  have x0 : w0.cell? ⟨w.heap.size, 0, none⟩ = some (.int .i64 (a : Int)) := by rw [hw0]; exact box_new (Ext.refl _) rfl
  have x1 : w0.cell? ⟨w.heap.size, 1, none⟩ = some (.int .i64 (p : Int)) := by rw [hw0]; exact box_new (Ext.refl _) rfl
  have x2 : w0.cell? ⟨w.heap.size, 2, none⟩ = some (.int .i64 4) := by rw [hw0]; exact box_new (Ext.refl _) rfl
  have x3 : w0.cell? ⟨w.heap.size, 3, none⟩ = some (.string t) := by rw [hw0]; exact box_new (Ext.refl _) rfl
  have hlt0 : w.heap.size < w0.heap.size := by rw [hw0]; simp
  have HW0 := Lib.hid hw0
  have s1 := numS_size ha
  have s2 := numS_size hp
  have z1 : ¬ 9223372036854775807 < (numS a).size + 1 := by omega
  have z2 : ¬ 9223372036854775807 < (numS a).size + 1 + (numS p).size := by omega
  have z3 : ¬ 9223372036854775807 < (numS a).size + 1 + (numS p).size + 1 := by omega
  have z4 : ¬ 9223372036854775807 < (numS a).size + 1 + (numS p).size + 1 + t.size := by omega
  clear hv hw0
  have e0 : ∀ y : XW w0, y.v.cell? ⟨w.heap.size, 0, none⟩ = _ := fun y => y.h.cell x0
  have e1 : ∀ y : XW w0, y.v.cell? ⟨w.heap.size, 1, none⟩ = _ := fun y => y.h.cell x1
  have e2 : ∀ y : XW w0, y.v.cell? ⟨w.heap.size, 2, none⟩ = _ := fun y => y.h.cell x2
  have e3 : ∀ y : XW w0, y.v.cell? ⟨w.heap.size, 3, none⟩ = _ := fun y => y.h.cell x3
  go_enter Tryd.func9, Tryd.ntmps9
  go_wp2_with fail
  have hw0' := HW0.out
  rw [← hw0']
  clear hw0'
  refine wp_region_xw (w0 := w0) (by kernel_rfl) (by kernel_rfl) (by repeat (first | exact Ext.refl _ | assumption | refine Ext.trans ?_ (Ext.alloc _ _) | refine Ext.trans ?_ (Ext.drew _) | refine Ext.trans ?_ (Ext.drewN _ _) | refine Ext.trans ?_ (by assumption))) ?_; (repeat (go_big_quiet_step (first | (go_at_call 14; with_reducible exact XW.call (spec_l1Num_any a _ ha)) | (go_at_call 14; with_reducible exact XW.call (spec_l1Num_any p _ hp))))); refine wpQuiet_nil ?_; intro w1 hw'; obtain ⟨⟨_, hEw1⟩, hw''⟩ := hw'; subst hw''
  go_wp2_with fail
  go_ret
  exact ⟨rfl, (by repeat (first | exact Ext.refl _ | assumption | refine Ext.trans ?_ (Ext.alloc _ _) | refine Ext.trans ?_ (Ext.drew _) | refine Ext.trans ?_ (Ext.drewN _ _) | refine Ext.trans ?_ (by assumption)))⟩
theorem spec_pfText (a p : Nat) (k : Int) (t : ByteArray) (w : World) (ha : a < 100) (hp : p < 100) (hk : 1 ≤ k ∧ k ≤ 4) (ht : t.size ≤ 1048577) :
    Calls Tryd.prog 9 #[.agg #[.int .i64 (a : Int), .int .i64 (p : Int), .int .i64 k, .string t]] w fun e w' => e = .returned (.string (mtS ⟨a, p, k, t⟩)) ∧ Ext w w' := by
  obtain ⟨hk1, hk4⟩ := hk
  by_cases q1 : k = 1
  · subst q1; exact spec_pfText1 a p t w ha hp ht
  by_cases q2 : k = 2
  · subst q2; exact spec_pfText2 a p t w ha hp ht
  by_cases q3 : k = 3
  · subst q3; exact spec_pfText3 a p t w ha hp ht
  by_cases q4 : k = 4
  · subst q4; exact spec_pfText4 a p t w ha hp ht
  omega
end Go.Proofs.YtclcclhdmciggaaDoor
