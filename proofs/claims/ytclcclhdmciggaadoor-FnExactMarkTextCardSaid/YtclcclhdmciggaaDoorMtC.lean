/- MarkText: the program's and the reference's. -/
import Derived.Test.YtclcclhdmciggaaDoorMtB
namespace Go.Proofs.YtclcclhdmciggaaDoor
open Go.RowKit
set_option linter.unusedVariables false
theorem mtS_of {m : Mrk} (h : mkOk m = true) : ∃ (a p : Nat) (k : Int) (t : ByteArray), m = ⟨a, p, k, t⟩ ∧ a < 100 ∧ p < 100 ∧ (1 ≤ k ∧ k ≤ 4) := by
  obtain ⟨⟨a1, a2⟩, ⟨p1, p2⟩, k1, k2⟩ := mkOk_parts h
  obtain ⟨l, p, k, t⟩ := m
  simp only at a1 a2 p1 p2 k1 k2
  exact ⟨l.toNat, p.toNat, k, t, by rw [show ((l.toNat : Nat) : Int) = l by omega, show ((p.toNat : Nat) : Int) = p by omega], by omega, by omega, k1, k2⟩
theorem impl_MarkText (m : Mrk) (w : World) (hs : m.text.size ≤ 1048577) :
    Calls Tryd.prog 7 #[.agg #[.int .i64 m.line, .int .i64 m.place, .int .i64 m.kind, .string m.text]] w fun e w' => e = .returned (mtV m) ∧ Ext w w' := by
  cases h : mkOk m
  · rw [mtV_bad h]
    have H := Lib.hid h
    go_enter Tryd.func7, Tryd.ntmps7
    go_wp2_with (go_at_call 10; refine (impl_isMarkAlone m _ hs).mono ?_; rintro e w1 ⟨rfl, hE1⟩; rw [H.out])
    go_ret2
    exact ⟨rfl, (by repeat (first | exact Ext.refl _ | assumption | refine Ext.trans ?_ (Ext.alloc _ _) | refine Ext.trans ?_ (Ext.drew _) | refine Ext.trans ?_ (Ext.drewN _ _) | refine Ext.trans ?_ (by assumption)))⟩
  · rw [mtV_good h]
    have H := Lib.hid h
    obtain ⟨a, p, k, t, hm, ha, hp, hk⟩ := mtS_of h
    subst hm
    simp only at hs
    have c0 := impl_isMarkAlone ⟨a, p, k, t⟩
    have c1 := impl_markText a p k t
    simp only at c0
    have C0 := Lib.hid c0; have C1 := Lib.hid c1
    clear c0 c1 h
    go_enter Tryd.func7, Tryd.ntmps7
    go_wp2_with (go_at_call 10; refine (C0.out _ hs).mono ?_; rintro e w1 ⟨rfl, hE1⟩; rw [H.out]; have hx0 : w1.cell? ⟨w.heap.size, 0, none⟩ = some (.int .i64 (a : Int)) := box_new hE1 rfl; have hx1 : w1.cell? ⟨w.heap.size, 1, none⟩ = some (.int .i64 (p : Int)) := box_new hE1 rfl; have hx2 : w1.cell? ⟨w.heap.size, 2, none⟩ = some (.int .i64 k) := box_new hE1 rfl; have hx3 : w1.cell? ⟨w.heap.size, 3, none⟩ = some (.string t) := box_new hE1 rfl)
    refine (C1.out _ ha hp hk hs).mono ?_
    rintro e w2 ⟨rfl, hE2⟩
    go_wp2_with fail
    go_ret2
    exact ⟨rfl, (by repeat (first | exact Ext.refl _ | assumption | refine Ext.trans ?_ (Ext.alloc _ _) | refine Ext.trans ?_ (Ext.drew _) | refine Ext.trans ?_ (Ext.drewN _ _) | refine Ext.trans ?_ (by assumption)))⟩
theorem spec_MarkText (m : Mrk) (w : World) (hs : m.text.size ≤ 1048577) :
    Calls Tryd.prog 5 #[.agg #[.int .i64 m.line, .int .i64 m.place, .int .i64 m.kind, .string m.text]] w fun e w' => e = .returned (mtV m) ∧ Ext w w' := by
  cases h : mkOk m
  · rw [mtV_bad h]
    have H := Lib.hid h
    go_enter Tryd.func5, Tryd.ntmps5
    go_wp2_with (go_at_call 8; refine (spec_pfMark m _ hs).mono ?_; rintro e w1 ⟨rfl, hE1⟩; rw [H.out])
    go_ret2
    exact ⟨rfl, (by repeat (first | exact Ext.refl _ | assumption | refine Ext.trans ?_ (Ext.alloc _ _) | refine Ext.trans ?_ (Ext.drew _) | refine Ext.trans ?_ (Ext.drewN _ _) | refine Ext.trans ?_ (by assumption)))⟩
  · rw [mtV_good h]
    have H := Lib.hid h
    obtain ⟨a, p, k, t, hm, ha, hp, hk⟩ := mtS_of h
    subst hm
    simp only at hs
    have c0 := spec_pfMark ⟨a, p, k, t⟩
    have c1 := spec_pfText a p k t
    simp only at c0
    have C0 := Lib.hid c0; have C1 := Lib.hid c1
    clear c0 c1 h
    go_enter Tryd.func5, Tryd.ntmps5
    go_wp2_with (go_at_call 8; refine (C0.out _ hs).mono ?_; rintro e w1 ⟨rfl, hE1⟩; rw [H.out]; have hx0 : w1.cell? ⟨w.heap.size, 0, none⟩ = some (.int .i64 (a : Int)) := box_new hE1 rfl; have hx1 : w1.cell? ⟨w.heap.size, 1, none⟩ = some (.int .i64 (p : Int)) := box_new hE1 rfl; have hx2 : w1.cell? ⟨w.heap.size, 2, none⟩ = some (.int .i64 k) := box_new hE1 rfl; have hx3 : w1.cell? ⟨w.heap.size, 3, none⟩ = some (.string t) := box_new hE1 rfl)
    refine (C1.out _ ha hp hk hs).mono ?_
    rintro e w2 ⟨rfl, hE2⟩
    go_wp2_with fail
    go_ret2
    exact ⟨rfl, (by repeat (first | exact Ext.refl _ | assumption | refine Ext.trans ?_ (Ext.alloc _ _) | refine Ext.trans ?_ (Ext.drew _) | refine Ext.trans ?_ (Ext.drewN _ _) | refine Ext.trans ?_ (by assumption)))⟩
end Go.Proofs.YtclcclhdmciggaaDoor
