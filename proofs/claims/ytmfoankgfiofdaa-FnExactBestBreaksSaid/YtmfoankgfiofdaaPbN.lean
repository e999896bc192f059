/- BestBreaks: the walks. -/
import Derived.Test.YtmfoankgfiofdaaPbH
import Derived.Test.YtmfoankgfiofdaaPbF
namespace Go.Proofs.Ytmfoankgfiofdaa
open Go.RowKit
set_option linter.unusedVariables false
def bbkP (l : List Int) (r : Rul) (m : Int) : List Int × Int × Bool := if asked l r m then bbP (bA (paOf l r m) 0).1 else ([], 0, false)
theorem bbkP_bad {l : List Int} {r : Rul} {m : Int} (h : (asked l r m) = false) : bbkP l r m = ([], 0, false) := by simp only [bbkP, h]; rfl
theorem bbkP_good {l : List Int} {r : Rul} {m : Int} (h1 : asked l r m = true) : bbkP l r m = bbP (bA (paOf l r m) 0).1 := by simp [bbkP, h1]
theorem bbkP_len (l : List Int) (r : Rul) (m : Int) : (bbkP l r m).1.length ≤ 4000000 := by
  cases h : asked l r m
  · rw [bbkP_bad h]; simp
  · rw [bbkP_good h]
    obtain ⟨hc, hd, hp⟩ := paOf_co h
    have hl := (pw_len (asked_parts h).1).2
    have hn : (paOf l r m).n = l.length := rfl
    cases hX : (bA (paOf l r m) 0).1 with
    | none => simp [bbP, owList]
    | some y =>
      have := ln_bw hc hp true _ 0 y hp hX
      show y.2.length ≤ _
      omega
set_option maxHeartbeats 4000000 in
theorem impl_BestBreaks (A : Option Addr) (c : Nat) (l : List Int) (r : Rul) (m : Int) (lo hi : Nat) (w : World) (hl : l.length ≤ 1048577) (hcap : l.length ≤ c) (hr : RdI w lo hi A l) :
    Calls Try.prog 14 #[.slice A l.length c, .agg #[.int .i64 r.least, .int .i64 r.normal, .int .i64 r.most], .int .i64 m] w (RetI3 w (bbkP l r m)) := by
  cases h1 : asked l r m
  · rw [bbkP_bad (by simp [h1])]
    go_enter Try.func14, Try.ntmps14
    go_wp2_with ((go_at_call 37; refine (impl_asked A c l r m lo hi _ hl (hr.ext (Ext.alloc w (.cells #[.int .i64 r.least, .int .i64 r.normal, .int .i64 r.most] 28)))).mono ?_; rintro e w1 ⟨rfl, hE1⟩; obtain ⟨hc1, hf1⟩ := bcell hE1; have hs1 := hE1.size; (try simp only [World.size_alloc] at hs1)))
    go_ret3
    exact retI3_lit (by repeat (first | exact Ext.refl _ | assumption | refine Ext.trans ?_ (Ext.alloc _ _) | refine Ext.trans ?_ (Ext.drew _) | refine Ext.trans ?_ (Ext.drewN _ _) | refine Ext.trans ?_ (by assumption)))
  rw [bbkP_good h1]
  have HH1 := Lib.hid h1
  obtain ⟨w0, hw0⟩ : ∃ w0, w0 = w.alloc (.cells #[.int .i64 r.least, .int .i64 r.normal, .int .i64 r.most] 28) := ⟨_, rfl⟩
  have x0 : w0.cell? ⟨w.heap.size, 0, none⟩ = some (.int .i64 r.least) := by rw [hw0]; exact box_new (Ext.refl _) rfl
  have x1 : w0.cell? ⟨w.heap.size, 1, none⟩ = some (.int .i64 r.normal) := by rw [hw0]; exact box_new (Ext.refl _) rfl
  have x2 : w0.cell? ⟨w.heap.size, 2, none⟩ = some (.int .i64 r.most) := by rw [hw0]; exact box_new (Ext.refl _) rfl
  have hE0 : Ext w w0 := by rw [hw0]; exact Ext.alloc _ _
  have hlt0 : w.heap.size < w0.heap.size := by rw [hw0]; simp
  have HW0 := Lib.hid hw0
  clear hw0
  have hq := hr.ext hE0
  clear h1
  go_enter Try.func14, Try.ntmps14
  go_wp2_with fail
  have hw0' := HW0.out
  rw [← hw0']
  clear hw0'
  refine (impl_asked _ c l r m lo hi _ hl hq).mono ?_
  rintro e w1 ⟨rfl, hE1⟩
  rw [HH1.out]
  have y0 := hE1.cell x0
  have y1 := hE1.cell x1
  have y2 := hE1.cell x2
  go_wp2_with fail
  refine (bestBreaks_any _ c l r m lo hi _ HH1.out hcap (hq.ext hE1)).mono ?_
  rintro e w2 ⟨A2, c2, rfl, hc2, hR2, hE2⟩
  have hz0 := hE0.size
  have hz1 := hE1.size
  go_wp2_with fail
  go_ret3
  exact ⟨A2, c2, rfl, hc2, Rd.wide hR2 (by omega) (Nat.le_refl _) (Nat.le_refl _), (hE0.trans hE1).trans hE2⟩
set_option maxHeartbeats 4000000 in
theorem spec_BestBreaks (A : Option Addr) (c : Nat) (l : List Int) (r : Rul) (m : Int) (lo hi : Nat) (w : World) (hl : l.length ≤ 1048577) (hcap : l.length ≤ c) (hr : RdI w lo hi A l) :
    Calls Try.prog 11 #[.slice A l.length c, .agg #[.int .i64 r.least, .int .i64 r.normal, .int .i64 r.most], .int .i64 m] w (RetI3 w (bbkP l r m)) := by
  cases h1 : asked l r m
  · rw [bbkP_bad (by simp [h1])]
    go_enter Try.func11, Try.ntmps11
    go_wp2_with ((go_at_call 35; refine (spec_asked A c l r m lo hi _ hl (hr.ext (Ext.alloc w (.cells #[.int .i64 r.least, .int .i64 r.normal, .int .i64 r.most] 28)))).mono ?_; rintro e w1 ⟨rfl, hE1⟩; obtain ⟨hc1, hf1⟩ := bcell hE1; have hs1 := hE1.size; (try simp only [World.size_alloc] at hs1)))
    go_ret3
    exact retI3_lit (by repeat (first | exact Ext.refl _ | assumption | refine Ext.trans ?_ (Ext.alloc _ _) | refine Ext.trans ?_ (Ext.drew _) | refine Ext.trans ?_ (Ext.drewN _ _) | refine Ext.trans ?_ (by assumption)))
  rw [bbkP_good h1]
  have HH1 := Lib.hid h1
  obtain ⟨w0, hw0⟩ : ∃ w0, w0 = w.alloc (.cells #[.int .i64 r.least, .int .i64 r.normal, .int .i64 r.most] 28) := ⟨_, rfl⟩
  have x0 : w0.cell? ⟨w.heap.size, 0, none⟩ = some (.int .i64 r.least) := by rw [hw0]; exact box_new (Ext.refl _) rfl
  have x1 : w0.cell? ⟨w.heap.size, 1, none⟩ = some (.int .i64 r.normal) := by rw [hw0]; exact box_new (Ext.refl _) rfl
  have x2 : w0.cell? ⟨w.heap.size, 2, none⟩ = some (.int .i64 r.most) := by rw [hw0]; exact box_new (Ext.refl _) rfl
  have hE0 : Ext w w0 := by rw [hw0]; exact Ext.alloc _ _
  have hlt0 : w.heap.size < w0.heap.size := by rw [hw0]; simp
  have HW0 := Lib.hid hw0
  clear hw0
  have hq := hr.ext hE0
  clear h1
  go_enter Try.func11, Try.ntmps11
  go_wp2_with fail
  have hw0' := HW0.out
  rw [← hw0']
  clear hw0'
  refine (spec_asked _ c l r m lo hi _ hl hq).mono ?_
  rintro e w1 ⟨rfl, hE1⟩
  rw [HH1.out]
  have y0 := hE1.cell x0
  have y1 := hE1.cell x1
  have y2 := hE1.cell x2
  go_wp2_with fail
  refine (spec_paBest0 _ c l r m lo hi _ HH1.out hcap (hq.ext hE1)).mono ?_
  rintro e w2 ⟨A2, c2, rfl, hc2, hR2, hE2⟩
  have hz0 := hE0.size
  have hz1 := hE1.size
  go_wp2_with fail
  go_ret3
  exact ⟨A2, c2, rfl, hc2, Rd.wide hR2 (by omega) (Nat.le_refl _) (Nat.le_refl _), (hE0.trans hE1).trans hE2⟩
end Go.Proofs.Ytmfoankgfiofdaa
