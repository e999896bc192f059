/- The reference's best breaks with any number of lines; its CountBreaks. -/
import Derived.Test.YtmfoankgfiofdaaPbB
import Derived.Test.YtmfoankgfiofdaaPbZ
import Derived.BigRegion
namespace Go.Proofs.Ytmfoankgfiofdaa
open Go.RowKit
set_option linter.unusedVariables false
theorem spec_paFrom0 (A : Option Addr) (c : Nat) (l : List Int) (r : Rul) (m : Int) (lo hi : Nat) (w : World) (h1 : asked l r m = true) (hcap : l.length ≤ c) (hr : RdI w lo hi A l) :
    Calls Try.prog 47 #[.slice A l.length c, .agg #[.int .i64 r.least, .int .i64 r.normal, .int .i64 r.most], .int .i64 m, .int .i64 0] w (RetW w (bA (paOf l r m) 0)) := by
  have h := paFrom_any A c l r m 0 lo hi w h1 hcap (by omega) (Nat.le_refl _) hr
  have e : tb (paOf l r m) 0 0 0 = bA (paOf l r m) 0 := by simp [tb]
  rw [e] at h
  exact h
theorem spec_paBest0 (A : Option Addr) (c : Nat) (l : List Int) (r : Rul) (m : Int) (lo hi : Nat) (w : World) (h1 : asked l r m = true) (hcap : l.length ≤ c) (hr : RdI w lo hi A l) :
    Calls Try.prog 36 #[.slice A l.length c, .agg #[.int .i64 r.least, .int .i64 r.normal, .int .i64 r.most], .int .i64 m, .int .i64 0] w (RetI3 w (bbP (bA (paOf l r m) 0).1)) :=
  paBest_of A c l.length r m 0 _ w fun w1 hE => spec_paFrom0 A c l r m lo hi w1 h1 hcap (hr.ext hE)
theorem field_ways (a b c d : Value) (w : World) : (Instr.field 51 (.agg #[a, b, c, d]) 3).run Try.prog w = .ok d w := by
  simp [Instr.field, run_underlying Try.underlying51, asAgg, go_sem]
theorem field_ok (a b c d : Value) (w : World) : (Instr.field 51 (.agg #[a, b, c, d]) 0).run Try.prog w = .ok a w := by
  simp [Instr.field, run_underlying Try.underlying51, asAgg, go_sem]
set_option maxHeartbeats 4000000 in
theorem spec_CountBreaks (A : Option Addr) (c : Nat) (l : List Int) (r : Rul) (m : Int) (lo hi : Nat) (w : World) (hl : l.length ≤ 1048577) (hcap : l.length ≤ c) (hr : RdI w lo hi A l) :
    Calls Try.prog 22 #[.slice A l.length c, .agg #[.int .i64 r.least, .int .i64 r.normal, .int .i64 r.most], .int .i64 m] w fun e w' => e = .returned (cbV l r m) ∧ Ext w w' := by
  cases h1 : asked l r m
  · rw [cbV_bad h1]
    go_enter Try.func22, Try.ntmps22
    go_wp2_with ((go_at_call 35; refine (spec_asked A c l r m lo hi _ hl (hr.ext (Ext.alloc w (.cells #[.int .i64 r.least, .int .i64 r.normal, .int .i64 r.most] 28)))).mono ?_; rintro e w1 ⟨rfl, hE1⟩; obtain ⟨hc1, hf1⟩ := bcell hE1; have hs1 := hE1.size; (try simp only [World.size_alloc] at hs1)))
    go_ret2
    exact ⟨rfl, (by repeat (first | exact Ext.refl _ | assumption | refine Ext.trans ?_ (Ext.alloc _ _) | refine Ext.trans ?_ (Ext.drew _) | refine Ext.trans ?_ (Ext.drewN _ _) | refine Ext.trans ?_ (by assumption)))⟩
  · rw [cbV_good h1]
    have HH1 := Lib.hid h1
    obtain ⟨w0, hw0⟩ : ∃ w0, w0 = w.alloc (.cells #[.int .i64 r.least, .int .i64 r.normal, .int .i64 r.most] 28) := ⟨_, rfl⟩
    have x0 : w0.cell? ⟨w.heap.size, 0, none⟩ = some (.int .i64 r.least) := by rw [hw0]; exact box_new (Ext.refl _) rfl
    have x1 : w0.cell? ⟨w.heap.size, 1, none⟩ = some (.int .i64 r.normal) := by rw [hw0]; exact box_new (Ext.refl _) rfl
    have x2 : w0.cell? ⟨w.heap.size, 2, none⟩ = some (.int .i64 r.most) := by rw [hw0]; exact box_new (Ext.refl _) rfl
    have hE0 : Ext w w0 := by rw [hw0]; exact Ext.alloc _ _
    have hlt0 : w.heap.size < w0.heap.size := by rw [hw0]; simp
    have HW0 := Lib.hid hw0
    clear hw0
    have hq := hr.ext hE0
    clear h1
    go_enter Try.func22, Try.ntmps22
    go_wp2_with fail
    have hw0' := HW0.out
    rw [← hw0']
    clear hw0'
    refine (spec_asked _ c l r m lo hi _ hl hq).mono ?_
    rintro e w1 ⟨rfl, hE1⟩
    rw [HH1.out]
    have y0 := hE1.cell x0
    have y1 := hE1.cell x1
    have y2 := hE1.cell x2
    go_wp2_with fail
    refine (spec_paFrom0 _ c l r m lo hi _ HH1.out hcap (hq.ext hE1)).mono ?_
    rintro e w2 ⟨A2, c2, rfl, hc2, hR2, hE2⟩
    have hfd : ∀ wx, _ := fun wx => field_ways (.bool (bA (paOf l r m) 0).1.isSome) (.int .i64 (owCost (bA (paOf l r m) 0).1)) (.slice A2 (owList (bA (paOf l r m) 0).1).length c2) (.int .i64 (bA (paOf l r m) 0).2) wx
    go_wp2_with fail
    go_ret2
    exact ⟨rfl, (by repeat (first | exact Ext.refl _ | assumption | refine Ext.trans ?_ (Ext.alloc _ _) | refine Ext.trans ?_ (Ext.drew _) | refine Ext.trans ?_ (Ext.drewN _ _) | refine Ext.trans ?_ (by assumption)))⟩
end Go.Proofs.Ytmfoankgfiofdaa
