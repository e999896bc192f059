/- BestWithLines: the walks. -/
import Derived.Test.YtmfoankgfiofdaaPbB
import Derived.Test.YtmfoankgfiofdaaPbG
namespace Go.Proofs.Ytmfoankgfiofdaa
open Go.RowKit
set_option linter.unusedVariables false
def bwlP (l : List Int) (r : Rul) (m L : Int) : List Int × Int × Bool := if asked l r m && inB L 1 24 then bbP (bw (paOf l r m) false L.toNat 0).1 else ([], 0, false)
theorem bwlP_bad {l : List Int} {r : Rul} {m L : Int} (h : (asked l r m && inB L 1 24) = false) : bwlP l r m L = ([], 0, false) := by simp only [bwlP, h]; rfl
theorem bwlP_good {l : List Int} {r : Rul} {m L : Int} (h1 : asked l r m = true) (h2 : inB L 1 24 = true) : bwlP l r m L = bbP (bw (paOf l r m) false L.toNat 0).1 := by simp [bwlP, h1, h2]
theorem bwlP_len (l : List Int) (r : Rul) (m L : Int) : (bwlP l r m L).1.length ≤ 4000000 := by
  cases h : asked l r m && inB L 1 24
  · rw [bwlP_bad h]; simp
  · simp only [Bool.and_eq_true] at h
    rw [bwlP_good h.1 h.2]
    obtain ⟨hc, hd, hp⟩ := paOf_co h.1
    have hl := (pw_len (asked_parts h.1).1).2
    have hn : (paOf l r m).n = l.length := rfl
    cases hX : (bw (paOf l r m) false L.toNat 0).1 with
    | none => simp [bbP, owList]
    | some y =>
      have := ln_bw hc hp false _ 0 y hp hX
      show y.2.length ≤ _
      omega
set_option maxHeartbeats 4000000 in
theorem impl_BestWithLines (A : Option Addr) (c : Nat) (l : List Int) (r : Rul) (m : Int) (L : Int) (lo hi : Nat) (w : World) (hl : l.length ≤ 1048577) (hcap : l.length ≤ c) (hr : RdI w lo hi A l) :
    Calls Try.prog 19 #[.slice A l.length c, .agg #[.int .i64 r.least, .int .i64 r.normal, .int .i64 r.most], .int .i64 m, .int .i64 L] w (RetI3 w (bwlP l r m L)) := by
  cases h1 : asked l r m
  · rw [bwlP_bad (by simp [h1])]
    go_enter Try.func19, Try.ntmps19
    go_wp2_with ((go_at_call 37; refine (impl_asked A c l r m lo hi _ hl (hr.ext (Ext.alloc w (.cells #[.int .i64 r.least, .int .i64 r.normal, .int .i64 r.most] 28)))).mono ?_; rintro e w1 ⟨rfl, hE1⟩; obtain ⟨hc1, hf1⟩ := bcell hE1; have hs1 := hE1.size; (try simp only [World.size_alloc] at hs1)))
    go_ret3
    exact retI3_lit (by repeat (first | exact Ext.refl _ | assumption | refine Ext.trans ?_ (Ext.alloc _ _) | refine Ext.trans ?_ (Ext.drew _) | refine Ext.trans ?_ (Ext.drewN _ _) | refine Ext.trans ?_ (by assumption)))
  cases h2 : inB L 1 24
  · rw [bwlP_bad (by simp [h2])]
    have HH2 := Lib.hid h2
    go_enter Try.func19, Try.ntmps19
    go_wp2_with (first | (go_at_call 37; refine (impl_asked A c l r m lo hi _ hl (hr.ext (Ext.alloc w (.cells #[.int .i64 r.least, .int .i64 r.normal, .int .i64 r.most] 28)))).mono ?_; rintro e w1 ⟨rfl, hE1⟩; obtain ⟨hc1, hf1⟩ := bcell hE1; have hs1 := hE1.size; (try simp only [World.size_alloc] at hs1)) | (go_at_call 40; refine (within_any _ _ _ _).mono ?_; rintro e w' ⟨rfl, rfl⟩))
    go_ret3
    exact retI3_lit (by repeat (first | exact Ext.refl _ | assumption | refine Ext.trans ?_ (Ext.alloc _ _) | refine Ext.trans ?_ (Ext.drew _) | refine Ext.trans ?_ (Ext.drewN _ _) | refine Ext.trans ?_ (by assumption)))
  have hL := inB_iff.1 h2
  rw [bwlP_good h1 h2]
  obtain ⟨kk, hkk⟩ : ∃ kk : Nat, L = (kk : Int) + 1 := ⟨(L - 1).toNat, by omega⟩
  rw [show L.toNat = kk + 1 by omega]
  have hk23 : kk ≤ 23 := by omega
  have HKK := Lib.hid hkk
  clear hkk
  have HH1 := Lib.hid h1
  obtain ⟨w0, hw0⟩ : ∃ w0, w0 = w.alloc (.cells #[.int .i64 r.least, .int .i64 r.normal, .int .i64 r.most] 28) := ⟨_, rfl⟩
  have x0 : w0.cell? ⟨w.heap.size, 0, none⟩ = some (.int .i64 r.least) := by rw [hw0]; exact box_new (Ext.refl _) rfl
  have x1 : w0.cell? ⟨w.heap.size, 1, none⟩ = some (.int .i64 r.normal) := by rw [hw0]; exact box_new (Ext.refl _) rfl
  have x2 : w0.cell? ⟨w.heap.size, 2, none⟩ = some (.int .i64 r.most) := by rw [hw0]; exact box_new (Ext.refl _) rfl
  have hE0 : Ext w w0 := by rw [hw0]; exact Ext.alloc _ _
  have hlt0 : w.heap.size < w0.heap.size := by rw [hw0]; simp
  have HW0 := Lib.hid hw0
  clear hw0
  have hq := hr.ext hE0
  clear h1
  go_enter Try.func19, Try.ntmps19
  go_wp2_with fail
  have hw0' := HW0.out
  rw [← hw0']
  clear hw0'
  refine (impl_asked _ c l r m lo hi _ hl hq).mono ?_
  rintro e w1 ⟨rfl, hE1⟩
  rw [HH1.out]
  have y0 := hE1.cell x0
  have y1 := hE1.cell x1
  have y2 := hE1.cell x2
  go_wp2_with ((go_at_call 40; refine (within_any _ _ _ _).mono ?_; rintro e w' ⟨rfl, rfl⟩))
  refine (bestBreaks_k _ c l r m L kk (by omega) HKK.out lo hi _ HH1.out hcap (hq.ext hE1)).mono ?_
  rintro e w2 ⟨A2, c2, rfl, hc2, hR2, hE2⟩
  have hz0 := hE0.size
  have hz1 := hE1.size
  go_wp2_with fail
  go_ret3
  exact ⟨A2, c2, rfl, hc2, Rd.wide hR2 (by omega) (Nat.le_refl _) (Nat.le_refl _), (hE0.trans hE1).trans hE2⟩
set_option maxHeartbeats 4000000 in
theorem spec_BestWithLines (A : Option Addr) (c : Nat) (l : List Int) (r : Rul) (m : Int) (L : Int) (lo hi : Nat) (w : World) (hl : l.length ≤ 1048577) (hcap : l.length ≤ c) (hr : RdI w lo hi A l) :
    Calls Try.prog 18 #[.slice A l.length c, .agg #[.int .i64 r.least, .int .i64 r.normal, .int .i64 r.most], .int .i64 m, .int .i64 L] w (RetI3 w (bwlP l r m L)) := by
  cases h1 : asked l r m
  · rw [bwlP_bad (by simp [h1])]
    go_enter Try.func18, Try.ntmps18
    go_wp2_with ((go_at_call 35; refine (spec_asked A c l r m lo hi _ hl (hr.ext (Ext.alloc w (.cells #[.int .i64 r.least, .int .i64 r.normal, .int .i64 r.most] 28)))).mono ?_; rintro e w1 ⟨rfl, hE1⟩; obtain ⟨hc1, hf1⟩ := bcell hE1; have hs1 := hE1.size; (try simp only [World.size_alloc] at hs1)))
    go_ret3
    exact retI3_lit (by repeat (first | exact Ext.refl _ | assumption | refine Ext.trans ?_ (Ext.alloc _ _) | refine Ext.trans ?_ (Ext.drew _) | refine Ext.trans ?_ (Ext.drewN _ _) | refine Ext.trans ?_ (by assumption)))
  cases h2 : inB L 1 24
  · rw [bwlP_bad (by simp [h2])]
    have HH2 := Lib.hid h2
    go_enter Try.func18, Try.ntmps18
    go_wp2_with (first | (go_at_call 35; refine (spec_asked A c l r m lo hi _ hl (hr.ext (Ext.alloc w (.cells #[.int .i64 r.least, .int .i64 r.normal, .int .i64 r.most] 28)))).mono ?_; rintro e w1 ⟨rfl, hE1⟩; obtain ⟨hc1, hf1⟩ := bcell hE1; have hs1 := hE1.size; (try simp only [World.size_alloc] at hs1)) | (go_at_call 39; refine (l1In_any _ _ _ _).mono ?_; rintro e w' ⟨rfl, rfl⟩))
    go_ret3
    exact retI3_lit (by repeat (first | exact Ext.refl _ | assumption | refine Ext.trans ?_ (Ext.alloc _ _) | refine Ext.trans ?_ (Ext.drew _) | refine Ext.trans ?_ (Ext.drewN _ _) | refine Ext.trans ?_ (by assumption)))
  have hL := inB_iff.1 h2
  rw [bwlP_good h1 h2]
  obtain ⟨kk, hkk⟩ : ∃ kk : Nat, L = (kk : Int) + 1 := ⟨(L - 1).toNat, by omega⟩
  rw [show L.toNat = kk + 1 by omega]
  have hk23 : kk ≤ 23 := by omega
  have HKK := Lib.hid hkk
  clear hkk
  have HH1 := Lib.hid h1
  obtain ⟨w0, hw0⟩ : ∃ w0, w0 = w.alloc (.cells #[.int .i64 r.least, .int .i64 r.normal, .int .i64 r.most] 28) := ⟨_, rfl⟩
  have x0 : w0.cell? ⟨w.heap.size, 0, none⟩ = some (.int .i64 r.least) := by rw [hw0]; exact box_new (Ext.refl _) rfl
  have x1 : w0.cell? ⟨w.heap.size, 1, none⟩ = some (.int .i64 r.normal) := by rw [hw0]; exact box_new (Ext.refl _) rfl
  have x2 : w0.cell? ⟨w.heap.size, 2, none⟩ = some (.int .i64 r.most) := by rw [hw0]; exact box_new (Ext.refl _) rfl
  have hE0 : Ext w w0 := by rw [hw0]; exact Ext.alloc _ _
  have hlt0 : w.heap.size < w0.heap.size := by rw [hw0]; simp
  have HW0 := Lib.hid hw0
  clear hw0
  have hq := hr.ext hE0
  clear h1
  go_enter Try.func18, Try.ntmps18
  go_wp2_with fail
  have hw0' := HW0.out
  rw [← hw0']
  clear hw0'
  refine (spec_asked _ c l r m lo hi _ hl hq).mono ?_
  rintro e w1 ⟨rfl, hE1⟩
  rw [HH1.out]
  have y0 := hE1.cell x0
  have y1 := hE1.cell x1
  have y2 := hE1.cell x2
  go_wp2_with ((go_at_call 39; refine (l1In_any _ _ _ _).mono ?_; rintro e w' ⟨rfl, rfl⟩))
  refine (spec_paBestK _ c l r m L kk lo hi _ HH1.out hcap HKK.out (by omega) (hq.ext hE1)).mono ?_
  rintro e w2 ⟨A2, c2, rfl, hc2, hR2, hE2⟩
  have hz0 := hE0.size
  have hz1 := hE1.size
  go_wp2_with fail
  go_ret3
  exact ⟨A2, c2, rfl, hc2, Rd.wide hR2 (by omega) (Nat.le_refl _) (Nat.le_refl _), (hE0.trans hE1).trans hE2⟩
end Go.Proofs.Ytmfoankgfiofdaa
