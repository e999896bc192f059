/- FewestLines: the walks. -/
import Derived.Test.YtmfoankgfiofdaaPbB
import Derived.BigRegion
namespace Go.Proofs.Ytmfoankgfiofdaa
open Go.RowKit
set_option linter.unusedVariables false
set_option maxHeartbeats 4000000 in
theorem impl_FewestLines (A : Option Addr) (c : Nat) (l : List Int) (r : Rul) (m : Int) (lo hi : Nat) (w : World) (hl : l.length ≤ 1048577) (hcap : l.length ≤ c) (hr : RdI w lo hi A l) :
    Calls Try.prog 25 #[.slice A l.length c, .agg #[.int .i64 r.least, .int .i64 r.normal, .int .i64 r.most], .int .i64 m] w fun e w' => e = .returned (fwV l r m) ∧ Ext w w' := by
  cases h1 : asked l r m
  · rw [fwV_bad h1]
    go_enter Try.func25, Try.ntmps25
    go_wp2_with ((go_at_call 37; refine (impl_asked A c l r m lo hi _ hl (hr.ext (Ext.alloc w (.cells #[.int .i64 r.least, .int .i64 r.normal, .int .i64 r.most] 28)))).mono ?_; rintro e w1 ⟨rfl, hE1⟩; obtain ⟨hc1, hf1⟩ := bcell hE1; have hs1 := hE1.size; (try simp only [World.size_alloc] at hs1)))
    go_ret2
    exact ⟨rfl, (by repeat (first | exact Ext.refl _ | assumption | refine Ext.trans ?_ (Ext.alloc _ _) | refine Ext.trans ?_ (Ext.drew _) | refine Ext.trans ?_ (Ext.drewN _ _) | refine Ext.trans ?_ (by assumption)))⟩
  · have HH1 := Lib.hid h1
    have hpl := pw_len (asked_parts h1).1
    have HPN : Hid ((paOf l r m).n = l.length) := rfl
    obtain ⟨w0, hw0⟩ : ∃ w0, w0 = w.alloc (.cells #[.int .i64 r.least, .int .i64 r.normal, .int .i64 r.most] 28) := ⟨_, rfl⟩
    have x0 : w0.cell? ⟨w.heap.size, 0, none⟩ = some (.int .i64 r.least) := by rw [hw0]; exact box_new (Ext.refl _) rfl
    have x1 : w0.cell? ⟨w.heap.size, 1, none⟩ = some (.int .i64 r.normal) := by rw [hw0]; exact box_new (Ext.refl _) rfl
    have x2 : w0.cell? ⟨w.heap.size, 2, none⟩ = some (.int .i64 r.most) := by rw [hw0]; exact box_new (Ext.refl _) rfl
    have hE0 : Ext w w0 := by rw [hw0]; exact Ext.alloc _ _
    have hlt0 : w.heap.size < w0.heap.size := by rw [hw0]; simp
    have HW0 := Lib.hid hw0
    clear hw0
    have hq := hr.ext hE0
    clear h1
    go_enter Try.func25, Try.ntmps25
    go_wp2_with fail
    have hw0' := HW0.out
    rw [← hw0']
    clear hw0'
    refine (impl_asked _ c l r m lo hi _ hl hq).mono ?_
    rintro e w1 ⟨rfl, hE1⟩
    rw [HH1.out]
    have y0 := hE1.cell x0
    have y1 := hE1.cell x1
    have y2 := hE1.cell x2
    clear y0 y1 y2
    go_wp2_with fail
    go_loopw [8] (fun j wr => ∃ k : Nat, k ≤ l.length ∧ j = .int .i64 ((k : Int) + 1) ∧ (∀ i, i < k → (bw (paOf l r m) false (i + 1) 0).1.isSome = false) ∧ Ext w0 wr) (fun j _ => l.length + 1 - (intOf j).toNat)
    case atStart => exact ⟨0, Nat.zero_le _, rfl, fun i hi => by omega, hE1⟩
    case round =>
      clear hE1
      obtain ⟨k, hk, rfl, hF, hE⟩ := hrel
      have HF := Lib.hid hF; clear hF
      have y0 := hE.cell x0
      have y1 := hE.cell x1
      have y2 := hE.cell x2
      by_cases hlt : k < l.length
      · go_wp2_with fail
        refine (leastCosts_k HH1.out k (by omega) ((k : Int) + 1) rfl _ c lo hi _ hcap (hq.ext hE)).mono ?_
        rintro e w3 ⟨g2, rfl, hR3, hE3⟩
        obtain ⟨x, b3, off3, HX, eA, _, _, hb3, q0, _⟩ := RdI.get hR3 (k := 0) (by rw [tabK_len, HPN.out]; omega)
        injection eA with eA; injection eA with eb eo _; subst eb; subst eo
        have hx : x = tv (bw (paOf l r m) false (k + 1) 0).1 := by have h := HX.out; rw [tabK_at (by rw [HPN.out]; omega)] at h; injection h with h; exact h.symm
        have hl3 : (tabK (paOf l r m) k).length = l.length := by rw [tabK_len, HPN.out]
        rw [hl3]
        have HL3 := Lib.hid hl3; clear hl3
        cases hs : (bw (paOf l r m) false (k + 1) 0).1 with
        | none =>
          have HS := Lib.hid hs
          rw [hs] at hx
          have hx2 : x = -1 := hx
          subst hx2
          clear hx hs
          go_wp2_with fail
          go_roundw
          case rel => exact ⟨k + 1, by omega, val_int (by omega), fun i hi => by
              by_cases e : i = k
              · rw [e, HS.out]; rfl
              · exact HF.out i (by omega), hE.trans hE3⟩
          case measure => (simp [intOf]; try omega)
        | some y =>
          have HS := Lib.hid hs
          have hy0 : 0 ≤ y.1 := (nn_bw (paOf_co HH1.out).1 (paOf_co HH1.out).2.2 false (k + 1)).2 0 y hs
          rw [hs] at hx
          have hx2 : x = y.1 := hx
          subst hx2
          clear hx hs
          go_wp2_with fail
          go_ret2
          exact ⟨by rw [fwV_first HH1.out hlt (by rw [HS.out]; rfl) HF.out]; rfl, (by repeat (first | exact Ext.refl _ | assumption | refine Ext.trans ?_ (Ext.alloc _ _) | refine Ext.trans ?_ (Ext.drew _) | refine Ext.trans ?_ (Ext.drewN _ _) | refine Ext.trans ?_ (by assumption)))⟩
      · have hkl : k = l.length := by omega
        subst hkl
        clear hlt y0 y1 y2
        go_wp2_with fail
        go_ret2
        exact ⟨by rw [fwV_none HH1.out HF.out]; rfl, (by repeat (first | exact Ext.refl _ | assumption | refine Ext.trans ?_ (Ext.alloc _ _) | refine Ext.trans ?_ (Ext.drew _) | refine Ext.trans ?_ (Ext.drewN _ _) | refine Ext.trans ?_ (by assumption)))⟩
set_option maxHeartbeats 4000000 in
theorem spec_FewestLines (A : Option Addr) (c : Nat) (l : List Int) (r : Rul) (m : Int) (lo hi : Nat) (w : World) (hl : l.length ≤ 1048577) (hcap : l.length ≤ c) (hr : RdI w lo hi A l) :
    Calls Try.prog 24 #[.slice A l.length c, .agg #[.int .i64 r.least, .int .i64 r.normal, .int .i64 r.most], .int .i64 m] w fun e w' => e = .returned (fwV l r m) ∧ Ext w w' := by
  cases h1 : asked l r m
  · rw [fwV_bad h1]
    go_enter Try.func24, Try.ntmps24
    go_wp2_with ((go_at_call 35; refine (spec_asked A c l r m lo hi _ hl (hr.ext (Ext.alloc w (.cells #[.int .i64 r.least, .int .i64 r.normal, .int .i64 r.most] 28)))).mono ?_; rintro e w1 ⟨rfl, hE1⟩; obtain ⟨hc1, hf1⟩ := bcell hE1; have hs1 := hE1.size; (try simp only [World.size_alloc] at hs1)))
    go_ret2
    exact ⟨rfl, (by repeat (first | exact Ext.refl _ | assumption | refine Ext.trans ?_ (Ext.alloc _ _) | refine Ext.trans ?_ (Ext.drew _) | refine Ext.trans ?_ (Ext.drewN _ _) | refine Ext.trans ?_ (by assumption)))⟩
  · have HH1 := Lib.hid h1
    have hpl := pw_len (asked_parts h1).1
    have HPN : Hid ((paOf l r m).n = l.length) := rfl
    obtain ⟨w0, hw0⟩ : ∃ w0, w0 = w.alloc (.cells #[.int .i64 r.least, .int .i64 r.normal, .int .i64 r.most] 28) := ⟨_, rfl⟩
    have x0 : w0.cell? ⟨w.heap.size, 0, none⟩ = some (.int .i64 r.least) := by rw [hw0]; exact box_new (Ext.refl _) rfl
    have x1 : w0.cell? ⟨w.heap.size, 1, none⟩ = some (.int .i64 r.normal) := by rw [hw0]; exact box_new (Ext.refl _) rfl
    have x2 : w0.cell? ⟨w.heap.size, 2, none⟩ = some (.int .i64 r.most) := by rw [hw0]; exact box_new (Ext.refl _) rfl
    have hE0 : Ext w w0 := by rw [hw0]; exact Ext.alloc _ _
    have hlt0 : w.heap.size < w0.heap.size := by rw [hw0]; simp
    have HW0 := Lib.hid hw0
    clear hw0
    have hq := hr.ext hE0
    clear h1
    go_enter Try.func24, Try.ntmps24
    go_wp2_with fail
    have hw0' := HW0.out
    rw [← hw0']
    clear hw0'
    refine (spec_asked _ c l r m lo hi _ hl hq).mono ?_
    rintro e w1 ⟨rfl, hE1⟩
    rw [HH1.out]
    have y0 := hE1.cell x0
    have y1 := hE1.cell x1
    have y2 := hE1.cell x2
    clear y0 y1 y2
    go_wp2_with fail
    go_loopw [8] (fun j wr => ∃ k : Nat, k ≤ l.length ∧ j = .int .i64 ((k : Int) + 1) ∧ (∀ i, i < k → (bw (paOf l r m) false (i + 1) 0).1.isSome = false) ∧ Ext w0 wr) (fun j _ => l.length + 1 - (intOf j).toNat)
    case atStart => exact ⟨0, Nat.zero_le _, rfl, fun i hi => by omega, hE1⟩
    case round =>
      clear hE1
      obtain ⟨k, hk, rfl, hF, hE⟩ := hrel
      have HF := Lib.hid hF; clear hF
      have y0 := hE.cell x0
      have y1 := hE.cell x1
      have y2 := hE.cell x2
      by_cases hlt : k < l.length
      · go_wp2_with fail
        refine (spec_paBestK _ c l r m ((k : Int) + 1) k lo hi _ HH1.out hcap rfl (by omega) (hq.ext hE)).mono ?_
        rintro e w3 ⟨A3, c3, rfl, hc3, hR3, hE3⟩
        cases hs : (bw (paOf l r m) false (k + 1) 0).1 with
        | none =>
          have HS := Lib.hid hs
          clear hs hc3 hR3
          rw [show bbP none = ([], 0, false) from rfl]
          go_wp2_with fail
          go_roundw
          case rel => exact ⟨k + 1, by omega, val_int (by omega), fun i hi => by
              by_cases e : i = k
              · rw [e, HS.out]; rfl
              · exact HF.out i (by omega), hE.trans hE3⟩
          case measure => (simp [intOf]; try omega)
        | some y =>
          have HS := Lib.hid hs
          clear hs hc3 hR3
          rw [show bbP (some y) = (y.2, y.1, true) from rfl]
          go_wp2_with fail
          go_ret2
          exact ⟨by rw [fwV_first HH1.out hlt (by rw [HS.out]; rfl) HF.out]; rfl, (by repeat (first | exact Ext.refl _ | assumption | refine Ext.trans ?_ (Ext.alloc _ _) | refine Ext.trans ?_ (Ext.drew _) | refine Ext.trans ?_ (Ext.drewN _ _) | refine Ext.trans ?_ (by assumption)))⟩
      · have hkl : k = l.length := by omega
        subst hkl
        clear hlt y0 y1 y2
        go_wp2_with fail
        go_ret2
        exact ⟨by rw [fwV_none HH1.out HF.out]; rfl, (by repeat (first | exact Ext.refl _ | assumption | refine Ext.trans ?_ (Ext.alloc _ _) | refine Ext.trans ?_ (Ext.drew _) | refine Ext.trans ?_ (Ext.drewN _ _) | refine Ext.trans ?_ (by assumption)))⟩
end Go.Proofs.Ytmfoankgfiofdaa
