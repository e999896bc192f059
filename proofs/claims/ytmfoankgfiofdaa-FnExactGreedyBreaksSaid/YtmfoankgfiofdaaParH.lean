/- The walk of the program's GreedyBreaks. -/
import Derived.Test.YtmfoankgfiofdaaParG
namespace Go.Proofs.Ytmfoankgfiofdaa
open Go.RowKit
set_option linter.unusedVariables false
theorem RdI.wide {w : World} {lo hi lo' : Nat} {A : Option Addr} {l : List Int} (h : RdI w lo hi A l) (h1 : lo' ≤ lo) : RdI w lo' hi A l :=
  ⟨h.1, fun hn => by obtain ⟨b, off, e, h2, h3, hc⟩ := h.2 hn; exact ⟨b, off, e, by omega, h3, hc⟩⟩
set_option maxHeartbeats 1000000 in
theorem impl_GreedyBreaks (A : Option Addr) (c : Nat) (l : List Int) (r : Rul) (m : Int) (lo hi : Nat) (w : World) (hl : l.length ≤ 1048577) (hcap : l.length ≤ c) (hr : RdI w lo hi A l) :
    Calls Try.prog 27 #[.slice A l.length c, .agg #[.int .i64 r.least, .int .i64 r.normal, .int .i64 r.most], .int .i64 m] w (RetI2 w (gP l r m)) := by
  have hq := hr.ext (Ext.alloc w (.cells #[.int .i64 r.least, .int .i64 r.normal, .int .i64 r.most] 28))
  cases h1 : asked l r m
  · rw [gP_bad h1]
    go_enter Try.func27, Try.ntmps27
    go_wp2_with (first | (go_at_call 37; refine (impl_asked A c l r m lo hi _ hl hq).mono ?_; rintro e w1 ⟨rfl, hE1⟩; obtain ⟨hc1, hf1⟩ := bcell hE1; have hs1 := hE1.size; (try simp only [World.size_alloc] at hs1)))
    go_ret2
    exact retI2_lit (by repeat (first | exact Ext.refl _ | assumption | refine Ext.trans ?_ (Ext.alloc _ _) | refine Ext.trans ?_ (Ext.drew _) | refine Ext.trans ?_ (Ext.drewN _ _) | refine Ext.trans ?_ (by assumption)))
  obtain ⟨hp, ⟨r1, r2, r3, r4⟩, m1, m2⟩ := asked_parts h1
  have hpl := pw_len hp
  have HPM := Lib.hid (pw_mem hp)
  have HRR : Hid (ruleOk r = true) := ruleOk_iff.2 ⟨r1, r2, r3, r4⟩
  have HMM : Hid (inB m 1 2000 = true) := inB_iff.2 ⟨m1, m2⟩
  have HG0 : Hid (gP l r m = gFin [] (gRest l r m 0)) := gP_good h1
  obtain ⟨_, b, off, _, rfl, _, _, g3, _, _⟩ := RdI.get hr (k := 0) (by omega)
  have HH1 := Lib.hid h1; clear h1 hp
  obtain ⟨w0, hw0⟩ : ∃ w0, w0 = w.alloc (.cells #[.int .i64 r.least, .int .i64 r.normal, .int .i64 r.most] 28) := ⟨_, rfl⟩
  have x0 : w0.cell? ⟨w.heap.size, 0, none⟩ = some (.int .i64 r.least) := by rw [hw0]; exact box_new (Ext.refl _) rfl
  have x1 : w0.cell? ⟨w.heap.size, 1, none⟩ = some (.int .i64 r.normal) := by rw [hw0]; exact box_new (Ext.refl _) rfl
  have x2 : w0.cell? ⟨w.heap.size, 2, none⟩ = some (.int .i64 r.most) := by rw [hw0]; exact box_new (Ext.refl _) rfl
  have hE0 : Ext w w0 := by rw [hw0]; exact Ext.alloc _ _
  have hlt0 : w.heap.size < w0.heap.size := by rw [hw0]; simp
  have HW0 := Lib.hid hw0
  clear hw0
  have h1 := HH1.out
  go_enter Try.func27, Try.ntmps27
  go_wp2_with (first | (go_at_call 37; refine (impl_asked _ c l r m lo hi _ hl hq).mono ?_; rintro e w1 ⟨rfl, hE1⟩; obtain ⟨hc1, hf1⟩ := bcell hE1; have hs1 := hE1.size; (try simp only [World.size_alloc] at hs1)))
  clear h1
  have hEE : Ext w0 w1 := by rw [HW0.out]; exact hE1
  have hse := hEE.size
  have hq0 := hr.ext hE0
  clear hq hE1 hc1 hf1 hs1
  go_loopw [8, 9] (fun v f wr => ∃ (F : Nat) (B : List Int), F ≤ l.length ∧ f = .int .i64 F ∧ B.length ≤ F ∧ gP l r m = gFin B (gRest l r m F) ∧ wr.ownsRow w0.heap.size 3 1 v B.length (B.map (Value.int .i64)) ∧ Ext w0 wr) (fun _ f _ => l.length - (intOf f).toNat)
  case atStart => exact ⟨0, [], Nat.zero_le _, rfl, Nat.le_refl _, HG0.out, own_lit0 _ _ hse (Ext.refl _), hEE.trans (Ext.alloc _ _)⟩
  case round =>
    obtain ⟨F, B, hF, rfl, hBF, hg, hown, hE⟩ := hrel
    have HG := Lib.hid hg; clear hg
    have y0 : ∀ x : XW wr, x.v.cell? ⟨w.heap.size, 0, none⟩ = _ := fun x => x.h.cell (hE.cell x0)
    have y1 : ∀ x : XW wr, x.v.cell? ⟨w.heap.size, 1, none⟩ = _ := fun x => x.h.cell (hE.cell x1)
    have y2 : ∀ x : XW wr, x.v.cell? ⟨w.heap.size, 2, none⟩ = _ := fun x => x.h.cell (hE.cell x2)
    by_cases hlt : F < l.length
    · obtain ⟨N, hN⟩ : ∃ N, N = gN l r m F := ⟨_, rfl⟩
      have hNle : N ≤ l.length - F := by rw [hN]; exact gN_le l r m F
      have HN := Lib.hid hN; clear hN
      obtain ⟨X, hX⟩ : ∃ X, X = min l.length (F + 20) := ⟨_, rfl⟩
      have hx1 : F < X := by omega
      have hx2 : X ≤ l.length := by omega
      have hx3 : X ≤ F + 20 := by omega
      have hmin : (if (F : Int) + 20 < (l.length : Int) then (F : Int) + 20 else (l.length : Int)) = (X : Int) := by split <;> omega
      have HX := Lib.hid hX; clear hX
      have k1 : IntKind.i64.wrap ((F : Int) + 20) = (F : Int) + 20 := IntWalk.i64_in _ (by omega)
      have hcut := cutL_len l (i := F) (k := X) hx2
      have HC := Lib.hid hcut
      have hcF : ¬ c = F := by omega
      have hRc := (hq0.ext hE).cut F X
      have HCM : Hid (∀ x ∈ cutL l F X, 1 ≤ x ∧ x ≤ 600) := fun x hx => HPM.out x (cutL_mem hx)
      have hc1 : 1 ≤ (cutL l F X).length := by omega
      have hc2 : (cutL l F X).length ≤ 20 := by omega
      have hc3 : X - F ≤ c - F := by omega
      clear hcut
      have HCALL : Hid (∀ x : XW wr, Calls Try.prog 51 #[.slice (some ⟨b, off + F, none⟩) (X - F) (c - F), .agg #[.int .i64 r.least, .int .i64 r.normal, .int .i64 r.most], .int .i64 m] x.v fun e w' => e = .returned (.tuple #[.int .i64 (N : Nat), .bool true]) ∧ Ext x.v w') := by
        intro x
        have h := impl_WordsThatFit _ (c - F) (X - F) (cutL l F X) r m _ _ x.v HC.out hc3 hc1 hc2 HCM.out HRR.out HMM.out (hRc.ext x.h)
        rw [HN.out, ← gN_cut hlt, ← HX.out]
        exact h
      by_cases hN0 : N = 0
      · subst hN0
        go_wp2_with fail
        refine wp_region_xw (w0 := wr) (by kernel_rfl) (by kernel_rfl) (by repeat (first | exact Ext.refl _ | assumption | refine Ext.trans ?_ (Ext.alloc _ _) | refine Ext.trans ?_ (Ext.drew _) | refine Ext.trans ?_ (Ext.drewN _ _) | refine Ext.trans ?_ (by assumption))) ?_; (repeat (go_big_quiet_step ((go_at_call 51; with_reducible exact XW.call (HCALL.out _))))); refine wpQuiet_nil ?_; intro _ hw'; obtain ⟨⟨w3, hEw3⟩, hw''⟩ := hw'; subst hw''
        go_wp2
        go_ret2
        rw [HG.out, gRest_none hlt HN.out.symm]
        exact retI2_lit (by repeat (first | exact Ext.refl _ | assumption | refine Ext.trans ?_ (Ext.alloc _ _) | refine Ext.trans ?_ (Ext.drew _) | refine Ext.trans ?_ (Ext.drewN _ _) | refine Ext.trans ?_ (by assumption)))
      · by_cases hF0 : F = 0
        · have hF1 : F ≤ 0 := by omega
          have HF0 := Lib.hid hF0; clear hF0
          go_wp2_with fail
          refine wp_region_xw (w0 := wr) (by kernel_rfl) (by kernel_rfl) (by repeat (first | exact Ext.refl _ | assumption | refine Ext.trans ?_ (Ext.alloc _ _) | refine Ext.trans ?_ (Ext.drew _) | refine Ext.trans ?_ (Ext.drewN _ _) | refine Ext.trans ?_ (by assumption))) ?_; (repeat (go_big_quiet_step ((go_at_call 51; with_reducible exact XW.call (HCALL.out _))))); refine wpQuiet_nil ?_; intro _ hw'; obtain ⟨⟨w3, hEw3⟩, hw''⟩ := hw'; subst hw''
          go_wp2
          go_roundw
          case rel =>
            have e0 := HF0.out
            subst e0
            exact ⟨0 + N, B, by omega, by go_num, by omega, by rw [HG.out, gFin_step0 B hlt (by rw [← HN.out]; exact hN0), ← HN.out, Nat.zero_add], ownsRow_ext hown hEw3, hE.trans hEw3⟩
          case measure => simp [intOf]; omega
        · have hF1 : 0 < F := by omega
          have HGS : Hid (gP l r m = gFin (B ++ [(F : Int)]) (gRest l r m (F + N))) := by show _ = _; rw [HG.out, gFin_step B hlt (by rw [← HN.out]; exact hN0) hF1, ← HN.out]
          clear hF0
          go_wp2_with fail
          refine wp_region_xw (w0 := wr) (by kernel_rfl) (by kernel_rfl) (by repeat (first | exact Ext.refl _ | assumption | refine Ext.trans ?_ (Ext.alloc _ _) | refine Ext.trans ?_ (Ext.drew _) | refine Ext.trans ?_ (Ext.drewN _ _) | refine Ext.trans ?_ (by assumption))) ?_; (repeat (go_big_quiet_step ((go_at_call 51; with_reducible exact XW.call (HCALL.out _))))); refine wpQuiet_nil ?_; intro _ hw'; obtain ⟨⟨w3, hEw3⟩, hw''⟩ := hw'; subst hw''
          go_wp2_with (first | (at_builtin; refine wp_app _ w0 rfl (.tmp 42) (.tmp 44) 22 rfl 3 _ 1 8 Try.underlying22 intInfo0 rfl (by omega) _ B.length _ rfl (ownsRow_ext hown (hEw3.trans (Ext.alloc _ _))) (hE.trans (hEw3.trans (Ext.alloc _ _))) _ _ _ 1 1 [.int .i64 F] rfl rfl (rdA_new rfl (Ext.refl _)) (by simp [Value.oneCell']) (by omega) (by simp) ?_; intro v4 w4 hown4 hE4 hg4 hat4))
          go_roundw
          case rel => exact ⟨F + N, B ++ [(F : Int)], by omega, by go_num, by simp; omega, HGS.out, by rw [List.map_append, List.length_append]; exact hown4, hE4⟩
          case measure => simp [intOf]; omega
    · have hkl : F = l.length := by omega
      subst hkl
      clear hlt
      obtain ⟨A', c', rfl, hc', _⟩ := own_form hown
      go_wp2
      go_ret2
      rw [HG.out, gRest_end (Nat.le_refl _)]
      simp only [gFin, List.append_nil]
      exact ⟨A', c', rfl, hc', RdI.wide (Rd.of_own hown) (by omega), (by repeat (first | exact Ext.refl _ | assumption | refine Ext.trans ?_ (Ext.alloc _ _) | refine Ext.trans ?_ (Ext.drew _) | refine Ext.trans ?_ (Ext.drewN _ _) | refine Ext.trans ?_ (by assumption)))⟩
end Go.Proofs.Ytmfoankgfiofdaa
