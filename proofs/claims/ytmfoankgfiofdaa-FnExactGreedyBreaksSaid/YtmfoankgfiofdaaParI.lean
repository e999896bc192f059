/- The walk of the reference's GreedyBreaks. -/
import Derived.Test.YtmfoankgfiofdaaParH
namespace Go.Proofs.Ytmfoankgfiofdaa
open Go.RowKit
set_option linter.unusedVariables false
set_option maxHeartbeats 1000000 in
theorem spec_GreedyBreaks (A : Option Addr) (c : Nat) (l : List Int) (r : Rul) (m : Int) (lo hi : Nat) (w : World) (hl : l.length ≤ 1048577) (hcap : l.length ≤ c) (hr : RdI w lo hi A l) :
    Calls Try.prog 26 #[.slice A l.length c, .agg #[.int .i64 r.least, .int .i64 r.normal, .int .i64 r.most], .int .i64 m] w (RetI2 w (gP l r m)) := by
  have hq := hr.ext (Ext.alloc w (.cells #[.int .i64 r.least, .int .i64 r.normal, .int .i64 r.most] 28))
  cases h1 : asked l r m
  · rw [gP_bad h1]
    go_enter Try.func26, Try.ntmps26
    go_wp2_with (first | (go_at_call 35; refine (spec_asked _ c l r m lo hi _ hl hq).mono ?_; rintro e w1 ⟨rfl, hE1⟩; obtain ⟨hc1, hf1⟩ := bcell hE1; have hs1 := hE1.size; (try simp only [World.size_alloc] at hs1)) | (go_at_call 49; refine (l1All_any _ c _ l 1 m lo hi _ rfl hl (hq.ext hE1)).mono ?_; rintro e w' ⟨rfl, rfl⟩))
    go_ret2
    exact retI2_lit (by repeat (first | exact Ext.refl _ | assumption | refine Ext.trans ?_ (Ext.alloc _ _) | refine Ext.trans ?_ (Ext.drew _) | refine Ext.trans ?_ (Ext.drewN _ _) | refine Ext.trans ?_ (by assumption)))
  cases h2 : gAll l m
  · rw [gP_wide h1 h2]
    unfold gAll at h2
    go_enter Try.func26, Try.ntmps26
    go_wp2_with (first | (go_at_call 35; refine (spec_asked _ c l r m lo hi _ hl hq).mono ?_; rintro e w1 ⟨rfl, hE1⟩; obtain ⟨hc1, hf1⟩ := bcell hE1; have hs1 := hE1.size; (try simp only [World.size_alloc] at hs1)) | (go_at_call 49; refine (l1All_any _ c _ l 1 m lo hi _ rfl hl (hq.ext hE1)).mono ?_; rintro e w' ⟨rfl, rfl⟩))
    go_ret2
    exact retI2_lit (by repeat (first | exact Ext.refl _ | assumption | refine Ext.trans ?_ (Ext.alloc _ _) | refine Ext.trans ?_ (Ext.drew _) | refine Ext.trans ?_ (Ext.drewN _ _) | refine Ext.trans ?_ (by assumption)))
  obtain ⟨hp, ⟨r1, r2, r3, r4⟩, m1, m2⟩ := asked_parts h1
  have hpl := pw_len hp
  have HPM := Lib.hid (pw_mem hp)
  have HAM := Lib.hid (gAll_mem h2)
  have HG0 : Hid (gP l r m = gFin [] (gRest l r m 0)) := gP_good h1
  have FIRST : Hid (∀ F, F < l.length → gOk l r m F 0 = true) := fun F h => gOk_first (List.getElem?_eq_getElem h) (HPM.out _ (List.getElem_mem h)).1 (HPM.out _ (List.getElem_mem h)).2 (HAM.out _ (List.getElem_mem h))
  obtain ⟨R0, hR0⟩ := gRest_all (r := r) HPM.out HAM.out _ (0 + gN l r m 0) (Nat.le_refl _)
  have HR0 := Lib.hid hR0; clear hR0
  have HGI : Hid (gP l r m = ([] ++ R0, true)) := by
    show _ = _
    rw [HG0.out, gFin_step0 [] (by omega) (by have := gN_pos (FIRST.out 0 (by omega)); omega)]
    have q := HR0.out
    rw [Nat.zero_add] at q
    rw [q]; rfl
  obtain ⟨_, b, off, _, rfl, _, _, g3, _, _⟩ := RdI.get hr (k := 0) (by omega)
  unfold gAll at h2
  have HH1 := Lib.hid h1; have HH2 := Lib.hid h2; clear h1 h2 hp
  obtain ⟨w0, hw0⟩ : ∃ w0, w0 = w.alloc (.cells #[.int .i64 r.least, .int .i64 r.normal, .int .i64 r.most] 28) := ⟨_, rfl⟩
  have x0 : w0.cell? ⟨w.heap.size, 0, none⟩ = some (.int .i64 r.least) := by rw [hw0]; exact box_new (Ext.refl _) rfl
  have x1 : w0.cell? ⟨w.heap.size, 1, none⟩ = some (.int .i64 r.normal) := by rw [hw0]; exact box_new (Ext.refl _) rfl
  have x2 : w0.cell? ⟨w.heap.size, 2, none⟩ = some (.int .i64 r.most) := by rw [hw0]; exact box_new (Ext.refl _) rfl
  have hE0 : Ext w w0 := by rw [hw0]; exact Ext.alloc _ _
  have hlt0 : w.heap.size < w0.heap.size := by rw [hw0]; simp
  have HW0 := Lib.hid hw0
  clear hw0
  have h1 := HH1.out; have h2 := HH2.out
  go_enter Try.func26, Try.ntmps26
  go_wp2_with (first | (go_at_call 35; refine (spec_asked _ c l r m lo hi _ hl hq).mono ?_; rintro e w1 ⟨rfl, hE1⟩; obtain ⟨hc1, hf1⟩ := bcell hE1; have hs1 := hE1.size; (try simp only [World.size_alloc] at hs1)) | (go_at_call 49; refine (l1All_any _ c _ l 1 m lo hi _ rfl hl (hq.ext hE1)).mono ?_; rintro e w' ⟨rfl, rfl⟩))
  clear h1 h2
  have hEE : Ext w0 w1 := by rw [HW0.out]; exact hE1
  have hse := hEE.size
  have hq0 := hr.ext hE0
  clear hq hE1 hc1 hf1 hs1
  go_loopw [8, 9] (fun v f wr => ∃ (F : Nat) (B R_ : List Int), F < l.length ∧ f = .int .i64 F ∧ B.length ≤ F ∧ gRest l r m (F + gN l r m F) = some R_ ∧ gP l r m = (B ++ R_, true) ∧ wr.ownsRow w0.heap.size 3 1 v B.length (B.map (Value.int .i64)) ∧ Ext w0 wr) (fun _ f _ => l.length - (intOf f).toNat)
  case atStart => exact ⟨0, [], R0, by omega, rfl, Nat.le_refl _, HR0.out, HGI.out, own_nil _ _ _ _, hEE⟩
  case round =>
    obtain ⟨F, B, R_, hF, rfl, hBF, hR, hg, hown, hE⟩ := hrel
    obtain ⟨wo, rfl⟩ : ∃ wo : World, wo = wr := ⟨_, rfl⟩
    have HG := Lib.hid hg; clear hg
    have HR := Lib.hid hR; clear hR
    obtain ⟨N, hN⟩ : ∃ N, N = gN l r m F := ⟨_, rfl⟩
    have hNle : N ≤ l.length - F := by rw [hN]; exact gN_le l r m F
    have hNpos : 1 ≤ N := by rw [hN]; exact gN_pos (FIRST.out F hF)
    have HN := Lib.hid hN; clear hN
    have HG1 : Hid (gGo l r m F 19 1 = N) := by show _ = _; rw [HN.out]; exact gN_one (FIRST.out F hF)
    go_wp2_with fail
    go_loopw [10] (fun i wi => ∃ k : Nat, 1 ≤ k ∧ k ≤ 20 ∧ F + k ≤ l.length ∧ i = .int .i64 k ∧ gGo l r m F (20 - k) k = N ∧ Ext wo wi) (fun i _ => 20 - (intOf i).toNat)
    case atStart => exact ⟨1, by omega, by omega, by omega, rfl, HG1.out, Ext.refl _⟩
    case round =>
      obtain ⟨k, hk1, hk20, hkl, rfl, hgg, hEi⟩ := hrel
      have HGG := Lib.hid hgg; clear hgg
      have y0 : ∀ x : XW wr, x.v.cell? ⟨w.heap.size, 0, none⟩ = _ := fun x => x.h.cell ((hE.trans hEi).cell x0)
      have k0 : IntKind.i64.wrap ((F : Int) + (k : Int)) = (F : Int) + (k : Int) := IntWalk.i64_in _ (by omega)
      by_cases hlt : F + k < l.length ∧ k < 20
      · obtain ⟨hl1, hl2⟩ := hlt
        have hcut := cutL_len l (i := F) (k := F + k + 1) (by omega)
        have HC : Hid ((cutL l F (F + k + 1)).length = F + k + 1 - F) := hcut
        have hCM : ∀ x ∈ cutL l F (F + k + 1), 1 ≤ x ∧ x ≤ 600 := fun x hx => HPM.out x (cutL_mem hx)
        obtain ⟨s1, s2⟩ := sumW_bound (by omega) hCM
        rw [HC.out] at s1 s2
        have hRc := (hq0.ext (hE.trans hEi)).cut F (F + k + 1)
        have p1 : 0 ≤ (k : Int) * r.least := Int.mul_nonneg (by omega) (by omega)
        have p4 : (k : Int) * r.least ≤ 24 * 54 := Int.mul_le_mul (by omega) (by omega) (by omega) (by omega)
        obtain ⟨S, hS⟩ : ∃ S, S = sumW (cutL l F (F + k + 1)) := ⟨_, rfl⟩
        have HS := Lib.hid hS
        rw [← hS] at s1 s2
        clear hS hcut hCM
        have hcF : ¬ c = F := by omega
        have k1 : IntKind.i64.wrap ((F : Int) + (k : Int) + 1) = (F : Int) + (k : Int) + 1 := IntWalk.i64_in _ (by omega)
        have k2 : IntKind.i64.wrap ((k : Int) * r.least) = (k : Int) * r.least := IntWalk.i64_in _ (by omega)
        have k3 : IntKind.i64.wrap (S + (k : Int) * r.least) = S + (k : Int) * r.least := IntWalk.i64_in _ (by omega)
        have t1 : decide ((F : Int) + (k : Int) < (l.length : Int)) = true := by simp; omega
        have t1' : (F : Int) + (k : Int) < (l.length : Int) := by omega
        have t2 : decide ((k : Int) < 20) = true := by simp; omega
        have t2' : decide (k < 20) = true := by simp; omega
        have t2'' : (k : Int) < 20 := by omega
        by_cases hok : S + (k : Int) * r.least ≤ m
        · have HOK : Hid (gOk l r m F k = true) := by show _ = _; simp only [gOk, ← HS.out]; simp; omega
          go_wp2_with fail
          refine wp_region_xw (w0 := wr) (by kernel_rfl) (by kernel_rfl) (by repeat (first | exact Ext.refl _ | assumption | refine Ext.trans ?_ (Ext.alloc _ _) | refine Ext.trans ?_ (Ext.drew _) | refine Ext.trans ?_ (Ext.drewN _ _) | refine Ext.trans ?_ (by assumption))) ?_; (repeat (go_big_quiet_step ((go_at_call 50; with_reducible exact XW.same (u := .int .i64 S) (by rw [HS.out]; exact spec_juSum _ (c - F) _ (cutL l F (F + k + 1)) lo hi _ HC.out (by omega) (hRc.ext (XW.h _))))))); refine wpQuiet_nil ?_; intro _ hw'; obtain ⟨⟨w3, hEw3⟩, hw''⟩ := hw'; subst hw''
          go_wp2
          go_roundw
          case rel => exact ⟨k + 1, by omega, by omega, by omega, by go_num, by rw [← HGG.out, show 20 - k = (20 - (k + 1)) + 1 from by omega, gGo_yes HOK.out], hEi.trans hEw3⟩
          case measure => simp [intOf]; omega
        have HOK : Hid (gOk l r m F k = false) := by show _ = _; simp only [gOk, ← HS.out]; simp; omega
        have hNk : k = N := by rw [← HGG.out, gGo_no HOK.out]
        subst hNk
        clear HGG
        by_cases hend : F + k = l.length
        · have HEND := Lib.hid hend
          have hend' : (F : Int) + (k : Int) = (l.length : Int) := by omega
          have hend2 : ¬ F + k < l.length := by omega
          clear hend
          obtain ⟨A', c', rfl, hc', _⟩ := own_form hown
          go_wp2_with fail
          refine wp_region_xw (w0 := wr) (by kernel_rfl) (by kernel_rfl) (by repeat (first | exact Ext.refl _ | assumption | refine Ext.trans ?_ (Ext.alloc _ _) | refine Ext.trans ?_ (Ext.drew _) | refine Ext.trans ?_ (Ext.drewN _ _) | refine Ext.trans ?_ (by assumption))) ?_; (repeat (go_big_quiet_step ((go_at_call 50; with_reducible exact XW.same (u := .int .i64 S) (by rw [HS.out]; exact spec_juSum _ (c - F) _ (cutL l F (F + k + 1)) lo hi _ HC.out (by omega) (hRc.ext (XW.h _))))))); refine wpQuiet_nil ?_; intro _ hw'; obtain ⟨⟨w3, hEw3⟩, hw''⟩ := hw'; subst hw''
          go_wp2
          go_ret2
          have hRR : R_ = [] := by have q := HR.out; rw [← HN.out, HEND.out, gRest_end (Nat.le_refl _)] at q; injection q with q; exact q.symm
          rw [HG.out, hRR]
          simp only [List.append_nil]
          exact ⟨A', c', rfl, hc', RdI.wide (Rd.of_own (ownsRow_ext hown (hEi.trans hEw3))) (by omega), (by repeat (first | exact Ext.refl _ | assumption | refine Ext.trans ?_ (Ext.alloc _ _) | refine Ext.trans ?_ (Ext.drew _) | refine Ext.trans ?_ (Ext.drewN _ _) | refine Ext.trans ?_ (by assumption)))⟩
        · have hlt2 : F + k < l.length := by omega
          obtain ⟨R2, hR2⟩ := gRest_all (r := r) HPM.out HAM.out _ (F + k + gN l r m (F + k)) (Nat.le_refl _)
          have HR2 := Lib.hid hR2; clear hR2
          have HGS : Hid (gP l r m = ((B ++ [((F + k : Nat) : Int)]) ++ R2, true)) := by
            show _ = _
            have q := HR.out
            have hpos := gN_pos (FIRST.out (F + k) hlt2)
            rw [← HN.out, gRest_some hlt2 (by omega), HR2.out] at q
            simp only [Option.map_some, if_pos (show 0 < F + k by omega)] at q
            injection q with q
            rw [HG.out, ← q]
            simp
          have hne : ¬ (F : Int) + (k : Int) = (l.length : Int) := by omega
          clear hend
          go_wp2_with fail
          refine wp_region_xw (w0 := wr) (by kernel_rfl) (by kernel_rfl) (by repeat (first | exact Ext.refl _ | assumption | refine Ext.trans ?_ (Ext.alloc _ _) | refine Ext.trans ?_ (Ext.drew _) | refine Ext.trans ?_ (Ext.drewN _ _) | refine Ext.trans ?_ (by assumption))) ?_; (repeat (go_big_quiet_step ((go_at_call 50; with_reducible exact XW.same (u := .int .i64 S) (by rw [HS.out]; exact spec_juSum _ (c - F) _ (cutL l F (F + k + 1)) lo hi _ HC.out (by omega) (hRc.ext (XW.h _))))))); refine wpQuiet_nil ?_; intro _ hw'; obtain ⟨⟨w3, hEw3⟩, hw''⟩ := hw'; subst hw''
          go_wp2_with (first | (at_builtin; refine wp_app _ w0 rfl (.tmp 59) (.tmp 61) 22 rfl 3 _ 1 8 Try.underlying22 intInfo0 rfl (by omega) _ B.length _ rfl (ownsRow_ext hown (hEi.trans (hEw3.trans (Ext.alloc _ _)))) (hE.trans (hEi.trans (hEw3.trans (Ext.alloc _ _)))) _ _ _ 1 1 [.int .i64 ((F : Int) + (k : Int))] rfl rfl (rdA_new rfl (Ext.refl _)) (by simp [Value.oneCell']) (by omega) (by simp) ?_; intro v4 w4 hown4 hE4 hg4 hat4))
          go_roundw
          case rel => exact ⟨F + k, B ++ [((F + k : Nat) : Int)], R2, hlt2, by go_num, by simp; omega, HR2.out, HGS.out, by rw [List.map_append, List.length_append]; exact hown4, hE4⟩
          case measure => simp [intOf]; omega
      · have HOK : Hid (gOk l r m F k = false) := by
          show _ = _
          cases h : gOk l r m F k
          · rfl
          · have := gOk_parts h; exact absurd ⟨this.1, this.2.1⟩ hlt
        by_cases hl1 : F + k < l.length
        · have hk : ¬ k < 20 := fun h => hlt ⟨hl1, h⟩
          clear hlt
          have t1 : decide ((F : Int) + (k : Int) < (l.length : Int)) = true := by simp; omega
          have t1' : (F : Int) + (k : Int) < (l.length : Int) := by omega
          have t2 : decide ((k : Int) < 20) = false := by simp; omega
          have t2' : decide (k < 20) = false := by simp; omega
          have t2'' : ¬ (k : Int) < 20 := by omega
          have hNk : k = N := by rw [← HGG.out, gGo_no HOK.out]
          subst hNk
          clear HGG
          by_cases hend : F + k = l.length
          · have HEND := Lib.hid hend
            have hend' : (F : Int) + (k : Int) = (l.length : Int) := by omega
            have hend2 : ¬ F + k < l.length := by omega
            clear hend
            obtain ⟨A', c', rfl, hc', _⟩ := own_form hown
            go_wp2_with fail
            refine wp_region_xw (w0 := wr) (by kernel_rfl) (by kernel_rfl) (by repeat (first | exact Ext.refl _ | assumption | refine Ext.trans ?_ (Ext.alloc _ _) | refine Ext.trans ?_ (Ext.drew _) | refine Ext.trans ?_ (Ext.drewN _ _) | refine Ext.trans ?_ (by assumption))) ?_; (repeat (go_big_quiet_step (fail))); refine wpQuiet_nil ?_; intro _ hw'; obtain ⟨⟨w3, hEw3⟩, hw''⟩ := hw'; subst hw''
            go_wp2
            go_ret2
            have hRR : R_ = [] := by have q := HR.out; rw [← HN.out, HEND.out, gRest_end (Nat.le_refl _)] at q; injection q with q; exact q.symm
            rw [HG.out, hRR]
            simp only [List.append_nil]
            exact ⟨A', c', rfl, hc', RdI.wide (Rd.of_own (ownsRow_ext hown (hEi.trans hEw3))) (by omega), (by repeat (first | exact Ext.refl _ | assumption | refine Ext.trans ?_ (Ext.alloc _ _) | refine Ext.trans ?_ (Ext.drew _) | refine Ext.trans ?_ (Ext.drewN _ _) | refine Ext.trans ?_ (by assumption)))⟩
          · have hlt2 : F + k < l.length := by omega
            obtain ⟨R2, hR2⟩ := gRest_all (r := r) HPM.out HAM.out _ (F + k + gN l r m (F + k)) (Nat.le_refl _)
            have HR2 := Lib.hid hR2; clear hR2
            have HGS : Hid (gP l r m = ((B ++ [((F + k : Nat) : Int)]) ++ R2, true)) := by
              show _ = _
              have q := HR.out
              have hpos := gN_pos (FIRST.out (F + k) hlt2)
              rw [← HN.out, gRest_some hlt2 (by omega), HR2.out] at q
              simp only [Option.map_some, if_pos (show 0 < F + k by omega)] at q
              injection q with q
              rw [HG.out, ← q]
              simp
            have hne : ¬ (F : Int) + (k : Int) = (l.length : Int) := by omega
            clear hend
            go_wp2_with fail
            refine wp_region_xw (w0 := wr) (by kernel_rfl) (by kernel_rfl) (by repeat (first | exact Ext.refl _ | assumption | refine Ext.trans ?_ (Ext.alloc _ _) | refine Ext.trans ?_ (Ext.drew _) | refine Ext.trans ?_ (Ext.drewN _ _) | refine Ext.trans ?_ (by assumption))) ?_; (repeat (go_big_quiet_step (fail))); refine wpQuiet_nil ?_; intro _ hw'; obtain ⟨⟨w3, hEw3⟩, hw''⟩ := hw'; subst hw''
            go_wp2_with (first | (at_builtin; refine wp_app _ w0 rfl (.tmp 59) (.tmp 61) 22 rfl 3 _ 1 8 Try.underlying22 intInfo0 rfl (by omega) _ B.length _ rfl (ownsRow_ext hown (hEi.trans (hEw3.trans (Ext.alloc _ _)))) (hE.trans (hEi.trans (hEw3.trans (Ext.alloc _ _)))) _ _ _ 1 1 [.int .i64 ((F : Int) + (k : Int))] rfl rfl (rdA_new rfl (Ext.refl _)) (by simp [Value.oneCell']) (by omega) (by simp) ?_; intro v4 w4 hown4 hE4 hg4 hat4))
            go_roundw
            case rel => exact ⟨F + k, B ++ [((F + k : Nat) : Int)], R2, hlt2, by go_num, by simp; omega, HR2.out, HGS.out, by rw [List.map_append, List.length_append]; exact hown4, hE4⟩
            case measure => simp [intOf]; omega
        · clear hlt
          have t1 : decide ((F : Int) + (k : Int) < (l.length : Int)) = false := by simp; omega
          have t1' : ¬ (F : Int) + (k : Int) < (l.length : Int) := by omega
          have hNk : k = N := by rw [← HGG.out, gGo_no HOK.out]
          subst hNk
          clear HGG
          by_cases hend : F + k = l.length
          · have HEND := Lib.hid hend
            have hend' : (F : Int) + (k : Int) = (l.length : Int) := by omega
            have hend2 : ¬ F + k < l.length := by omega
            clear hend
            obtain ⟨A', c', rfl, hc', _⟩ := own_form hown
            go_wp2_with fail
            refine wp_region_xw (w0 := wr) (by kernel_rfl) (by kernel_rfl) (by repeat (first | exact Ext.refl _ | assumption | refine Ext.trans ?_ (Ext.alloc _ _) | refine Ext.trans ?_ (Ext.drew _) | refine Ext.trans ?_ (Ext.drewN _ _) | refine Ext.trans ?_ (by assumption))) ?_; (repeat (go_big_quiet_step (fail))); refine wpQuiet_nil ?_; intro _ hw'; obtain ⟨⟨w3, hEw3⟩, hw''⟩ := hw'; subst hw''
            go_wp2
            go_ret2
            have hRR : R_ = [] := by have q := HR.out; rw [← HN.out, HEND.out, gRest_end (Nat.le_refl _)] at q; injection q with q; exact q.symm
            rw [HG.out, hRR]
            simp only [List.append_nil]
            exact ⟨A', c', rfl, hc', RdI.wide (Rd.of_own (ownsRow_ext hown (hEi.trans hEw3))) (by omega), (by repeat (first | exact Ext.refl _ | assumption | refine Ext.trans ?_ (Ext.alloc _ _) | refine Ext.trans ?_ (Ext.drew _) | refine Ext.trans ?_ (Ext.drewN _ _) | refine Ext.trans ?_ (by assumption)))⟩
          · exact absurd (by omega) hend
end Go.Proofs.Ytmfoankgfiofdaa
