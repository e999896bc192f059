/- StuckAt: the program's walk. -/
import Derived.Test.YtmfoankgfiofdaaPbQ
namespace Go.Proofs.Ytmfoankgfiofdaa
open Go.RowKit
set_option linter.unusedVariables false
theorem boolInfo0 : (Try.prog.info? 4).map (fun i => (i.zero, i.size, i.bytes)) = some (some (.bool false), 1, 1) := by kernel_rfl
set_option maxHeartbeats 4000000 in
theorem impl_StuckAt (A : Option Addr) (c : Nat) (l : List Int) (r : Rul) (m : Int) (lo hi : Nat) (w : World) (hl : l.length ≤ 1048577) (hcap : l.length ≤ c) (hr : RdI w lo hi A l) :
    Calls Try.prog 34 #[.slice A l.length c, .agg #[.int .i64 r.least, .int .i64 r.normal, .int .i64 r.most], .int .i64 m] w fun e w' => e = .returned (stV l r m) ∧ Ext w w' := by
  cases h1 : asked l r m
  · rw [stV_bad h1]
    go_enter Try.func34, Try.ntmps34
    go_wp2_with ((go_at_call 37; refine (impl_asked A c l r m lo hi _ hl (hr.ext (Ext.alloc w (.cells #[.int .i64 r.least, .int .i64 r.normal, .int .i64 r.most] 28)))).mono ?_; rintro e w1 ⟨rfl, hE1⟩; obtain ⟨hc1, hf1⟩ := bcell hE1; have hs1 := hE1.size; (try simp only [World.size_alloc] at hs1)))
    go_ret2
    exact ⟨rfl, (by repeat (first | exact Ext.refl _ | assumption | refine Ext.trans ?_ (Ext.alloc _ _) | refine Ext.trans ?_ (Ext.drew _) | refine Ext.trans ?_ (Ext.drewN _ _) | refine Ext.trans ?_ (by assumption)))⟩
  · have HH1 := Lib.hid h1
    obtain ⟨hp, ⟨r1, r2, r3, r4⟩, m1, m2⟩ := asked_parts h1
    obtain ⟨P, hP⟩ : ∃ P, P = paOf l r m := ⟨_, rfl⟩
    have hpl := pw_len hp
    have HPM := Lib.hid (pw_mem hp)
    have HPN : Hid (P.n = l.length) := by show _ = _; rw [hP]; rfl
    have HOK : Hid (∀ i j, P.ok i j = lineOk (cutL l i j) r m) := by show ∀ i j, _; rw [hP]; exact fun _ _ => rfl
    have HPP := Lib.hid hP
    have HNN : Hid (NN P (bA P)) := by show NN _ _; rw [hP]; exact nn_bw (paOf_co h1).1 (paOf_co h1).2.2 true _
    clear h1 hp
    obtain ⟨_, b, off, _, rfl, _, _, g3, _, _⟩ := RdI.get hr (k := 0) (by omega)
    obtain ⟨w0, hw0⟩ : ∃ w0, w0 = w.alloc (.cells #[.int .i64 r.least, .int .i64 r.normal, .int .i64 r.most] 28) := ⟨_, rfl⟩
    have x0 : w0.cell? ⟨w.heap.size, 0, none⟩ = some (.int .i64 r.least) := by rw [hw0]; exact box_new (Ext.refl _) rfl
    have x1 : w0.cell? ⟨w.heap.size, 1, none⟩ = some (.int .i64 r.normal) := by rw [hw0]; exact box_new (Ext.refl _) rfl
    have x2 : w0.cell? ⟨w.heap.size, 2, none⟩ = some (.int .i64 r.most) := by rw [hw0]; exact box_new (Ext.refl _) rfl
    have hE0 : Ext w w0 := by rw [hw0]; exact Ext.alloc _ _
    have hlt0 : w.heap.size < w0.heap.size := by rw [hw0]; simp
    have HW0 := Lib.hid hw0
    clear hw0
    have hq := hr.ext hE0
    obtain ⟨cs0, hmk, hf0⟩ := make_ones (P := Try.prog) 58 4 _ 1 Try.underlying58 boolInfo0 rfl l.length (by omega) (by omega)
    have hcs0 : cs0[0]? = some (.bool false) := hf0.2 0 (by omega)
    have HF0 := Lib.hid hf0; clear hf0 hP
    obtain ⟨Z, hZ⟩ : ∃ Z, Z = stV l r m := ⟨_, rfl⟩
    rw [← hZ]
    have HZ := Lib.hid hZ
    clear hZ
    go_enter Try.func34, Try.ntmps34
    go_wp2_with fail
    have hw0' := HW0.out
    rw [← hw0']
    clear hw0'
    refine (impl_asked _ c l r m lo hi _ hl hq).mono ?_
    rintro e w1 ⟨rfl, hE1⟩
    rw [HH1.out]
    have y0 := hE1.cell x0
    have y1 := hE1.cell x1
    have y2 := hE1.cell x2
    go_wp2_with fail
    clear y0 y1 y2
    refine (leastCosts_any _ c l.length l r m lo hi _ HH1.out rfl hcap (hq.ext hE1)).mono ?_
    rintro e w2 ⟨g2, rfl, hR2, hE2⟩
    rw [← HPP.out] at hR2 ⊢
    have hl2 : (tabA P).length = l.length := by rw [tabA_len, HPN.out]
    obtain ⟨x, b3, off3, HX, eA, _, _, hb3, q0, _⟩ := RdI.get hR2 (k := 0) (by rw [hl2]; omega)
    injection eA with eA; injection eA with eb eo _; subst eb; subst eo
    have hx : x = tv (bA P 0).1 := by have h := HX.out; rw [tabA_at (by rw [HPN.out]; omega)] at h; injection h with h; exact h.symm
    rw [hl2]
    have HL2 := Lib.hid hl2; clear hl2
    simp only [Nat.zero_add] at q0
    cases hb : (bA P 0).1 with
    | some y =>
      have hy0 : 0 ≤ y.1 := HNN.out.2 0 y hb
      have hZ2 : Z = .tuple #[.int .i64 0, .bool false] := by rw [HZ.out]; exact stV_some (by rw [← HPP.out]; exact hb)
      rw [hb] at hx
      have hx2 : x = y.1 := hx
      subst hx2
      have HZ2 := Lib.hid hZ2
      clear hx hb hZ2
      go_wp2_with fail
      go_ret2
      exact ⟨by rw [HZ2.out]; rfl, (by repeat (first | exact Ext.refl _ | assumption | refine Ext.trans ?_ (Ext.alloc _ _) | refine Ext.trans ?_ (Ext.drew _) | refine Ext.trans ?_ (Ext.drewN _ _) | refine Ext.trans ?_ (by assumption)))⟩
    | none =>
      have hZ2 : Z = .tuple #[.int .i64 (mx (rt P l.length) l.length : Int), .bool true] := by rw [HZ.out, HPP.out]; exact stV_good HH1.out (by rw [← HPP.out]; exact hb)
      rw [hb] at hx
      have hx2 : x = -1 := hx
      subst hx2
      have HZ2 := Lib.hid hZ2
      clear hx hb hZ2
      go_wp2_with fail
      obtain ⟨G, hG⟩ : ∃ G, G = w2.heap.size := ⟨_, rfl⟩
      have hz1 := (hE1.trans hE2).size
      obtain ⟨w3, hw3⟩ : ∃ x, x = w2.alloc (.cells (cs0.setIfInBounds 0 (.bool true)) 4) := ⟨_, rfl⟩
      have hB0 : Blk w3 G 4 (cs0.setIfInBounds 0 (.bool true)) := by rw [hG, hw3]; exact Blk.new _ _ _
      have hE3 : Ext w0 w3 := by rw [hw3]; exact (hE1.trans hE2).trans (Ext.alloc _ _)
      rw [← hw3, ← hG]
      have hGw : w0.heap.size ≤ G := by omega
      clear hw3 hG hmk hcs0 q0 hE1 hE2 hR2
      go_loopw [9, 35] (fun s j wr => ∃ (k : Nat) (cur : Array Value), k ≤ l.length ∧ j = .int .i64 k ∧ s = .int .i64 (mx (rt P k) l.length : Int) ∧ Blk wr G 4 cur ∧ FillV cur l.length (fun p => .bool (rt P k p)) ∧ Ext w0 wr) (fun _ j _ => l.length - (intOf j).toNat)
      case atStart => exact ⟨0, _, Nat.zero_le _, rfl, by rw [mx_zero]; rfl, hB0, (HF0.out.set_ 0 _).congr (fun p _ => by
          rw [rt_zero]
          by_cases e : p = 0
          · rw [if_pos e, decide_eq_true e]
          · rw [if_neg e, decide_eq_false e]), hE3⟩
      case round =>
        clear hB0 hE3
        obtain ⟨k, cur, hk, rfl, rfl, hB, hF, hE⟩ := hrel
        have hgl := hB.lt
        by_cases hlt : k < l.length
        · obtain ⟨M, hM⟩ : ∃ M : Nat, M = mx (rt P k) l.length := ⟨_, rfl⟩
          rw [← hM]
          have HM := Lib.hid hM
          clear hM
          have hF : FillV cur l.length (fun p => .bool (rf P k (k + 1) p)) := hF.congr (fun p _ => by rw [rf_start])
          go_wp2_with fail
          go_loopw [9, 11] (fun s j wr => ∃ (T : Nat) (cur : Array Value), k + 1 ≤ T ∧ T ≤ l.length ∧ j = .int .i64 (T : Int) ∧ s = .int .i64 (mx (rf P k T) l.length : Int) ∧ Blk wr G 4 cur ∧ FillV cur l.length (fun p => .bool (rf P k T p)) ∧ Ext w0 wr) (fun _ j _ => l.length - (intOf j).toNat)
          case atStart => exact ⟨k + 1, cur, by omega, by omega, by go_num, by rw [HM.out, mx_congr l.length (fun j _ => (rf_start (P := P) (k := k) j).symm)], hB, hF, hE⟩
          case round =>
            clear hB hF hE
            obtain ⟨T, cur, hkT, hTl, rfl, rfl, hB, hF, hE⟩ := hrel
            have hgl2 := hB.lt
            obtain ⟨q1, _⟩ := hF.cell hB (k := k) hlt
            rw [rf_own (by omega)] at q1
            obtain ⟨M2, hM2⟩ : ∃ M2 : Nat, M2 = mx (rf P k T) l.length := ⟨_, rfl⟩
            have hM2l : M2 ≤ l.length := by rw [hM2]; exact mx_le _ _
            rw [← hM2]
            have HM2 := Lib.hid hM2
            clear hM2
            have i1 : (k : Int) < (l.length : Int) := by omega
            cases hrk : rt P k k with
            | false =>
              have HSK : Hid (∀ j, rf P k T j = rt P (k + 1) j) := fun j => rf_skip hrk j
              rw [hrk] at q1
              clear hrk
              go_wp2_with fail
              go_roundw
              case rel => exact ⟨k + 1, cur, by omega, by go_num, by rw [HM2.out, mx_congr l.length (fun j _ => HSK.out j)], hB, hF.congr (fun p _ => by rw [HSK.out]), hE⟩
              case measure => (simp [intOf]; try omega)
            | true =>
              have HRK := Lib.hid hrk
              rw [hrk] at q1
              clear hrk
              by_cases hTn : T < l.length
              · have i2 : (T : Int) < (l.length : Int) := by omega
                have y0 : ∀ x : XW wr, x.v.cell? ⟨w.heap.size, 0, none⟩ = _ := fun x => x.h.cell (hE.cell x0)
                have y1 : ∀ x : XW wr, x.v.cell? ⟨w.heap.size, 1, none⟩ = _ := fun x => x.h.cell (hE.cell x1)
                have y2 : ∀ x : XW wr, x.v.cell? ⟨w.heap.size, 2, none⟩ = _ := fun x => x.h.cell (hE.cell x2)
                have hcF : ¬ c = k := by omega
                have hcut := cutL_len l (i := k) (k := T) (by omega)
                have HC := Lib.hid hcut
                have hRc := (hq.ext hE).cut k T
                have HCM : Hid (∀ x ∈ cutL l k T, 1 ≤ x ∧ x ≤ 600) := fun x hx => HPM.out x (cutL_mem hx)
                have hc1 : 1 ≤ (cutL l k T).length := by omega
                have hc2 : (cutL l k T).length ≤ 24 := by omega
                have ikT : (k : Int) < (T : Int) := by omega
                clear hcut
                cases hlo : lineOk (cutL l k T) r m
                · have HLO := Lib.hid hlo; clear hlo
                  have HS : Hid (∀ j, rf P k (T + 1) j = rf P k T j) := fun j => rf_no (by rw [HOK.out]; exact HLO.out) j
                  go_wp2_with fail
                  refine wp_region_xw (w0 := wr) (by kernel_rfl) (by kernel_rfl) (by repeat (first | exact Ext.refl _ | assumption | refine Ext.trans ?_ (Ext.alloc _ _) | refine Ext.trans ?_ (Ext.drew _) | refine Ext.trans ?_ (Ext.drewN _ _) | refine Ext.trans ?_ (by assumption))) ?_; (repeat (go_big_quiet_step ((go_at_call 45; exact XW.call (lineCost_v _ (c - k) (T - k) (cutL l k T) r m _ _ _ false HLO.out HC.out hc1 hc2 HCM.out r1 r2 r3 r4 m1 m2 (hRc.ext (XW.h _))))))); refine wpQuiet_nil ?_; intro w4 hw'; obtain ⟨⟨_, hEw4⟩, hw''⟩ := hw'; subst hw''
                  clear y0 y1 y2 q1
                  go_wp2_with fail
                  go_roundw
                  case rel => exact ⟨T + 1, cur, by omega, by omega, by go_num, by rw [HM2.out, mx_congr l.length (fun j _ => (HS.out j).symm)], hB.ext hEw4, hF.congr (fun p _ => by rw [HS.out]), hE.trans hEw4⟩
                  case measure => (simp [intOf]; try omega)
                · have HLO := Lib.hid hlo; clear hlo
                  have HS : Hid (∀ j, rf P k (T + 1) j = if j = T then true else rf P k T j) := fun j => rf_yes (by omega) HRK.out (by rw [HOK.out]; exact HLO.out) j
                  have HMX : Hid (mx (rf P k (T + 1)) l.length = if M2 < T then T else M2) := by
                    show _ = _
                    rw [mx_congr l.length (fun j _ => HS.out j), mx_set l.length hTn, ← HM2.out]
                  go_wp2_with fail
                  refine wp_region_xw (w0 := wr) (by kernel_rfl) (by kernel_rfl) (by repeat (first | exact Ext.refl _ | assumption | refine Ext.trans ?_ (Ext.alloc _ _) | refine Ext.trans ?_ (Ext.drew _) | refine Ext.trans ?_ (Ext.drewN _ _) | refine Ext.trans ?_ (by assumption))) ?_; (repeat (go_big_quiet_step ((go_at_call 45; exact XW.call (lineCost_v _ (c - k) (T - k) (cutL l k T) r m _ _ _ true HLO.out HC.out hc1 hc2 HCM.out r1 r2 r3 r4 m1 m2 (hRc.ext (XW.h _))))))); refine wpQuiet_nil ?_; intro w4 hw'; obtain ⟨⟨_, hEw4⟩, hw''⟩ := hw'; subst hw''
                  clear y0 y1 y2 q1
                  have hB4 := hB.ext hEw4
                  obtain ⟨q5, q6⟩ := hF.cell hB4 (k := T) hTn
                  have hgl4 := hB4.lt
                  by_cases hMT : M2 < T
                  · have iMT : (M2 : Int) < (T : Int) := by omega
                    have iMT2 : ¬ (T : Int) ≤ (M2 : Int) := by omega
                    rw [if_pos hMT] at HMX
                    go_wp2_with fail
                    go_roundw
                    case rel => exact ⟨T + 1, _, by omega, by omega, by go_num, by rw [HMX.out], hB4.set_ T _, (hF.set_ T (.bool true)).congr (fun p _ => by
                        rw [HS.out]
                        by_cases e : p = T
                        · rw [if_pos e, if_pos e]
                        · rw [if_neg e, if_neg e]), Ext.setCell (hE.trans hEw4) hGw _⟩
                    case measure => (simp [intOf]; try omega)
                  · have iMT : ¬ (M2 : Int) < (T : Int) := by omega
                    have iMT2 : (T : Int) ≤ (M2 : Int) := by omega
                    rw [if_neg hMT] at HMX
                    go_wp2_with fail
                    go_roundw
                    case rel => exact ⟨T + 1, _, by omega, by omega, by go_num, by rw [HMX.out], hB4.set_ T _, (hF.set_ T (.bool true)).congr (fun p _ => by
                        rw [HS.out]
                        by_cases e : p = T
                        · rw [if_pos e, if_pos e]
                        · rw [if_neg e, if_neg e]), Ext.setCell (hE.trans hEw4) hGw _⟩
                    case measure => (simp [intOf]; try omega)
              · have hTe : T = l.length := by omega
                have i2 : ¬ (T : Int) < (l.length : Int) := by omega
                have HSE : Hid (∀ j, j < l.length → rf P k T j = rt P (k + 1) j) := fun j hj => by rw [hTe]; exact rf_end hj
                clear hTe
                go_wp2_with fail
                go_roundw
                case rel => exact ⟨k + 1, cur, by omega, by go_num, by rw [HM2.out, mx_congr l.length (fun j hj => HSE.out j hj)], hB, hF.congr (fun p hp => by rw [HSE.out p hp]), hE⟩
                case measure => (simp [intOf]; try omega)
        · have hkl : k = l.length := by omega
          subst hkl
          clear hlt
          go_wp2_with fail
          go_ret2
          exact ⟨by rw [HZ2.out]; rfl, (by repeat (first | exact Ext.refl _ | assumption | refine Ext.trans ?_ (Ext.alloc _ _) | refine Ext.trans ?_ (Ext.drew _) | refine Ext.trans ?_ (Ext.drewN _ _) | refine Ext.trans ?_ (by assumption)))⟩
end Go.Proofs.Ytmfoankgfiofdaa
