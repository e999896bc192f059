/- The walk of the program's least costs with a number of lines. -/
import Derived.Test.YtmfoankgfiofdaaPbI
namespace Go.Proofs.Ytmfoankgfiofdaa
open Go.RowKit
set_option linter.unusedVariables false
set_option maxRecDepth 20000 in
set_option maxHeartbeats 4000000 in
theorem leastCosts_one (A : Option Addr) (c : Nat) (l : List Int) (r : Rul) (m : Int) (lo hi : Nat) (w : World) (h1 : asked l r m = true) (hcap : l.length ≤ c) (hr : RdI w lo hi A l) :
    Calls Try.prog 48 #[.slice A l.length c, .agg #[.int .i64 r.least, .int .i64 r.normal, .int .i64 r.most], .int .i64 m, .int .i64 1] w (RetTb w (tabK (paOf l r m) 0)) := by
  obtain ⟨hp, ⟨r1, r2, r3, r4⟩, m1, m2⟩ := asked_parts h1
  obtain ⟨P, hP⟩ : ∃ P, P = paOf l r m := ⟨_, rfl⟩
  obtain ⟨hco, hcd, hPp⟩ := paOf_co h1
  rw [← hP] at hco hcd
  have hpl := pw_len hp
  have HPM := Lib.hid (pw_mem hp)
  have hPn : P.n = l.length := by rw [hP]; rfl
  have HPN := Lib.hid hPn
  have HOK : Hid (∀ i j, P.ok i j = lineOk (cutL l i j) r m) := by show ∀ i j, _; rw [hP]; exact fun _ _ => rfl
  have HCO : Hid (∀ i j, P.co i j = lc (cutL l i j) r m) := by show ∀ i j, _; rw [hP]; exact fun _ _ => rfl
  have HFI : Hid (∀ i, P.fin i = canEnd (cutL l i l.length) r m) := by show ∀ i, _; rw [hP]; exact fun _ => rfl
  have HPP := Lib.hid hP; have HH1 := Lib.hid h1
  have HNN := Lib.hid hco; have HCD := Lib.hid hcd
  rw [← hP]
  clear hP h1 hPp hPn hco hcd hp
  obtain ⟨_, b, off, _, rfl, _, _, g3, _, _⟩ := RdI.get hr (k := 0) (by omega)
  obtain ⟨w0, hw0⟩ : ∃ w0, w0 = w.alloc (.cells #[.int .i64 r.least, .int .i64 r.normal, .int .i64 r.most] 28) := ⟨_, rfl⟩
  have x0 : w0.cell? ⟨w.heap.size, 0, none⟩ = some (.int .i64 r.least) := by rw [hw0]; exact box_new (Ext.refl _) rfl
  have x1 : w0.cell? ⟨w.heap.size, 1, none⟩ = some (.int .i64 r.normal) := by rw [hw0]; exact box_new (Ext.refl _) rfl
  have x2 : w0.cell? ⟨w.heap.size, 2, none⟩ = some (.int .i64 r.most) := by rw [hw0]; exact box_new (Ext.refl _) rfl
  have hE0 : Ext w w0 := by rw [hw0]; exact Ext.alloc _ _
  have hz0 : w0.heap.size = w.heap.size + 1 := by rw [hw0]; simp
  have HW0 := Lib.hid hw0
  clear hw0
  have hq := hr.ext hE0
  obtain ⟨cs0, hmk, hf0⟩ := make_ints (P := Try.prog) 22 3 Try.underlying22 intInfo0 l.length (by omega)
  have HF0 := Lib.hid hf0; clear hf0
  have HZ0 := Lib.hid hz0; have hlt0 : w.heap.size < w0.heap.size := by omega
  clear hz0
  go_enter Try.func48, Try.ntmps48
  go_wp2_with fail
  have hw0' := HW0.out
  rw [← hw0']
  have hgw : w.heap.size + 1 = w0.heap.size := HZ0.out.symm
  rw [hgw]
  obtain ⟨G, hG⟩ : ∃ G, G = w0.heap.size := ⟨_, rfl⟩
  have hB0 : Blk (w0.alloc (.cells cs0 3)) G 3 cs0 := by rw [hG]; exact Blk.new _ _ _
  have hE1 : Ext w0 (w0.alloc (.cells cs0 3)) := Ext.alloc _ _
  rw [← hG]
  have hGw : w0.heap.size ≤ G := by omega
  clear hw0' hgw hmk hG
  go_loopw [21] (fun j wr => ∃ (k : Nat) (cur : Array Value), k ≤ l.length ∧ j = .int .i64 k ∧ Blk wr G 3 cur ∧ FillI cur l.length (fun p => if p < k then (if P.fin p then 0 else -1) else 0) ∧ Ext w0 wr) (fun j _ => l.length - (intOf j).toNat)
  case atStart => exact ⟨0, cs0, Nat.zero_le _, rfl, hB0, HF0.out.congr (fun i _ => by simp), hE1⟩
  case round =>
    clear hB0 hE1
    obtain ⟨k, cur, hk, rfl, hB, hF, hE⟩ := hrel
    have hgl := hB.lt
    by_cases hlt : k < l.length
    · obtain ⟨q1, q2⟩ := hF.cell hB (k := k) hlt
      have y0 : ∀ x : XW (wr.setCell ⟨G, k, none⟩ (.int .i64 (-1))), x.v.cell? ⟨w.heap.size, 0, none⟩ = _ := fun x => x.h.cell ((World.cell?_setCell_other _ _ _ _ (fun h => by injection h with h; omega)).trans (hE.cell x0))
      have y1 : ∀ x : XW (wr.setCell ⟨G, k, none⟩ (.int .i64 (-1))), x.v.cell? ⟨w.heap.size, 1, none⟩ = _ := fun x => x.h.cell ((World.cell?_setCell_other _ _ _ _ (fun h => by injection h with h; omega)).trans (hE.cell x1))
      have y2 : ∀ x : XW (wr.setCell ⟨G, k, none⟩ (.int .i64 (-1))), x.v.cell? ⟨w.heap.size, 2, none⟩ = _ := fun x => x.h.cell ((World.cell?_setCell_other _ _ _ _ (fun h => by injection h with h; omega)).trans (hE.cell x2))
      have hEs : Ext w0 (wr.setCell ⟨G, k, none⟩ (.int .i64 (-1))) := Ext.setCell hE hGw _
      have hcF : ¬ c = k := by omega
      have hcut := cutL_len l (i := k) (k := l.length) (by omega)
      have HC := Lib.hid hcut
      have hRc := (hq.ext hEs).cut k l.length
      have HCM : Hid (∀ x ∈ cutL l k l.length, 1 ≤ x ∧ x ≤ 600) := fun x hx => HPM.out x (cutL_mem hx)
      have hc1 : 1 ≤ (cutL l k l.length).length := by omega
      have hc2 : (cutL l k l.length).length ≤ 24 := by omega
      have hBs := hB.set_ k (.int .i64 (-1))
      have hFs := hF.set_ k (-1)
      clear hcut
      cases hlo : canEnd (cutL l k l.length) r m
      · have HLO := Lib.hid hlo; clear hlo
        have HB : Hid (P.fin k = false) := by show _ = _; rw [HFI.out]; exact HLO.out
        go_wp2_with fail
        refine wp_region_xw (w0 := (wr.setCell ⟨G, k, none⟩ (.int .i64 (-1)))) (by kernel_rfl) (by kernel_rfl) (by repeat (first | exact Ext.refl _ | assumption | refine Ext.trans ?_ (Ext.alloc _ _) | refine Ext.trans ?_ (Ext.drew _) | refine Ext.trans ?_ (Ext.drewN _ _) | refine Ext.trans ?_ (by assumption))) ?_; (repeat (go_big_quiet_step ((go_at_call 46; exact XW.call (canEnd_v _ (c - k) (l.length - k) (cutL l k l.length) r m _ _ _ false HLO.out HC.out hc1 hc2 HCM.out r1 r2 r3 r4 m1 m2 (hRc.ext (XW.h _))))))); refine wpQuiet_nil ?_; intro w3 hw'; obtain ⟨⟨_, hEw3⟩, hw''⟩ := hw'; subst hw''
        clear y0 y1 y2
        go_wp2
        go_roundw
        case rel => exact ⟨k + 1, _, by omega, by go_num, hBs.ext hEw3, hFs.congr (fun p _ => by
            by_cases e : p = k
            · rw [if_pos e, if_pos (by omega), e, HB.out]; rfl
            · rw [if_neg e]
              by_cases e2 : p < k
              · rw [if_pos e2, if_pos (by omega)]
              · rw [if_neg e2, if_neg (by omega)]), hEs.trans hEw3⟩
        case measure => simp [intOf]; omega
      · have HLO := Lib.hid hlo; clear hlo
        have HB : Hid (P.fin k = true) := by show _ = _; rw [HFI.out]; exact HLO.out
        go_wp2_with fail
        refine wp_region_xw (w0 := (wr.setCell ⟨G, k, none⟩ (.int .i64 (-1)))) (by kernel_rfl) (by kernel_rfl) (by repeat (first | exact Ext.refl _ | assumption | refine Ext.trans ?_ (Ext.alloc _ _) | refine Ext.trans ?_ (Ext.drew _) | refine Ext.trans ?_ (Ext.drewN _ _) | refine Ext.trans ?_ (by assumption))) ?_; (repeat (go_big_quiet_step ((go_at_call 46; exact XW.call (canEnd_v _ (c - k) (l.length - k) (cutL l k l.length) r m _ _ _ true HLO.out HC.out hc1 hc2 HCM.out r1 r2 r3 r4 m1 m2 (hRc.ext (XW.h _))))))); refine wpQuiet_nil ?_; intro w3 hw'; obtain ⟨⟨_, hEw3⟩, hw''⟩ := hw'; subst hw''
        clear y0 y1 y2
        have hB3 := hBs.ext hEw3
        obtain ⟨q3, q4⟩ := hFs.cell hB3 (k := k) hlt
        have hgl3 := hB3.lt
        go_wp2
        go_roundw
        case rel => exact ⟨k + 1, _, by omega, by go_num, hB3.set_ k _, (hFs.set_ k 0).congr (fun p _ => by
            by_cases e : p = k
            · rw [if_pos e, if_pos (by omega), e, HB.out]; rfl
            · rw [if_neg e, if_neg e]
              by_cases e2 : p < k
              · rw [if_pos e2, if_pos (by omega)]
              · rw [if_neg e2, if_neg (by omega)]), Ext.setCell (hEs.trans hEw3) hGw _⟩
        case measure => simp [intOf]; omega
    · have hkl : k = l.length := by omega
      subst hkl
      clear hlt hgl
      have hF : FillI cur l.length (fun p => (if P.fin p then 0 else -1)) := hF.congr (fun i hi => by rw [if_pos hi])
      go_wp2
      go_ret
      have hl1 : (tabK P 0).length = l.length := by rw [tabK_len, HPN.out]
      refine ⟨G, by rw [hl1]; rfl, ?_, hE0.trans hE⟩
      refine hF.rd hB (by have := hE0.size; omega) hl1 (fun i hi => ?_)
      rw [tabK_at (by rw [HPN.out]; exact hi), bw_one, tv_bw0]
theorem rdI_set {w : World} {lo hi b o : Nat} {A : Option Addr} {l : List Int} (h : RdI w lo hi A l) (hb : b < lo) (u : Value) : RdI (w.setCell ⟨b, o, none⟩ u) lo hi A l :=
  h.out (Out.setCell (Out.refl b (b + 1) w) (p := ⟨b, o, none⟩) (.inl ⟨Nat.le_refl _, Nat.lt_succ_self _⟩) u) (.inr (by omega))
set_option maxRecDepth 20000 in
set_option maxHeartbeats 4000000 in
theorem leastCosts_more (A : Option Addr) (c : Nat) (l : List Int) (r : Rul) (m K : Int) (kk lo hi : Nat) (w : World) (h1 : asked l r m = true) (hcap : l.length ≤ c) (hr : RdI w lo hi A l) (hK : K = (kk : Int) + 2) (hK2 : K ≤ 1000)
    (ih : ∀ (K' : Int), K' = (kk : Int) + 1 → ∀ (A : Option Addr) (c lo hi : Nat) (w : World), l.length ≤ c → RdI w lo hi A l → Calls Try.prog 48 #[.slice A l.length c, .agg #[.int .i64 r.least, .int .i64 r.normal, .int .i64 r.most], .int .i64 m, .int .i64 K'] w (RetTb w (tabK (paOf l r m) kk))) :
    Calls Try.prog 48 #[.slice A l.length c, .agg #[.int .i64 r.least, .int .i64 r.normal, .int .i64 r.most], .int .i64 m, .int .i64 K] w (RetTb w (tabK (paOf l r m) (kk + 1))) := by
  have HK := Lib.hid hK
  have hK1 : 2 ≤ K := by omega
  have pk1 : (K == 1) = false := by simp; omega
  have pk2 : decide (K < 0) = false := decide_eq_false (by omega)
  have pk3 : decide (1 < K) = true := decide_eq_true (by omega)
  clear hK
  obtain ⟨hp, ⟨r1, r2, r3, r4⟩, m1, m2⟩ := asked_parts h1
  obtain ⟨P, hP⟩ : ∃ P, P = paOf l r m := ⟨_, rfl⟩
  obtain ⟨hco, hcd, hPp⟩ := paOf_co h1
  rw [← hP] at hco hcd
  have hpl := pw_len hp
  have HPM := Lib.hid (pw_mem hp)
  have hPn : P.n = l.length := by rw [hP]; rfl
  have HPN := Lib.hid hPn
  have HOK : Hid (∀ i j, P.ok i j = lineOk (cutL l i j) r m) := by show ∀ i j, _; rw [hP]; exact fun _ _ => rfl
  have HCO : Hid (∀ i j, P.co i j = lc (cutL l i j) r m) := by show ∀ i j, _; rw [hP]; exact fun _ _ => rfl
  have HFI : Hid (∀ i, P.fin i = canEnd (cutL l i l.length) r m) := by show ∀ i, _; rw [hP]; exact fun _ => rfl
  have HPP := Lib.hid hP; have HH1 := Lib.hid h1
  have HNN := Lib.hid hco; have HCD := Lib.hid hcd
  rw [← hP] at ih ⊢
  clear hP h1 hPp hPn hco hcd hp
  obtain ⟨_, b, off, _, rfl, _, _, g3, _, _⟩ := RdI.get hr (k := 0) (by omega)
  obtain ⟨w0, hw0⟩ : ∃ w0, w0 = w.alloc (.cells #[.int .i64 r.least, .int .i64 r.normal, .int .i64 r.most] 28) := ⟨_, rfl⟩
  have x0 : w0.cell? ⟨w.heap.size, 0, none⟩ = some (.int .i64 r.least) := by rw [hw0]; exact box_new (Ext.refl _) rfl
  have x1 : w0.cell? ⟨w.heap.size, 1, none⟩ = some (.int .i64 r.normal) := by rw [hw0]; exact box_new (Ext.refl _) rfl
  have x2 : w0.cell? ⟨w.heap.size, 2, none⟩ = some (.int .i64 r.most) := by rw [hw0]; exact box_new (Ext.refl _) rfl
  have hE0 : Ext w w0 := by rw [hw0]; exact Ext.alloc _ _
  have hz0 : w0.heap.size = w.heap.size + 1 := by rw [hw0]; simp
  have HW0 := Lib.hid hw0
  clear hw0
  have hq := hr.ext hE0
  obtain ⟨cs0, hmk, hf0⟩ := make_ints (P := Try.prog) 22 3 Try.underlying22 intInfo0 l.length (by omega)
  have HF0 := Lib.hid hf0; clear hf0
  have HZ0 := Lib.hid hz0; have hlt0 : w.heap.size < w0.heap.size := by omega
  clear hz0
  go_enter Try.func48, Try.ntmps48
  go_wp2_with fail
  have hw0' := HW0.out
  rw [← hw0']
  have hgw : w.heap.size + 1 = w0.heap.size := HZ0.out.symm
  rw [hgw]
  obtain ⟨G, hG⟩ : ∃ G, G = w0.heap.size := ⟨_, rfl⟩
  have hB0 : Blk (w0.alloc (.cells cs0 3)) G 3 cs0 := by rw [hG]; exact Blk.new _ _ _
  have hE1 : Ext w0 (w0.alloc (.cells cs0 3)) := Ext.alloc _ _
  rw [← hG]
  have hGw : w0.heap.size ≤ G := by omega
  clear hw0' hgw hmk hG
  go_loopw [21] (fun j wr => ∃ (k : Nat) (cur : Array Value), k ≤ l.length ∧ j = .int .i64 k ∧ Blk wr G 3 cur ∧ FillI cur l.length (fun p => if p < k then (-1) else 0) ∧ Ext w0 wr) (fun j _ => l.length - (intOf j).toNat)
  case atStart => exact ⟨0, cs0, Nat.zero_le _, rfl, hB0, HF0.out.congr (fun i _ => by simp), hE1⟩
  case round =>
    clear hB0 hE1
    obtain ⟨k, cur, hk, rfl, hB, hF, hE⟩ := hrel
    have hgl := hB.lt
    by_cases hlt : k < l.length
    · obtain ⟨q1, q2⟩ := hF.cell hB (k := k) hlt
      go_wp2_with fail
      have hEs : Ext w0 (wr.setCell ⟨G, k, none⟩ (.int .i64 (-1))) := Ext.setCell hE hGw _
      have hBs := hB.set_ k (.int .i64 (-1))
      have hFs := hF.set_ k (-1)
      refine wp_region_xw (w0 := (wr.setCell ⟨G, k, none⟩ (.int .i64 (-1)))) (by kernel_rfl) (by kernel_rfl) (by repeat (first | exact Ext.refl _ | assumption | refine Ext.trans ?_ (Ext.alloc _ _) | refine Ext.trans ?_ (Ext.drew _) | refine Ext.trans ?_ (Ext.drewN _ _) | refine Ext.trans ?_ (by assumption))) ?_; (repeat (go_big_quiet_step (fail))); refine wpQuiet_nil ?_; intro w3 hw'; obtain ⟨⟨_, hEw3⟩, hw''⟩ := hw'; subst hw''
      go_wp2
      go_roundw
      case rel => exact ⟨k + 1, _, by omega, by go_num, hBs.ext hEw3, hFs.congr (fun p _ => by
          by_cases e : p = k
          · rw [if_pos e, if_pos (by omega)]
          · rw [if_neg e]
            by_cases e2 : p < k
            · rw [if_pos e2, if_pos (by omega)]
            · rw [if_neg e2, if_neg (by omega)]), hEs.trans hEw3⟩
      case measure => simp [intOf]; omega
    · have hkl : k = l.length := by omega
      subst hkl
      clear hlt hgl
      have hF : FillI cur l.length (fun p => (-1)) := hF.congr (fun i hi => by rw [if_pos hi])
      obtain ⟨wa, rfl⟩ : ∃ x, x = wr := ⟨_, rfl⟩
      have y0 := hE.cell x0
      have y1 := hE.cell x1
      have y2 := hE.cell x2
      go_wp2_with fail
      clear y0 y1 y2
      refine (ih (K - 1) (by have := HK.out; omega) _ _ _ _ _ hcap (hq.ext hE)).mono ?_
      rintro e w2 ⟨g2, rfl, hRn, hE2⟩
      have hl2 : (tabK P kk).length = l.length := by rw [tabK_len, HPN.out]
      rw [hl2]
      have HL2 := Lib.hid hl2; clear hl2
      have hGL := hB.lt
      replace hB := hB.ext hE2
      replace hE := hE.trans hE2
      go_wp2_with fail
      have hdn : ∀ n : Nat, n ≤ l.length → (n : Int) - 1 < l.length := fun n h => by omega
      clear hdn
      go_loopw [12] (fun j wr => ∃ (d a : Nat) (cur : Array Value), d + a = l.length ∧ j = .int .i64 ((a : Int) - 1) ∧ Blk wr G 3 cur ∧ FillI cur l.length (fun p => if p < a then (-1) else tv (bw P false (kk + 2) p).1) ∧ Ext w0 wr ∧ RdI wr wa.heap.size w2.heap.size (some ⟨g2, 0, none⟩) (tabK P kk)) (fun j _ => (intOf j + 1).toNat)
      case atStart => exact ⟨0, l.length, cur, by omega, rfl, hB, hF.congr (fun p hp => by rw [if_pos hp]), hE, hRn⟩
      case round =>
        clear hB hF hE hRn
        obtain ⟨d, a1, cur, hda, hj, hB, hF, hE, hRn⟩ := hrel
        have hgl := hB.lt
        cases a1 with
        | zero =>
          rw [show (((0 : Nat) : Int) - 1) = -1 from rfl] at hj
          subst hj
          go_wp2
          go_ret
          have hl1 : (tabK P (kk + 1)).length = l.length := by rw [tabK_len, HPN.out]
          refine ⟨G, by rw [hl1]; rfl, ?_, hE0.trans hE⟩
          refine hF.rd hB (by have := hE0.size; omega) hl1 (fun i hi => ?_)
          rw [tabK_at (by rw [HPN.out]; exact hi), if_neg (by omega)] <;> rfl
        | succ a =>
          rw [show ((a + 1 : Nat) : Int) - 1 = (a : Int) from by omega] at hj
          subst hj
          have hal : a < l.length := by omega
          obtain ⟨g, hg⟩ : ∃ g : Nat → Int, g = fun j => tv (bw P false (kk + 1) j).1 := ⟨_, rfl⟩
          have HGB : Hid (∀ j, j < l.length → -1 ≤ g j ∧ g j ≤ 2400000000) := by
            show ∀ j, _
            intro j hj
            rw [hg]
            exact tvK_bd HH1.out HPP.out (by rw [HPN.out]; exact hj)
          obtain ⟨bs, hbs⟩ : ∃ bs : Int, bs = -1 := ⟨_, rfl⟩
          have HUP : Hid (up P g bs a (l.length - 1 - a) = tv (bw P false (kk + 2) a).1) := by
            show _ = _
            rw [hbs, ← HPN.out]
            exact bw_tab HNN.out (by rw [HPN.out]; exact hal) (fun j _ _ => by rw [hg])
          have hbs0 : -1 ≤ bs ∧ bs ≤ 0 := by rw [hbs]; omega
          have HUB : Hid (∀ t, a + t < l.length → -1 ≤ up P g bs a t ∧ up P g bs a t ≤ 2500000000) := by
            show ∀ t, _
            intro t ht
            exact up_bd HNN.out HCD.out hbs0.1 hbs0.2 t (fun j h1 h2 => (HGB.out j (by omega)).2)
          have HGG := Lib.hid hg; have HBS := Lib.hid hbs
          clear hg hbs hbs0
          go_wp2_with fail
          go_loopw [13] (fun j wr => ∃ (t : Nat) (cur : Array Value), a + 1 + t ≤ l.length ∧ j = .int .i64 ((a : Int) + 1 + t) ∧ Blk wr G 3 cur ∧ FillI cur l.length (fun p => if p = a then up P g bs a t else if p < a + 1 then (-1) else tv (bw P false (kk + 2) p).1) ∧ Ext w0 wr ∧ RdI wr wa.heap.size w2.heap.size (some ⟨g2, 0, none⟩) (tabK P kk)) (fun j _ => l.length - (intOf j).toNat)
          case atStart => exact ⟨0, cur, by omega, by go_num, hB, hF.congr (fun p _ => by
              by_cases e : p = a
              · rw [if_pos e, if_pos (show p < a + 1 by omega)]; first | (rw [e, ← HBS.out]; rfl) | (rw [← HBS.out]; rfl)
              · rw [if_neg e]), hE, hRn⟩
          case round =>
            clear hB hF hE hRn
            obtain ⟨t, cur, hta, rfl, hB, hF, hE, hRn⟩ := hrel
            have hgl := hB.lt
            obtain ⟨J, hJ⟩ : ∃ J, J = a + 1 + t := ⟨_, rfl⟩
            have hJi : (a : Int) + 1 + (t : Int) = (J : Int) := by omega
            rw [hJi]
            have HJ := Lib.hid hJ
            by_cases hlt : J < l.length
            · have y0 : ∀ x : XW wr, x.v.cell? ⟨w.heap.size, 0, none⟩ = _ := fun x => x.h.cell (hE.cell x0)
              have y1 : ∀ x : XW wr, x.v.cell? ⟨w.heap.size, 1, none⟩ = _ := fun x => x.h.cell (hE.cell x1)
              have y2 : ∀ x : XW wr, x.v.cell? ⟨w.heap.size, 2, none⟩ = _ := fun x => x.h.cell (hE.cell x2)
              have haJ : a < J := by omega
              have hcF : ¬ c = a := by omega
              have hcut := cutL_len l (i := a) (k := J) (by omega)
              have HC := Lib.hid hcut
              have hRc := (hq.ext hE).cut a J
              have HCM : Hid (∀ x ∈ cutL l a J, 1 ≤ x ∧ x ≤ 600) := fun x hx => HPM.out x (cutL_mem hx)
              have hc1 : 1 ≤ (cutL l a J).length := by omega
              have hc2 : (cutL l a J).length ≤ 24 := by omega
              have HUS : Hid (up P g bs a (t + 1) = uc P a J (up P g bs a t) (g J)) := by show _ = _; rw [up_succ, ← HJ.out]
              obtain ⟨v, hv⟩ : ∃ v, v = up P g bs a t := ⟨_, rfl⟩
              obtain ⟨v0, v1⟩ := HUB.out t (by omega)
              obtain ⟨x, hx⟩ : ∃ x, x = g J := ⟨_, rfl⟩
              obtain ⟨z0, z1⟩ := HGB.out J hlt
              obtain ⟨co, hco⟩ : ∃ co, co = lc (cutL l a J) r m := ⟨_, rfl⟩
              have cc : P.co a J = co := by rw [hco]; exact HCO.out a J
              have c0 := HNN.out a J
              have c1 := HCD.out a J
              rw [cc] at c0 c1
              have HCC := Lib.hid cc
              rw [← hv] at v0 v1 HUS
              rw [← hx] at z0 z1 HUS
              have HV := Lib.hid hv; have HX := Lib.hid hx; have HCO2 := Lib.hid hco
              clear hcut hv hx hco cc hJ hJi
              cases hlo : lineOk (cutL l a J) r m
              · have HLO := Lib.hid hlo; clear hlo
                have HS : Hid (up P g bs a (t + 1) = up P g bs a t) := by show _ = _; rw [HUS.out, uc_no (by rw [HOK.out]; exact HLO.out), HV.out]
                go_wp2_with fail
                refine wp_region_xw (w0 := wr) (by kernel_rfl) (by kernel_rfl) (by repeat (first | exact Ext.refl _ | assumption | refine Ext.trans ?_ (Ext.alloc _ _) | refine Ext.trans ?_ (Ext.drew _) | refine Ext.trans ?_ (Ext.drewN _ _) | refine Ext.trans ?_ (by assumption))) ?_; (repeat (go_big_quiet_step ((go_at_call 45; exact XW.call (lineCost_v _ (c - a) (J - a) (cutL l a J) r m _ _ _ false HLO.out HC.out hc1 hc2 HCM.out r1 r2 r3 r4 m1 m2 (hRc.ext (XW.h _))))))); refine wpQuiet_nil ?_; intro w3 hw'; obtain ⟨⟨_, hEw3⟩, hw''⟩ := hw'; subst hw''
                clear y0 y1 y2
                go_wp2_with fail
                refine wp_region_xw (w0 := w3) (by kernel_rfl) (by kernel_rfl) (by repeat (first | exact Ext.refl _ | assumption | refine Ext.trans ?_ (Ext.alloc _ _) | refine Ext.trans ?_ (Ext.drew _) | refine Ext.trans ?_ (Ext.drewN _ _) | refine Ext.trans ?_ (by assumption))) ?_; (repeat (go_big_quiet_step (fail))); refine wpQuiet_nil ?_; intro w4 hw'; obtain ⟨⟨_, hEw4⟩, hw''⟩ := hw'; subst hw''
                go_wp2
                go_roundw
                case rel => exact ⟨t + 1, cur, by have := HJ.out; omega, val_int (by have := HJ.out; omega), (hB.ext hEw3).ext hEw4, hF.congr (fun p _ => by
                    by_cases e : p = a
                    · rw [if_pos e, if_pos e, HS.out]
                    · rw [if_neg e, if_neg e]), (hE.trans hEw3).trans hEw4, (hRn.ext hEw3).ext hEw4⟩
                case measure => have := HJ.out; simp [intOf]; omega
              · have HLO := Lib.hid hlo; clear hlo
                have HOKJ : Hid (P.ok a J = true) := by show _ = _; rw [HOK.out]; exact HLO.out
                have hLC : ∀ x : XW wr, _ := fun x => lineCost_v (some ⟨b, off + a, none⟩) (c - a) (J - a) (cutL l a J) r m lo hi x.v true HLO.out HC.out hc1 hc2 HCM.out r1 r2 r3 r4 m1 m2 (hRc.ext (XW.h x))
                simp only [← HCO2.out] at hLC
                go_wp2_with fail
                refine wp_region_xw (w0 := wr) (by kernel_rfl) (by kernel_rfl) (by repeat (first | exact Ext.refl _ | assumption | refine Ext.trans ?_ (Ext.alloc _ _) | refine Ext.trans ?_ (Ext.drew _) | refine Ext.trans ?_ (Ext.drewN _ _) | refine Ext.trans ?_ (by assumption))) ?_; (repeat (go_big_quiet_step ((go_at_call 45; with_reducible exact XW.call (hLC _))))); refine wpQuiet_nil ?_; intro w3 hw'; obtain ⟨⟨_, hEw3⟩, hw''⟩ := hw'; subst hw''
                clear y0 y1 y2 hLC
                have hB3 := hB.ext hEw3
                obtain ⟨q1, q2⟩ := hF.cell hB3 (k := a) hal
                rw [if_pos rfl, ← HV.out] at q1
                obtain ⟨x5, b5, off5, HX5, eA5, _, _, hb5, q5, _⟩ := RdI.get (hRn.ext hEw3) (k := J) (by rw [HL2.out]; exact hlt)
                injection eA5 with eA5; injection eA5 with eb eo _; subst eb; subst eo
                rw [Nat.zero_add] at q5
                have hx5 : x5 = g J := by have h := HX5.out; rw [tabK_at (by rw [HPN.out]; exact hlt)] at h; injection h with h; rw [← h, HGG.out]
                rw [hx5] at q5
                clear hx5
                rw [← HX.out] at q5
                have e1 : ∀ y : XW w3, y.v.cell? ⟨G, a, none⟩ = _ := fun y => y.h.cell q1
                have e2 : ∀ y : XW w3, y.v.cell? ⟨g2, J, none⟩ = _ := fun y => y.h.cell q5
                have hgl3 := hB3.lt
                by_cases hx0 : 0 ≤ x
                · have p0 : decide (0 ≤ x) = true := decide_eq_true hx0
                  have k2 : IntKind.i64.wrap (co + x) = co + x := IntWalk.i64_in _ (by omega)
                  by_cases hv0 : v < 0
                  · have HS : Hid (up P g bs a (t + 1) = co + x) := by show _ = _; rw [HUS.out, uc_new HOKJ.out hx0 (.inl hv0), HCC.out]
                    have p1 : decide (v < 0) = true := decide_eq_true hv0
                    go_wp2_with fail
                    refine wp_region_xw (w0 := w3) (by kernel_rfl) (by kernel_rfl) (by repeat (first | exact Ext.refl _ | assumption | refine Ext.trans ?_ (Ext.alloc _ _) | refine Ext.trans ?_ (Ext.drew _) | refine Ext.trans ?_ (Ext.drewN _ _) | refine Ext.trans ?_ (by assumption))) ?_; (repeat (go_big_quiet_step (fail))); refine wpQuiet_nil ?_; intro w4 hw'; obtain ⟨⟨_, hEw4⟩, hw''⟩ := hw'; subst hw''
                    clear e1 e2
                    have hB4 := hB3.ext hEw4
                    obtain ⟨q1, q2⟩ := hF.cell hB4 (k := a) hal
                    have q5' := hEw4.cell q5
                    have hgl4 := hB4.lt
                    go_wp2
                    go_roundw
                    case rel => exact ⟨t + 1, _, by have := HJ.out; omega, val_int (by have := HJ.out; omega), hB4.set_ a _, (hF.set_ a (co + x)).congr (fun p _ => by
                        by_cases e : p = a
                        · rw [if_pos e, if_pos e, HS.out]
                        · rw [if_neg e, if_neg e, if_neg e]), Ext.setCell ((hE.trans hEw3).trans hEw4) hGw _, rdI_set ((hRn.ext hEw3).ext hEw4) (by omega) _⟩
                    case measure => simp [intOf]; omega
                  · have p1 : decide (v < 0) = false := decide_eq_false hv0
                    by_cases hlt2 : co + x < v
                    · have HS : Hid (up P g bs a (t + 1) = co + x) := by show _ = _; rw [HUS.out, uc_new HOKJ.out hx0 (.inr (by rw [HCC.out]; exact hlt2)), HCC.out]
                      have p2 : decide (co + x < v) = true := decide_eq_true hlt2
                      go_wp2_with fail
                      refine wp_region_xw (w0 := w3) (by kernel_rfl) (by kernel_rfl) (by repeat (first | exact Ext.refl _ | assumption | refine Ext.trans ?_ (Ext.alloc _ _) | refine Ext.trans ?_ (Ext.drew _) | refine Ext.trans ?_ (Ext.drewN _ _) | refine Ext.trans ?_ (by assumption))) ?_; (repeat (go_big_quiet_step (fail))); refine wpQuiet_nil ?_; intro w4 hw'; obtain ⟨⟨_, hEw4⟩, hw''⟩ := hw'; subst hw''
                      clear e1 e2
                      have hB4 := hB3.ext hEw4
                      obtain ⟨q1, q2⟩ := hF.cell hB4 (k := a) hal
                      have q5' := hEw4.cell q5
                      have hgl4 := hB4.lt
                      go_wp2
                      go_roundw
                      case rel => exact ⟨t + 1, _, by have := HJ.out; omega, val_int (by have := HJ.out; omega), hB4.set_ a _, (hF.set_ a (co + x)).congr (fun p _ => by
                          by_cases e : p = a
                          · rw [if_pos e, if_pos e, HS.out]
                          · rw [if_neg e, if_neg e, if_neg e]), Ext.setCell ((hE.trans hEw3).trans hEw4) hGw _, rdI_set ((hRn.ext hEw3).ext hEw4) (by omega) _⟩
                      case measure => simp [intOf]; omega
                    · have HS : Hid (up P g bs a (t + 1) = up P g bs a t) := by show _ = _; rw [HUS.out, uc_old hv0 (by rw [HCC.out]; exact hlt2), HV.out]
                      have p2 : decide (co + x < v) = false := decide_eq_false hlt2
                      go_wp2_with fail
                      refine wp_region_xw (w0 := w3) (by kernel_rfl) (by kernel_rfl) (by repeat (first | exact Ext.refl _ | assumption | refine Ext.trans ?_ (Ext.alloc _ _) | refine Ext.trans ?_ (Ext.drew _) | refine Ext.trans ?_ (Ext.drewN _ _) | refine Ext.trans ?_ (by assumption))) ?_; (repeat (go_big_quiet_step (fail))); refine wpQuiet_nil ?_; intro w4 hw'; obtain ⟨⟨_, hEw4⟩, hw''⟩ := hw'; subst hw''
                      clear e1 e2
                      go_wp2
                      go_roundw
                      case rel => exact ⟨t + 1, cur, by have := HJ.out; omega, val_int (by have := HJ.out; omega), (hB.ext hEw3).ext hEw4, hF.congr (fun p _ => by
                          by_cases e : p = a
                          · rw [if_pos e, if_pos e, HS.out]
                          · rw [if_neg e, if_neg e]), (hE.trans hEw3).trans hEw4, (hRn.ext hEw3).ext hEw4⟩
                      case measure => have := HJ.out; simp [intOf]; omega
                · have p0 : decide (0 ≤ x) = false := decide_eq_false hx0
                  have HS : Hid (up P g bs a (t + 1) = up P g bs a t) := by show _ = _; rw [HUS.out, uc_none hx0, HV.out]
                  go_wp2_with fail
                  refine wp_region_xw (w0 := w3) (by kernel_rfl) (by kernel_rfl) (by repeat (first | exact Ext.refl _ | assumption | refine Ext.trans ?_ (Ext.alloc _ _) | refine Ext.trans ?_ (Ext.drew _) | refine Ext.trans ?_ (Ext.drewN _ _) | refine Ext.trans ?_ (by assumption))) ?_; (repeat (go_big_quiet_step (fail))); refine wpQuiet_nil ?_; intro w4 hw'; obtain ⟨⟨_, hEw4⟩, hw''⟩ := hw'; subst hw''
                  clear e1 e2
                  go_wp2
                  go_roundw
                  case rel => exact ⟨t + 1, cur, by have := HJ.out; omega, val_int (by have := HJ.out; omega), (hB.ext hEw3).ext hEw4, hF.congr (fun p _ => by
                      by_cases e : p = a
                      · rw [if_pos e, if_pos e, HS.out]
                      · rw [if_neg e, if_neg e]), (hE.trans hEw3).trans hEw4, (hRn.ext hEw3).ext hEw4⟩
                  case measure => have := HJ.out; simp [intOf]; omega
            · have hJl : t = l.length - 1 - a := by omega
              go_wp2
              go_roundw
              case rel => exact ⟨d + 1, a, cur, by omega, by go_num, hB, hF.congr (fun p hp => by
                  by_cases e : p = a
                  · rw [if_pos e, if_neg (by omega), e, hJl, HUP.out]
                  · rw [if_neg e]
                    by_cases e2 : p < a
                    · rw [if_pos e2, if_pos (show p < a + 1 by omega)]
                    · rw [if_neg e2, if_neg (show ¬ p < a + 1 by omega)]), hE, hRn⟩
              case measure => simp [intOf]
theorem leastCosts_k {l : List Int} {r : Rul} {m : Int} (h1 : asked l r m = true) : ∀ (kk : Nat), kk ≤ 100 → ∀ (K : Int), K = (kk : Int) + 1 → ∀ (A : Option Addr) (c lo hi : Nat) (w : World), l.length ≤ c → RdI w lo hi A l → Calls Try.prog 48 #[.slice A l.length c, .agg #[.int .i64 r.least, .int .i64 r.normal, .int .i64 r.most], .int .i64 m, .int .i64 K] w (RetTb w (tabK (paOf l r m) kk))
  | 0, _, K, hK, A, c, lo, hi, w, hc, hr => by
    obtain rfl : K = 1 := by omega
    exact leastCosts_one A c l r m lo hi w h1 hc hr
  | kk + 1, hk, K, hK, A, c, lo, hi, w, hc, hr => leastCosts_more A c l r m K kk lo hi w h1 hc hr (by omega) (by omega) (leastCosts_k h1 kk (by omega))
end Go.Proofs.Ytmfoankgfiofdaa
