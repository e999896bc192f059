/- The walk of paFrom with any number of lines. -/
import Derived.Test.YtmfoankgfiofdaaPbV
import Derived.BigRegion
namespace Go.Proofs.Ytmfoankgfiofdaa
open Go.RowKit
set_option linter.unusedVariables false
set_option maxRecDepth 20000 in
set_option maxHeartbeats 8000000 in
theorem paFrom_any (A : Option Addr) (c : Nat) (l : List Int) (r : Rul) (m : Int) (L lo hi : Nat) (w : World) (h1 : asked l r m = true) (hcap : l.length ≤ c) (hL : L ≤ 24) (hL0 : L ≤ 0) (hr : RdI w lo hi A l) :
    Calls Try.prog 47 #[.slice A l.length c, .agg #[.int .i64 r.least, .int .i64 r.normal, .int .i64 r.most], .int .i64 m, .int .i64 (L : Int)] w (RetW w (tb (paOf l r m) L L 0)) := by
  obtain ⟨hp, ⟨r1, r2, r3, r4⟩, m1, m2⟩ := asked_parts h1
  obtain ⟨P, hP⟩ : ∃ P, P = paOf l r m := ⟨_, rfl⟩
  obtain ⟨hco, hcd, hPp⟩ := paOf_co h1
  have hpl := pw_len hp
  have HPM := Lib.hid (pw_mem hp)
  have hNN := fun k => nn_tb hco hPp L k
  have hUB := fun k => ub_tb hco hcd hPp L k
  have hLB := fun k => ln_tb hco hPp L k
  rw [← hP] at hco hcd hNN hUB hLB
  have hPn : P.n = l.length := by rw [hP]; rfl
  have HPN := Lib.hid hPn
  have HOK : Hid (∀ i j, P.ok i j = lineOk (cutL l i j) r m) := by show ∀ i j, _; rw [hP]; exact fun _ _ => rfl
  have HCO : Hid (∀ i j, P.co i j = lc (cutL l i j) r m) := by show ∀ i j, _; rw [hP]; exact fun _ _ => rfl
  have HFI : Hid (∀ i, P.fin i = canEnd (cutL l i l.length) r m) := by show ∀ i, _; rw [hP]; exact fun _ => rfl
  have HNN := Lib.hid hNN; have HLB := Lib.hid hLB; have HUB := Lib.hid hUB
  have HC0 := Lib.hid hco; have HCD := Lib.hid hcd
  rw [← hP]
  clear hP h1 hPp hPn hco hcd hp hNN hUB hLB
  obtain ⟨_, b, off, _, rfl, _, _, g3, _, _⟩ := RdI.get hr (k := 0) (by omega)
  obtain ⟨n, hn⟩ : ∃ n, l.length = n := ⟨_, rfl⟩
  rw [hn] at hpl hcap ⊢
  have HLN := Lib.hid hn
  have HPn : Hid (P.n = n) := by show _ = _; rw [HPN.out, hn]
  clear hn
  obtain ⟨w0, hw0⟩ : ∃ w0, w0 = (w.alloc (.cells #[.int .i64 r.least, .int .i64 r.normal, .int .i64 r.most] 28)).alloc (.cells #[.bool false, .int .i64 0, .slice none 0 0, .int .i64 0] 51) := ⟨_, rfl⟩
  have hE00 : Ext (w.alloc (.cells #[.int .i64 r.least, .int .i64 r.normal, .int .i64 r.most] 28)) w0 := by rw [hw0]; exact Ext.alloc _ _
  have x0 : w0.cell? ⟨w.heap.size, 0, none⟩ = some (.int .i64 r.least) := hE00.cell (box_new (Ext.refl _) rfl)
  have x1 : w0.cell? ⟨w.heap.size, 1, none⟩ = some (.int .i64 r.normal) := hE00.cell (box_new (Ext.refl _) rfl)
  have x2 : w0.cell? ⟨w.heap.size, 2, none⟩ = some (.int .i64 r.most) := hE00.cell (box_new (Ext.refl _) rfl)
  have hE0 : Ext w w0 := (Ext.alloc _ _).trans hE00
  have hz0 : w0.heap.size = w.heap.size + 2 := by rw [hw0]; simp
  have HRS : Hid (Blk w0 (w.heap.size + 1) 51 #[.bool false, .int .i64 0, .slice none 0 0, .int .i64 0]) := by
    show Blk _ _ _ _
    rw [hw0]; have h := Blk.new (w.alloc (.cells #[.int .i64 r.least, .int .i64 r.normal, .int .i64 r.most] 28)) 51 #[.bool false, .int .i64 0, .slice none 0 0, .int .i64 0]; simpa using h
  have HW0 := Lib.hid hw0; have HZ0 := Lib.hid hz0
  clear hw0 hz0 hE00
  have hq := hr.ext hE0
  obtain ⟨cs1, hmk1, hfv1⟩ := make_ones (P := Try.prog) 63 64 _ 24 Try.underlying63 rowSliceInfo rfl (L + 1) (by omega) (by omega)
  obtain ⟨cs2, hmk2, hrow⟩ := make_ways (P := Try.prog) 64 51 Try.underlying64 wayInfo (n + 1) (by omega)
  rw [show ((L + 1 : Nat) : Int) = (L : Int) + 1 from by omega] at hmk1
  rw [show ((n + 1 : Nat) : Int) = (n : Int) + 1 from by omega] at hmk2
  have HV1 := Lib.hid hfv1; have HROW := Lib.hid hrow; clear hfv1 hrow
  go_enter Try.func47, Try.ntmps47
  go_wp2_with fail
  have hw0' := HW0.out
  rw [← hw0']
  obtain ⟨G, hG⟩ : ∃ G, G = w0.heap.size := ⟨_, rfl⟩
  have hgw : w.heap.size + 1 + 1 = G := by rw [hG, HZ0.out]
  rw [hgw]
  have hGw : w0.heap.size ≤ G := by omega
  have hb0 : w.heap.size + 2 ≤ G := by omega
  obtain ⟨LO, hLO⟩ : ∃ LO, LO = G + 1 + (L + 1) := ⟨_, rfl⟩
  have hlo2 : G + 2 + L ≤ LO := by omega
  have hB0 : Blk (w0.alloc (.cells cs1 64)) G 64 cs1 := by rw [hG]; exact Blk.new _ _ _
  have hZ1 : (w0.alloc (.cells cs1 64)).heap.size = G + 1 + 0 := by rw [hG]; simp
  have hE1 : Ext w0 (w0.alloc (.cells cs1 64)) := Ext.alloc _ _
  have HLO := Lib.hid hLO
  clear hw0' hgw hmk1 hG hLO
  go_loopw [29] (fun j wr => ∃ (k : Nat) (cur : Array Value), k ≤ L + 1 ∧ j = .int .i64 k ∧ wr.heap.size = G + 1 + k ∧ Blk wr G 64 cur ∧ FillV cur (L + 1) (fun p => if p < k then .slice (some ⟨G + 1 + p, 0, none⟩) (n + 1) (n + 1) else .slice none 0 0) ∧ (∀ p, p < k → RowW wr (G + 1 + p) 51 (n + 1) LO (fun _ => (none, 0))) ∧ Ext w0 wr) (fun j _ => L + 1 - (intOf j).toNat)
  case atStart => exact ⟨0, cs1, Nat.zero_le _, rfl, hZ1, hB0, HV1.out.congr (fun i _ => by simp), fun p hp => by omega, hE1⟩
  case round =>
    clear hB0 hE1 hZ1
    obtain ⟨k, cur, hk, rfl, hsz, hB, hV, hRw, hE⟩ := hrel
    have hgl := hB.lt
    have HSZ := Lib.hid hsz; have HRW := Lib.hid hRw
    by_cases hlt : k < L + 1
    · obtain ⟨q1, q2⟩ := hV.cell hB (k := k) hlt
      rw [if_neg (by omega)] at q1
      have i1 : (k : Int) < (L : Int) + 1 := by omega
      clear hsz hRw
      go_wp2_with fail
      go_roundw
      case rel =>
        refine ⟨k + 1, _, by omega, by go_num, by simp [World.setCell]; have := HSZ.out; omega, (hB.set_ k _).ext (Ext.alloc _ _), (hV.set_ k _).congr (fun p hp => ?_), fun p hp => ?_, (Ext.setCell hE (p := ⟨G, k, none⟩) hGw _).trans (Ext.alloc _ _)⟩
        · by_cases e : p = k
          · rw [if_pos (by omega), if_pos e, e, HSZ.out]
          · rw [if_neg e]
            by_cases e2 : p < k
            · rw [if_pos e2, if_pos (by omega)]
            · rw [if_neg e2, if_neg (by omega)]
        · by_cases e : p = k
          · have hss : (wr.setCell ⟨G, k, none⟩ (.slice (some ⟨wr.heap.size, 0, none⟩) (n + 1) (n + 1))).heap.size = G + 1 + k := by simp [World.setCell]; exact HSZ.out
            have h := HROW.out (wr.setCell ⟨G, k, none⟩ (.slice (some ⟨wr.heap.size, 0, none⟩) (n + 1) (n + 1))) _ LO (Ext.refl _)
            rw [hss] at h
            rw [e]
            exact h
          · exact ((HRW.out p (by omega)).other (p := ⟨G, k, none⟩) (by show G + 1 + p ≠ G; omega) (by show G < LO; omega) _).ext (Ext.alloc _ _)
      case measure => (simp [intOf]; try omega)
    · have hkl : k = L + 1 := by omega
      subst hkl
      rw [show ((L + 1 : Nat) : Int) = (L : Int) + 1 from by omega]
      clear hlt hk
      obtain ⟨w1, hw1⟩ : ∃ x, x = wr := ⟨_, rfl⟩
      subst hw1
      have hz1 : w1.heap.size = LO := by rw [hsz, HLO.out]
      have X0 := hE.cell x0; have X1 := hE.cell x1; have X2 := hE.cell x2
      have HRS1 : Hid (Blk w1 (w.heap.size + 1) 51 #[.bool false, .int .i64 0, .slice none 0 0, .int .i64 0]) := Blk.ext HRS.out hE
      have HOUT : Hid (∀ p, p < L + 1 → w1.cell? ⟨G, p, none⟩ = some (.slice (some ⟨G + 1 + p, 0, none⟩) (n + 1) (n + 1))) := by
        show ∀ p, _
        intro p hp
        have h := (hV.cell hB (k := p) hp).1
        rw [if_pos hp] at h; exact h
      have hq1 := hq.ext hE
      have hR0 : ∀ p, p < L + 1 → RowW w1 (G + 1 + p) 51 (n + 1) LO (fl P L 0 P.n p) := fun p hp => (HRW.out p hp).congr (fun i _ => fl_start)
      have hO1 : Out (G + 1) LO w1 w1 := Out.refl _ _ _
      have HZ1 := Lib.hid hz1
      have hlz : LO ≤ w1.heap.size := by omega
      have HE1 := Lib.hid hE
      have hlo : hi ≤ G := by have := hr.1; omega
      clear hsz hRw hB hV hz1 hmk2 HSZ HRW x0 x1 x2 hq hgl hE
      go_wp2_with fail
      go_loopw [41] (fun j wr => ∃ (k : Nat), k ≤ L + 1 ∧ j = .int .i64 k ∧ (∀ p, p < L + 1 → RowW wr (G + 1 + p) 51 (n + 1) LO (fl P L k P.n p)) ∧ Out (G + 1) LO w1 wr) (fun j _ => L + 1 - (intOf j).toNat)
      case atStart => exact ⟨0, Nat.zero_le _, rfl, hR0, hO1⟩
      case round =>
        clear hR0 hO1
        obtain ⟨k, hk, rfl, hR, hO⟩ := hrel
        have HR := Lib.hid hR; clear hR
        by_cases hlt : k < L + 1
        · have i1 : (k : Int) < (L : Int) + 1 := by omega
          have p1 : decide ((0 : Int) < (L : Int)) = false := decide_eq_false (by omega)
          have p3 : ((L : Int) == 0) = true := by simp; omega
          have hk00 : k ≤ 0 := by omega
          have HM : Hid ((if (k : Int) - 1 < 0 then 0 else (k : Int) - 1) = ((0 : Nat) : Int)) := by show _ = _; split <;> omega
          go_wp2_with fail
          go_loopw [13] (fun j wr => ∃ (d a : Nat), d + a = n ∧ j = .int .i64 ((a : Int) - 1) ∧ (∀ p, p < L + 1 → RowW wr (G + 1 + p) 51 (n + 1) LO (fl P L k a p)) ∧ Out (G + 1) LO w1 wr) (fun j _ => (intOf j + 1).toNat)
          case atStart => exact ⟨0, n, by omega, rfl, fun p hp => (by have h := HR.out p hp; rw [HPn.out] at h; exact h), hO⟩
          case round =>
            clear hO HR
            obtain ⟨d, a1, hda, hj, hR, hO⟩ := hrel
            have HR := Lib.hid hR; clear hR
            cases a1 with
            | zero =>
              rw [show (((0 : Nat) : Int) - 1) = -1 from rfl] at hj
              subst hj
              go_wp2_with fail
              go_roundw
              case rel => exact ⟨k + 1, by omega, by go_num, fun p hp => (HR.out p hp).congr (fun i _ => fl_row.symm), hO⟩
              case measure => (simp [intOf]; try omega)
            | succ a =>
              rw [show ((a + 1 : Nat) : Int) - 1 = (a : Int) from by omega] at hj
              subst hj
              have hal : a < n := by omega
              obtain ⟨wa, hwa⟩ : ∃ x, x = wr := ⟨_, rfl⟩
              subst hwa
              have hol := hO.size
              have hga : LO ≤ wa.heap.size := by omega
              have hRd : RdI wa lo hi (some ⟨b, off, none⟩) l := hq1.out hO (.inl (by omega))
              have a1 : (0 : Int) ≤ (a : Int) := by omega
              have a2 : (a : Int) < (n : Int) := by omega
              go_wp2_with fail
              obtain ⟨bo, hbo⟩ : ∃ x, x = wa.heap.size := ⟨_, rfl⟩
              have hboW : wa.heap.size ≤ bo := by omega
              have hboW2 : bo ≤ wa.heap.size := by omega
              obtain ⟨wz, hwz⟩ : ∃ x, x = wa.alloc (.cells #[.bool false, .int .i64 0, .slice none 0 0, .int .i64 0] 51) := ⟨_, rfl⟩
              have hEz : Ext wa wz := by rw [hwz]; exact Ext.alloc _ _
              have hbz : Blk wz bo 51 #[.bool false, .int .i64 0, .slice none 0 0, .int .i64 0] := by rw [hwz, hbo]; exact Blk.new _ _ _
              rw [← hwz, ← hbo]
              clear hwz hbo
              have y0 : ∀ x : XW wz, x.v.cell? ⟨w.heap.size, 0, none⟩ = _ := fun x => x.h.cell (hEz.cell (hO.cell X0 (.inl (by show w.heap.size < G + 1; omega))))
              have y1 : ∀ x : XW wz, x.v.cell? ⟨w.heap.size, 1, none⟩ = _ := fun x => x.h.cell (hEz.cell (hO.cell X1 (.inl (by show w.heap.size < G + 1; omega))))
              have y2 : ∀ x : XW wz, x.v.cell? ⟨w.heap.size, 2, none⟩ = _ := fun x => x.h.cell (hEz.cell (hO.cell X2 (.inl (by show w.heap.size < G + 1; omega))))
              have hcF : ¬ c = a := by omega
              have hcut := cutL_len l (i := a) (k := l.length) (Nat.le_refl _)
              rw [HLN.out] at hcut
              have HC := Lib.hid hcut
              have hRc := (hRd.ext hEz).cut a n
              have HCM : Hid (∀ x ∈ cutL l a n, 1 ≤ x ∧ x ≤ 600) := fun x hx => HPM.out x (cutL_mem hx)
              have hc1 : 1 ≤ (cutL l a n).length := by omega
              have hc2 : (cutL l a n).length ≤ 24 := by omega
              clear hcut
              cases hlo : canEnd (cutL l a n) r m
              · have HLO := Lib.hid hlo; clear hlo
                have HBB : Hid ((P.fin a && decide (k ≤ 1)) = false) := by show _ = _; rw [HFI.out, HLN.out, HLO.out]; rfl
                refine wp_region_xw (w0 := wz) (by kernel_rfl) (by kernel_rfl) (by repeat (first | exact Ext.refl _ | assumption | refine Ext.trans ?_ (Ext.alloc _ _) | refine Ext.trans ?_ (Ext.drew _) | refine Ext.trans ?_ (Ext.drewN _ _) | refine Ext.trans ?_ (by assumption))) ?_; (repeat (go_big_quiet_step ((go_at_call 43; exact XW.call (paLine_w _ (c - a) (n - a) (cutL l a n) r m _ _ _ true false rfl HLO.out HC.out hc1 hc2 HCM.out r1 r2 r3 r4 m1 m2 (hRc.ext (XW.h _))))))); refine wpQuiet_nil ?_; intro w4 hw'; obtain ⟨⟨_, hEw4⟩, hw''⟩ := hw'; subst hw''
                clear y0 y1 y2
                go_wp2_with fail
                have hOut : OutC w4 bo (bo + 1) (bw0 false) := ⟨none, 0, hbz.ext hEw4, Nat.le_refl _, Rd.nil (Nat.le_refl _)⟩
                have hEx : Ext wa w4 := hEz.trans hEw4
                have HTB : Hid (tb P L k a = dn P (tb P L 0) (bw0 false) a (n - 1 - a)) := by
                  show _ = _
                  rw [tb_step (by omega) (by omega) (by rw [HPn.out]; exact hal), HBB.out, show k - 1 = 0 by omega, HPn.out]
                --OUTL
                go_loopw [17] (fun j wr => ∃ (t J1 : Nat), t + J1 = n ∧ a + 1 ≤ J1 ∧ j = .int .i64 ((J1 : Int) - 1) ∧ OutC wr bo (bo + 1) (dn P (tb P L 0) (bw0 false) a t) ∧ Ext wa wr) (fun j _ => (intOf j + 1).toNat)
                case atStart => exact ⟨0, n, by omega, by omega, rfl, hOut, hEx⟩
                case round =>
                  clear hOut hEx
                  obtain ⟨t, J1, htJ, haJ, hj, hOut, hEx⟩ := hrel
                  have hol2 := hEx.size
                  by_cases hgt : a + 1 < J1
                  · obtain ⟨J, hJ⟩ : ∃ J, J1 = J + 1 := ⟨J1 - 1, by omega⟩
                    subst hJ
                    rw [show ((J + 1 : Nat) : Int) - 1 = (J : Int) from by omega] at hj
                    subst hj
                    have i1 : (a : Int) < (J : Int) := by omega
                    have i2 : (J : Int) < (n : Int) + 1 := by omega
                    obtain ⟨A3, c3, u0, u1, u2, u3, hc3, hR3⟩ := RowW.get ((HR.out 0 (by omega)).ext hEx) (i := J) (by omega)
                    have hv : fl P L k (a + 1) 0 J = tb P L 0 J := by unfold fl; rw [if_pos ⟨by omega, by rw [HPn.out]; omega⟩]
                    rw [hv] at u0 u1 u2 u3 hc3 hR3
                    obtain ⟨X, hX⟩ : ∃ X, X = tb P L 0 J := ⟨_, rfl⟩
                    rw [← hX] at u0 u1 u2 u3 hc3 hR3
                    have HX := Lib.hid hX
                    have uo := hEx.cell (hO.cell (HOUT.out 0 (by omega)) (.inl (by show G < G + 1; omega)))
                    have hgl4 : G + 1 + 0 < wr.heap.size := by omega
                    have hJt : P.n - 1 - t = J := by rw [HPn.out]; omega
                    have HSU : Hid (dn P (tb P L 0) (bw0 false) a (t + 1) = updW P a J (dn P (tb P L 0) (bw0 false) a t) X) := by show _ = _; rw [dn_succ, hJt, ← HX.out]
                    clear hv hX hJt
                    simp only [Nat.add_zero] at u0 u1 u2 u3 uo hgl4
                    have hgl5 : G < wr.heap.size := by omega
                    --CUT6
                    go_wp2_with (go_at_call 67; refine (most_val HM.out _).mono ?_; rintro e w' ⟨rfl, rfl⟩)
                    --CUT7
                    obtain ⟨wb, hwb⟩ : ∃ x, x = wr.alloc (.cells #[.bool X.1.isSome, .int .i64 (owCost X.1), .slice A3 (owList X.1).length c3, .int .i64 X.2] 51) := ⟨_, rfl⟩
                    have hEb : Ext wr wb := by rw [hwb]; exact Ext.alloc _ _
                    have hbb : Blk wb wr.heap.size 51 #[.bool X.1.isSome, .int .i64 (owCost X.1), .slice A3 (owList X.1).length c3, .int .i64 X.2] := by rw [hwb]; exact Blk.new _ _ _
                    rw [← hwb]
                    clear hwb u0 u1 u2 u3 uo
                    have z0 : ∀ x : XW wb, x.v.cell? ⟨w.heap.size, 0, none⟩ = _ := fun x => x.h.cell ((hEx.trans hEb).cell (hO.cell X0 (.inl (by show w.heap.size < G + 1; omega))))
                    have z1 : ∀ x : XW wb, x.v.cell? ⟨w.heap.size, 1, none⟩ = _ := fun x => x.h.cell ((hEx.trans hEb).cell (hO.cell X1 (.inl (by show w.heap.size < G + 1; omega))))
                    have z2 : ∀ x : XW wb, x.v.cell? ⟨w.heap.size, 2, none⟩ = _ := fun x => x.h.cell ((hEx.trans hEb).cell (hO.cell X2 (.inl (by show w.heap.size < G + 1; omega))))
                    have hcF : ¬ c = a := by omega
                    have haJ2 : a < J := by omega
                    have hcut := cutL_len l (i := a) (k := J) (by rw [HLN.out]; omega)
                    have HC := Lib.hid hcut
                    have hRc := (hRd.ext (hEx.trans hEb)).cut a J
                    have HCM : Hid (∀ x ∈ cutL l a J, 1 ≤ x ∧ x ≤ 600) := fun x hx => HPM.out x (cutL_mem hx)
                    have hc1 : 1 ≤ (cutL l a J).length := by omega
                    have hc2 : (cutL l a J).length ≤ 24 := by omega
                    have hzb := hEb.size
                    have hbl := hbb.lt
                    clear hcut
                    --CUT8
                    cases hlo : lineOk (cutL l a J) r m
                    · have HLO := Lib.hid hlo; clear hlo
                      have HS : Hid (dn P (tb P L 0) (bw0 false) a (t + 1) = dn P (tb P L 0) (bw0 false) a t) := by show _ = _; rw [HSU.out]; exact updW_no (by rw [HOK.out]; exact HLO.out)
                      refine wp_region_xw (w0 := wb) (by kernel_rfl) (by kernel_rfl) (by repeat (first | exact Ext.refl _ | assumption | refine Ext.trans ?_ (Ext.alloc _ _) | refine Ext.trans ?_ (Ext.drew _) | refine Ext.trans ?_ (Ext.drewN _ _) | refine Ext.trans ?_ (by assumption))) ?_; (repeat (go_big_quiet_step ((go_at_call 43; exact XW.call (paLine_v _ (c - a) (J - a) (cutL l a J) r m _ _ _ false false rfl HLO.out HC.out hc1 hc2 HCM.out r1 r2 r3 r4 m1 m2 (hRc.ext (XW.h _))))))); refine wpQuiet_nil ?_; intro w5 hw'; obtain ⟨⟨_, hEw5⟩, hw''⟩ := hw'; subst hw''
                      clear z0 z1 z2
                      --CUT9
                      go_wp2_with fail
                      --CUTa
                      go_roundw
                      case rel => exact ⟨t + 1, J, by omega, by omega, rfl, by rw [HS.out]; exact (hOut.ext hEb).ext hEw5, (hEx.trans hEb).trans hEw5⟩
                      case measure => (simp [intOf]; try omega)
                    · have HLO := Lib.hid hlo; clear hlo
                      --CUT1
                      have HOKJ : Hid (P.ok a J = true) := by show _ = _; rw [HOK.out]; exact HLO.out
                      have hLC : ∀ x : XW wb, _ := fun x => paLine_v (some ⟨b, off + a, none⟩) (c - a) (J - a) (cutL l a J) r m lo hi x.v false true rfl HLO.out HC.out hc1 hc2 HCM.out r1 r2 r3 r4 m1 m2 (hRc.ext (XW.h x))
                      obtain ⟨co, hco⟩ : ∃ co, co = lc (cutL l a J) r m := ⟨_, rfl⟩
                      rw [← hco] at hLC
                      have cc : P.co a J = co := by rw [hco]; exact HCO.out a J
                      have co0 := HC0.out a J
                      have co1 := HCD.out a J
                      rw [cc] at co0 co1
                      have HCC := Lib.hid cc
                      clear hco cc
                      refine wp_region_xw (w0 := wb) (by kernel_rfl) (by kernel_rfl) (by repeat (first | exact Ext.refl _ | assumption | refine Ext.trans ?_ (Ext.alloc _ _) | refine Ext.trans ?_ (Ext.drew _) | refine Ext.trans ?_ (Ext.drewN _ _) | refine Ext.trans ?_ (by assumption))) ?_; (repeat (go_big_quiet_step ((go_at_call 43; with_reducible exact XW.call (hLC _))))); refine wpQuiet_nil ?_; intro w5 hw'; obtain ⟨⟨_, hEw5⟩, hw''⟩ := hw'; subst hw''
                      clear z0 z1 z2 hLC
                      have hbb5 := hbb.ext hEw5
                      have hE35 : Ext wr w5 := hEb.trans hEw5
                      have hbl5 := hbb5.lt
                      have v0 := hbb5.cell (i := 0) rfl
                      cases hX1 : X.1 with
                      | none =>
                        have HS : Hid (dn P (tb P L 0) (bw0 false) a (t + 1) = dn P (tb P L 0) (bw0 false) a t) := by show _ = _; rw [HSU.out]; exact updW_none hX1
                        rw [hX1] at v0
                        simp only [Option.isSome_none] at v0
                        clear hX1
                        go_wp2_with fail
                        --CUTa
                        go_roundw
                        case rel => exact ⟨t + 1, J, by omega, by omega, rfl, by rw [HS.out]; exact (hOut.ext hEb).ext hEw5, (hEx.trans hEb).trans hEw5⟩
                        case measure => (simp [intOf]; try omega)
                      | some y =>
                        --CUT2
                        have hyb : 0 ≤ y.1 ∧ y.1 ≤ 2400000000 ∧ y.2.length ≤ 24 := by
                          have q0 : (tb P L 0 J).1 = some y := by rw [← HX.out]; exact hX1
                          have q1 := (HNN.out 0).2 J y q0
                          have q2 := (HUB.out 0).2 J y (by rw [HPn.out]; omega) q0
                          have q3 := HLB.out 0 J y (by rw [HPn.out]; omega) q0
                          rw [HPn.out] at q2 q3
                          exact ⟨q1, by omega, by omega⟩
                        obtain ⟨yb0, yb1, yb2⟩ := hyb
                        skip
                        rw [hX1] at v0 hbb5 hR3 hc3
                        simp only [Option.isSome_some] at v0 hbb5
                        rw [owCost_some, owList_some] at hbb5
                        rw [owList_some] at hR3 hc3
                        have v1 := hbb5.cell (i := 1) rfl
                        have v2 := hbb5.cell (i := 2) rfl
                        have v3 := hbb5.cell (i := 3) rfl
                        have HUPD : ∀ o : OW × Int, updW P a J o X = (updO P a J o.1 y, wrap64 (o.2 + X.2)) := fun o => updW_some HOKJ.out hX1
                        have HUPDH := Lib.hid HUPD
                        have HAN : Hid (A3 = none → y.2.length = 0) := fun e => by
                          rcases Nat.eq_zero_or_pos y.2.length with h | h
                          · exact h
                          · obtain ⟨_, _, _, _, e2, _⟩ := RdI.get hR3 (k := 0) h
                            rw [e] at e2; cases e2
                        obtain ⟨X2, hX2⟩ : ∃ x, x = X.2 := ⟨_, rfl⟩
                        rw [← hX2] at v3 hbb5
                        have HX2 := Lib.hid hX2
                        clear hX1 HUPD hX2
                        have hO5 := hOut.ext hE35
                        obtain ⟨O, hOO⟩ : ∃ O, O = dn P (tb P L 0) (bw0 false) a t := ⟨_, rfl⟩
                        rw [← hOO] at hO5 HSU
                        have hOz : ∀ z, O.1 = some z → 0 ≤ z.1 ∧ z.1 ≤ 2400000000 ∧ z.2.length ≤ 24 ∧ (z.2 = [] ∨ ∃ (j : Nat) (ys : List Int), z.2 = (j : Int) :: ys ∧ J < j) := by
                          intro z hz
                          rw [hOO] at hz
                          have q1 := nn_dn (HNN.out 0) (by rw [HPn.out]; omega) z hz
                          have q2 := ub_dn (HNN.out 0) (HUB.out 0) (by rw [HPn.out]; exact hal) (by rw [HPn.out]; omega) z hz
                          have q3 := ln_dn (HNN.out 0) (HLB.out 0) (by rw [HPn.out]; exact hal) (by rw [HPn.out]; omega) z hz
                          rw [HPn.out] at q2 q3
                          refine ⟨q1, by omega, by omega, ?_⟩
                          rcases q3.2 with h | ⟨j, ys, h, h2⟩
                          · exact .inl h
                          · exact .inr ⟨j, ys, h, by omega⟩
                        have HOZ := Lib.hid hOz
                        have HOO := Lib.hid hOO
                        clear hOO hOz
                        obtain ⟨A4, c4, hbo4, hc4, hR4⟩ := hO5
                        have hz5 : bo + 1 ≤ w5.heap.size := by have := hbo4.lt; omega
                        have hEa5 : Ext wa w5 := hEx.trans hE35
                        obtain ⟨O2, hO2⟩ : ∃ x, x = O.2 := ⟨_, rfl⟩
                        rw [← hO2] at hbo4
                        have HO2 := Lib.hid hO2
                        clear hO2
                        have k2 : IntKind.i64.wrap (co + y.1) = co + y.1 := IntWalk.i64_in _ (by omega)
                        --CUT3
                        cases hO1 : O.1 with
                        | none =>
                          rw [hO1] at hbo4 hc4 hR4
                          simp only [Option.isSome_none] at hbo4
                          have HS : Hid (dn P (tb P L 0) (bw0 false) a (t + 1) = (some (co + y.1, (J : Int) :: y.2), wrap64 (O2 + X2))) := by show _ = _; rw [HSU.out, HUPDH.out, hO1, updO_none, HCC.out, HO2.out, HX2.out]
                          clear hO1

                          go_wp2_with (at_builtin; refine wp_app _ w5 rfl (.tmp 121) (.tmp 123) 22 rfl 3 _ 1 8 Try.underlying22 intInfo0 rfl (by omega) _ 1 [.int .i64 (J : Int)] rfl (own_lit1 _ _ (Nat.le_refl _) (Ext.refl _)) (by repeat (first | exact Ext.refl _ | assumption | refine Ext.trans ?_ (Ext.alloc _ _) | refine Ext.trans ?_ (Ext.drew _) | refine Ext.trans ?_ (Ext.drewN _ _) | refine Ext.trans ?_ (by assumption))) _ _ _ y.2.length _ (y.2.map (Value.int .i64)) rfl (by simp) (Rd.toA (Rd.ext hR3 (hE35.trans (Ext.alloc _ _)))) (ints_one y.2) (by omega) HAN.out ?_; intro v6 w6 hown6 hE6 hg6 hat6; obtain ⟨A5, c5, rfl, hc5, hR5⟩ := next_of hown6 hz5; clear hown6 hg6 hat6; have hbo6 := hbo4.ext hE6; have hbr6 := hbb5.ext hE6; have o0 := hbo6.cell (i := 0) rfl; have o1 := hbo6.cell (i := 1) rfl; have o2 := hbo6.cell (i := 2) rfl; have o3 := hbo6.cell (i := 3) rfl; have f0 := hbo6.frozen 0; have f1 := hbo6.frozen 1; have f2 := hbo6.frozen 2; have f3 := hbo6.frozen 3; have v0 := hbr6.cell (i := 0) rfl; have v1 := hbr6.cell (i := 1) rfl; have v2 := hbr6.cell (i := 2) rfl; have v3 := hbr6.cell (i := 3) rfl; have hl6 := hE6.size)
                          have hEa6 := hEa5.trans hE6
                          --CUTn
                          go_roundw
                          case rel =>
                            --CUTm
                            refine ⟨t + 1, J, by omega, by omega, rfl, ?_, ?_⟩
                            · rw [HS.out]
                              have k : ∀ (x : World) (q : Nat) (u : Value), Out bo (bo + 1) w6 x → Out bo (bo + 1) w6 (x.setCell ⟨bo, q, none⟩ u) := fun x q u h => h.setCell (p := ⟨bo, q, none⟩) (.inl ⟨Nat.le_refl _, Nat.lt_succ_self _⟩) u
                              exact ⟨A5, c5, (((hbo6.set_ 1 _).set_ 2 _).set_ 0 _).set_ 3 _, hc5, Rd.wide (RdI.out hR5 (k _ _ _ (k _ _ _ (k _ _ _ (k _ _ _ (Out.refl _ _ _))))) (.inr (Nat.le_refl _))) (Nat.le_refl _) (by simp [World.setCell]) (Nat.le_refl _)⟩
                            · exact Ext.setCell (Ext.setCell (Ext.setCell (Ext.setCell hEa6 hboW _) hboW _) hboW _) hboW _
                          case measure => (simp [intOf]; try omega)
                        | some z =>
                          --CUT4
                          obtain ⟨zb0, zb1, zb2, hzs⟩ := HOZ.out z hO1
                          rw [hO1] at hbo4 hc4 hR4
                          simp only [Option.isSome_some] at hbo4
                          rw [owCost_some, owList_some] at hbo4
                          rw [owList_some] at hc4 hR4
                          by_cases hlt2 : co + y.1 < z.1
                          · have HS : Hid (dn P (tb P L 0) (bw0 false) a (t + 1) = (some (co + y.1, (J : Int) :: y.2), wrap64 (O2 + X2))) := by show _ = _; rw [HSU.out, HUPDH.out, hO1, updO_new (.inl (by rw [HCC.out]; exact hlt2)), HCC.out, HO2.out, HX2.out]
                            have p5 : decide (co + y.1 < z.1) = true := decide_eq_true hlt2
                            clear hO1 hzs
                            go_wp2_with (at_builtin; refine wp_app _ w5 rfl (.tmp 121) (.tmp 123) 22 rfl 3 _ 1 8 Try.underlying22 intInfo0 rfl (by omega) _ 1 [.int .i64 (J : Int)] rfl (own_lit1 _ _ (Nat.le_refl _) (Ext.refl _)) (by repeat (first | exact Ext.refl _ | assumption | refine Ext.trans ?_ (Ext.alloc _ _) | refine Ext.trans ?_ (Ext.drew _) | refine Ext.trans ?_ (Ext.drewN _ _) | refine Ext.trans ?_ (by assumption))) _ _ _ y.2.length _ (y.2.map (Value.int .i64)) rfl (by simp) (Rd.toA (Rd.ext hR3 (hE35.trans (Ext.alloc _ _)))) (ints_one y.2) (by omega) HAN.out ?_; intro v6 w6 hown6 hE6 hg6 hat6; obtain ⟨A5, c5, rfl, hc5, hR5⟩ := next_of hown6 hz5; clear hown6 hg6 hat6; have hbo6 := hbo4.ext hE6; have hbr6 := hbb5.ext hE6; have o0 := hbo6.cell (i := 0) rfl; have o1 := hbo6.cell (i := 1) rfl; have o2 := hbo6.cell (i := 2) rfl; have o3 := hbo6.cell (i := 3) rfl; have f0 := hbo6.frozen 0; have f1 := hbo6.frozen 1; have f2 := hbo6.frozen 2; have f3 := hbo6.frozen 3; have v0 := hbr6.cell (i := 0) rfl; have v1 := hbr6.cell (i := 1) rfl; have v2 := hbr6.cell (i := 2) rfl; have v3 := hbr6.cell (i := 3) rfl; have hl6 := hE6.size)
                            have hEa6 := hEa5.trans hE6
                            --CUTn
                            go_roundw
                            case rel =>
                              --CUTm
                              refine ⟨t + 1, J, by omega, by omega, rfl, ?_, ?_⟩
                              · rw [HS.out]
                                have k : ∀ (x : World) (q : Nat) (u : Value), Out bo (bo + 1) w6 x → Out bo (bo + 1) w6 (x.setCell ⟨bo, q, none⟩ u) := fun x q u h => h.setCell (p := ⟨bo, q, none⟩) (.inl ⟨Nat.le_refl _, Nat.lt_succ_self _⟩) u
                                exact ⟨A5, c5, (((hbo6.set_ 1 _).set_ 2 _).set_ 0 _).set_ 3 _, hc5, Rd.wide (RdI.out hR5 (k _ _ _ (k _ _ _ (k _ _ _ (k _ _ _ (Out.refl _ _ _))))) (.inr (Nat.le_refl _))) (Nat.le_refl _) (by simp [World.setCell]) (Nat.le_refl _)⟩
                              · exact Ext.setCell (Ext.setCell (Ext.setCell (Ext.setCell hEa6 hboW _) hboW _) hboW _) hboW _
                            case measure => (simp [intOf]; try omega)
                          · have p5 : decide (co + y.1 < z.1) = false := decide_eq_false hlt2
                            by_cases heq : co + y.1 = z.1
                            · have p6 : (co + y.1 == z.1) = true := by simpa using heq
                              rcases hzs with hz0 | ⟨jj, ys, hz0, hJj⟩
                              · have HS : Hid (dn P (tb P L 0) (bw0 false) a (t + 1) = (some z, wrap64 (O2 + X2))) := by show _ = _; rw [HSU.out, HUPDH.out, hO1, updO_old (by rw [HCC.out, hz0]; rintro (h | h); exact hlt2 h; exact h.2 rfl), HO2.out, HX2.out]
                                rw [hz0] at hbo4 hc4 hR4
                                simp only [List.length_nil] at hbo4
                                have HZ0 := Lib.hid hz0
                                clear hO1 heq hz0
                                go_wp2_with (first | (at_builtin; refine wp_app _ w5 rfl (.tmp 121) (.tmp 123) 22 rfl 3 _ 1 8 Try.underlying22 intInfo0 rfl (by omega) _ 1 [.int .i64 (J : Int)] rfl (own_lit1 _ _ (Nat.le_refl _) (Ext.refl _)) (by repeat (first | exact Ext.refl _ | assumption | refine Ext.trans ?_ (Ext.alloc _ _) | refine Ext.trans ?_ (Ext.drew _) | refine Ext.trans ?_ (Ext.drewN _ _) | refine Ext.trans ?_ (by assumption))) _ _ _ y.2.length _ (y.2.map (Value.int .i64)) rfl (by simp) (Rd.toA (Rd.ext hR3 (hE35.trans (Ext.alloc _ _)))) (ints_one y.2) (by omega) HAN.out ?_; intro v6 w6 hown6 hE6 hg6 hat6; obtain ⟨A5, c5, rfl, hc5, hR5⟩ := next_of hown6 hz5; clear hown6 hg6 hat6; have hbo6 := hbo4.ext hE6; have hbr6 := hbb5.ext hE6; have o0 := hbo6.cell (i := 0) rfl; have o1 := hbo6.cell (i := 1) rfl; have o2 := hbo6.cell (i := 2) rfl; have o3 := hbo6.cell (i := 3) rfl; have f0 := hbo6.frozen 0; have f1 := hbo6.frozen 1; have f2 := hbo6.frozen 2; have f3 := hbo6.frozen 3; have v0 := hbr6.cell (i := 0) rfl; have v1 := hbr6.cell (i := 1) rfl; have v2 := hbr6.cell (i := 2) rfl; have v3 := hbr6.cell (i := 3) rfl; have hl6 := hE6.size) | (go_at_call 68; refine (tyLess_nil A5 A4 c5 c4 (y.2.length + 1) _ (by omega)).mono ?_; rintro e w7 ⟨rfl, hE7⟩; have hbo7 := hbo6.ext hE7; have hbr7 := hbr6.ext hE7; have o0 := hbo7.cell (i := 0) rfl; have o3 := hbo7.cell (i := 3) rfl; have f0 := hbo7.frozen 0; have f3 := hbo7.frozen 3; have v3 := hbr7.cell (i := 3) rfl))
                                have hEa6 := (hEa5.trans hE6).trans hE7
                                go_roundw
                                case rel =>
                                  refine ⟨t + 1, J, by omega, by omega, rfl, ?_, ?_⟩
                                  · rw [HS.out]
                                    have k : ∀ (x : World) (q : Nat) (u : Value), Out bo (bo + 1) w7 x → Out bo (bo + 1) w7 (x.setCell ⟨bo, q, none⟩ u) := fun x q u h => h.setCell (p := ⟨bo, q, none⟩) (.inl ⟨Nat.le_refl _, Nat.lt_succ_self _⟩) u
                                    show OutC _ _ _ (some z, _)
                                    refine ⟨A4, c4, ?_, ?_, ?_⟩
                                    · rw [owList_some, HZ0.out]; exact (hbo7.set_ 0 _).set_ 3 _
                                    · rw [owList_some, HZ0.out]; exact hc4
                                    · rw [owList_some, HZ0.out]; exact Rd.nil (Nat.le_refl _)
                                  · exact Ext.setCell (Ext.setCell hEa6 hboW _) hboW _
                                case measure => (simp [intOf]; try omega)
                              · have HS : Hid (dn P (tb P L 0) (bw0 false) a (t + 1) = (some (co + y.1, (J : Int) :: y.2), wrap64 (O2 + X2))) := by show _ = _; rw [HSU.out, HUPDH.out, hO1, updO_new (.inr ⟨by rw [HCC.out]; exact heq, by rw [hz0]; exact List.cons_ne_nil _ _⟩), HCC.out, HO2.out, HX2.out]
                                rw [hz0] at hbo4 hc4 hR4 zb2
                                have hJj2 : (J : Int) < (jj : Int) := by omega
                                rw [List.length_cons] at hbo4 zb2
                                clear hO1 heq hz0
                                go_wp2_with (first | (at_builtin; refine wp_app _ w5 rfl (.tmp 121) (.tmp 123) 22 rfl 3 _ 1 8 Try.underlying22 intInfo0 rfl (by omega) _ 1 [.int .i64 (J : Int)] rfl (own_lit1 _ _ (Nat.le_refl _) (Ext.refl _)) (by repeat (first | exact Ext.refl _ | assumption | refine Ext.trans ?_ (Ext.alloc _ _) | refine Ext.trans ?_ (Ext.drew _) | refine Ext.trans ?_ (Ext.drewN _ _) | refine Ext.trans ?_ (by assumption))) _ _ _ y.2.length _ (y.2.map (Value.int .i64)) rfl (by simp) (Rd.toA (Rd.ext hR3 (hE35.trans (Ext.alloc _ _)))) (ints_one y.2) (by omega) HAN.out ?_; intro v6 w6 hown6 hE6 hg6 hat6; obtain ⟨A5, c5, rfl, hc5, hR5⟩ := next_of hown6 hz5; clear hown6 hg6 hat6; have hbo6 := hbo4.ext hE6; have hbr6 := hbb5.ext hE6; have o0 := hbo6.cell (i := 0) rfl; have o1 := hbo6.cell (i := 1) rfl; have o2 := hbo6.cell (i := 2) rfl; have o3 := hbo6.cell (i := 3) rfl; have f0 := hbo6.frozen 0; have f1 := hbo6.frozen 1; have f2 := hbo6.frozen 2; have f3 := hbo6.frozen 3; have v0 := hbr6.cell (i := 0) rfl; have v1 := hbr6.cell (i := 1) rfl; have v2 := hbr6.cell (i := 2) rfl; have v3 := hbr6.cell (i := 3) rfl; have hl6 := hE6.size) | (go_at_call 68; refine (tyLess_less A5 A4 c5 c4 (y.2.length + 1) (ys.length + 1) (J : Int) (jj : Int) y.2 ys _ _ _ _ _ rfl rfl (by omega) (by omega) hJj2 hR5 (RdI.ext hR4 hE6)).mono ?_; rintro e w7 ⟨rfl, hE7⟩; replace hbo6 := hbo6.ext hE7; have hbr7 := hbr6.ext hE7; replace hR5 := RdI.ext6 hR5 hE7; have o0 := hbo6.cell (i := 0) rfl; have o1 := hbo6.cell (i := 1) rfl; have o2 := hbo6.cell (i := 2) rfl; have o3 := hbo6.cell (i := 3) rfl; have f0 := hbo6.frozen 0; have f1 := hbo6.frozen 1; have f2 := hbo6.frozen 2; have f3 := hbo6.frozen 3; have v1 := hbr7.cell (i := 1) rfl; have v3 := hbr7.cell (i := 3) rfl))
                                have hEa6 := (hEa5.trans hE6).trans hE7
                                --CUTn
                                go_roundw
                                case rel =>
                                  --CUTm
                                  refine ⟨t + 1, J, by omega, by omega, rfl, ?_, ?_⟩
                                  · rw [HS.out]
                                    have k : ∀ (x : World) (q : Nat) (u : Value), Out bo (bo + 1) w7 x → Out bo (bo + 1) w7 (x.setCell ⟨bo, q, none⟩ u) := fun x q u h => h.setCell (p := ⟨bo, q, none⟩) (.inl ⟨Nat.le_refl _, Nat.lt_succ_self _⟩) u
                                    exact ⟨A5, c5, (((hbo6.set_ 1 _).set_ 2 _).set_ 0 _).set_ 3 _, hc5, Rd.wide (RdI.out hR5 (k _ _ _ (k _ _ _ (k _ _ _ (k _ _ _ (Out.refl _ _ _))))) (.inr (Nat.le_refl _))) (Nat.le_refl _) (by simp [World.setCell]) (Nat.le_refl _)⟩
                                  · exact Ext.setCell (Ext.setCell (Ext.setCell (Ext.setCell hEa6 hboW _) hboW _) hboW _) hboW _
                                case measure => (simp [intOf]; try omega)
                            · have p6 : (co + y.1 == z.1) = false := by simpa using heq
                              have HS : Hid (dn P (tb P L 0) (bw0 false) a (t + 1) = (some z, wrap64 (O2 + X2))) := by show _ = _; rw [HSU.out, HUPDH.out, hO1, updO_old (by rw [HCC.out]; rintro (h | h); exact hlt2 h; exact heq h.1), HO2.out, HX2.out]
                              clear hO1 heq hzs
                              go_wp2_with (at_builtin; refine wp_app _ w5 rfl (.tmp 121) (.tmp 123) 22 rfl 3 _ 1 8 Try.underlying22 intInfo0 rfl (by omega) _ 1 [.int .i64 (J : Int)] rfl (own_lit1 _ _ (Nat.le_refl _) (Ext.refl _)) (by repeat (first | exact Ext.refl _ | assumption | refine Ext.trans ?_ (Ext.alloc _ _) | refine Ext.trans ?_ (Ext.drew _) | refine Ext.trans ?_ (Ext.drewN _ _) | refine Ext.trans ?_ (by assumption))) _ _ _ y.2.length _ (y.2.map (Value.int .i64)) rfl (by simp) (Rd.toA (Rd.ext hR3 (hE35.trans (Ext.alloc _ _)))) (ints_one y.2) (by omega) HAN.out ?_; intro v6 w6 hown6 hE6 hg6 hat6; obtain ⟨A5, c5, rfl, hc5, hR5⟩ := next_of hown6 hz5; clear hown6 hg6 hat6; have hbo6 := hbo4.ext hE6; have hbr6 := hbb5.ext hE6; have o0 := hbo6.cell (i := 0) rfl; have o1 := hbo6.cell (i := 1) rfl; have o2 := hbo6.cell (i := 2) rfl; have o3 := hbo6.cell (i := 3) rfl; have f0 := hbo6.frozen 0; have f1 := hbo6.frozen 1; have f2 := hbo6.frozen 2; have f3 := hbo6.frozen 3; have v0 := hbr6.cell (i := 0) rfl; have v1 := hbr6.cell (i := 1) rfl; have v2 := hbr6.cell (i := 2) rfl; have v3 := hbr6.cell (i := 3) rfl; have hl6 := hE6.size)
                              have hEa6 := hEa5.trans hE6
                              go_roundw
                              case rel =>
                                refine ⟨t + 1, J, by omega, by omega, rfl, ?_, ?_⟩
                                · rw [HS.out]
                                  have k : ∀ (x : World) (q : Nat) (u : Value), Out bo (bo + 1) w6 x → Out bo (bo + 1) w6 (x.setCell ⟨bo, q, none⟩ u) := fun x q u h => h.setCell (p := ⟨bo, q, none⟩) (.inl ⟨Nat.le_refl _, Nat.lt_succ_self _⟩) u
                                  exact ⟨A4, c4, (hbo6.set_ 0 _).set_ 3 _, hc4, Rd.wide (RdI.out (RdI.ext6 hR4 hE6) (k _ _ _ (k _ _ _ (Out.refl _ _ _))) (.inr (Nat.le_refl _))) (Nat.le_refl _) (by simp [World.setCell]) (Nat.le_refl _)⟩
                                · exact Ext.setCell (Ext.setCell hEa6 hboW _) hboW _
                              case measure => (simp [intOf]; try omega)
                  · have hJa : J1 = a + 1 := by omega
                    subst hJa
                    rw [show ((a + 1 : Nat) : Int) - 1 = (a : Int) from by omega] at hj
                    subst hj
                    have htt : t = n - 1 - a := by omega
                    rw [htt, ← HTB.out] at hOut
                    clear htt
                    obtain ⟨X, hX⟩ : ∃ X, X = tb P L k a := ⟨_, rfl⟩
                    rw [← hX] at hOut
                    have HX := Lib.hid hX
                    clear hX
                    obtain ⟨A4, c4, hbo4, hc4, hR4⟩ := hOut
                    have hRk := (HR.out k (by omega)).ext hEx
                    obtain ⟨A3, c3, u0, u1, u2, u3, _, _⟩ := RowW.get hRk (i := a) (by omega)
                    have g0 := hRk.frozen (a * 4)
                    have g1 := hRk.frozen (a * 4 + 1)
                    have g2 := hRk.frozen (a * 4 + 2)
                    have g3 := hRk.frozen (a * 4 + 3)
                    have uo := hEx.cell (hO.cell (HOUT.out k (by omega)) (.inl (by show G < G + 1; omega)))
                    have hgl4 : G + 1 + k < wr.heap.size := by omega
                    have o0 := hbo4.cell (i := 0) rfl
                    have o1 := hbo4.cell (i := 1) rfl
                    have o2 := hbo4.cell (i := 2) rfl
                    have o3 := hbo4.cell (i := 3) rfl
                    have i3 : (a : Int) < (n : Int) + 1 := by omega
                    have hne : ¬ bo = G + 1 + k := by omega
                    have hne2 : ¬ G + 1 + k = bo := by omega
                    go_wp2_with fail
                    --CUT5
                    go_region
                    obtain ⟨w9, hw9⟩ : ∃ x, x = (((((wr.setCell ⟨G + 1 + k, a * 4, none⟩ (.bool X.1.isSome)).setCell ⟨G + 1 + k, a * 4 + 1, none⟩ (.int .i64 (owCost X.1))).setCell ⟨G + 1 + k, a * 4 + 2, none⟩ (.slice A4 (owList X.1).length c4)).setCell ⟨G + 1 + k, a * 4 + 3, none⟩ (.int .i64 X.2))).drew := ⟨_, rfl⟩
                    rw [← hw9]
                    have hk9 : RowW w9 (G + 1 + k) 51 (n + 1) LO (fun j => if j = a then X else fl P L k (a + 1) k j) := by
                      rw [hw9]; exact (hRk.set_ (by omega) (by omega) X hc4 (Rd.wide hR4 (by omega) (Nat.le_refl _) (Nat.le_refl _))).ext (Ext.drew _)
                    have hp9 : ∀ p, p < L + 1 → p ≠ k → RowW w9 (G + 1 + p) 51 (n + 1) LO (fl P L k (a + 1) p) := by
                      intro p hp hpk
                      have h := (HR.out p hp).ext hEx
                      have o : ∀ (x : World) (q : Nat) (u : Value), RowW x (G + 1 + p) 51 (n + 1) LO (fl P L k (a + 1) p) → RowW (x.setCell ⟨G + 1 + k, q, none⟩ u) (G + 1 + p) 51 (n + 1) LO (fl P L k (a + 1) p) := fun x q u h => h.other (by show G + 1 + p ≠ G + 1 + k; omega) (by show G + 1 + k < LO; omega) u
                      rw [hw9]; exact (o _ _ _ (o _ _ _ (o _ _ _ (o _ _ _ h)))).ext (Ext.drew _)
                    have hO9 : Out (G + 1) LO w1 w9 := by
                      have o : ∀ (x : World) (q : Nat) (u : Value), Out (G + 1) LO w1 x → Out (G + 1) LO w1 (x.setCell ⟨G + 1 + k, q, none⟩ u) := fun x q u h => h.setCell (p := ⟨G + 1 + k, q, none⟩) (.inl ⟨by show G + 1 ≤ G + 1 + k; omega, by show G + 1 + k < LO; omega⟩) u
                      rw [hw9]; exact (o _ _ _ (o _ _ _ (o _ _ _ (o _ _ _ (hO.trans (Out.of_ext hEx)))))).trans (Out.of_ext (Ext.drew _))
                    clear hw9 u0 u1 u2 u3 g0 g1 g2 g3 uo o0 o1 o2 o3 hbo4 hRk hR4
                    go_wp2_with fail
                    go_roundw
                    case rel =>
                      refine ⟨d + 1, a, by omega, rfl, fun p hp => ?_, hO9⟩
                      by_cases e : p = k
                      · subst e
                        exact hk9.congr (fun i _ => by rw [HX.out]; exact (fl_set (by rw [HPn.out]; exact hal)).symm)
                      · exact (hp9 p hp e).congr (fun i _ => (fl_other e).symm)
                    case measure => simp [intOf]
              · have HLO := Lib.hid hlo; clear hlo
                have hk1 : k ≤ 1 := by omega
                have kk1 : (k : Int) ≤ 1 := by omega
                have HBB : Hid ((P.fin a && decide (k ≤ 1)) = true) := by show _ = _; rw [HFI.out, HLN.out, HLO.out, decide_eq_true hk1]; rfl
                refine wp_region_xw (w0 := wz) (by kernel_rfl) (by kernel_rfl) (by repeat (first | exact Ext.refl _ | assumption | refine Ext.trans ?_ (Ext.alloc _ _) | refine Ext.trans ?_ (Ext.drew _) | refine Ext.trans ?_ (Ext.drewN _ _) | refine Ext.trans ?_ (by assumption))) ?_; (repeat (go_big_quiet_step ((go_at_call 43; exact XW.call (paLine_w _ (c - a) (n - a) (cutL l a n) r m _ _ _ true true rfl HLO.out HC.out hc1 hc2 HCM.out r1 r2 r3 r4 m1 m2 (hRc.ext (XW.h _))))))); refine wpQuiet_nil ?_; intro w4 hw'; obtain ⟨⟨_, hEw4⟩, hw''⟩ := hw'; subst hw''
                clear y0 y1 y2
                have hb4 := hbz.ext hEw4
                have o0 := hb4.cell (i := 0) rfl
                have o1 := hb4.cell (i := 1) rfl
                have o2 := hb4.cell (i := 2) rfl
                have o3 := hb4.cell (i := 3) rfl
                have f0 := hb4.frozen 0
                have f1 := hb4.frozen 1
                have f2 := hb4.frozen 2
                have f3 := hb4.frozen 3
                go_wp2_with fail
                obtain ⟨w6, hw6⟩ : ∃ x, x = (((w4.setCell ⟨bo, 0, none⟩ (.bool true)).setCell ⟨bo, 1, none⟩ (.int .i64 0)).setCell ⟨bo, 2, none⟩ (.slice none 0 0)).setCell ⟨bo, 3, none⟩ (.int .i64 1) := ⟨_, rfl⟩
                rw [← hw6]
                have hOut : OutC w6 bo (bo + 1) (bw0 true) := by
                  rw [hw6]; exact ⟨none, 0, (((hb4.set_ 0 _).set_ 1 _).set_ 2 _).set_ 3 _, Nat.le_refl _, Rd.nil (Nat.le_refl _)⟩
                have hEx : Ext wa w6 := by rw [hw6]; exact Ext.setCell (Ext.setCell (Ext.setCell (Ext.setCell (hEz.trans hEw4) hboW _) hboW _) hboW _) hboW _
                clear hw6 o0 o1 o2 o3 f0 f1 f2 f3 hb4
                have HTB : Hid (tb P L k a = dn P (tb P L 0) (bw0 true) a (n - 1 - a)) := by
                  show _ = _
                  rw [tb_step (by omega) (by omega) (by rw [HPn.out]; exact hal), HBB.out, show k - 1 = 0 by omega, HPn.out]
                --OUTL
                go_loopw [17] (fun j wr => ∃ (t J1 : Nat), t + J1 = n ∧ a + 1 ≤ J1 ∧ j = .int .i64 ((J1 : Int) - 1) ∧ OutC wr bo (bo + 1) (dn P (tb P L 0) (bw0 true) a t) ∧ Ext wa wr) (fun j _ => (intOf j + 1).toNat)
                case atStart => exact ⟨0, n, by omega, by omega, rfl, hOut, hEx⟩
                case round =>
                  clear hOut hEx
                  obtain ⟨t, J1, htJ, haJ, hj, hOut, hEx⟩ := hrel
                  have hol2 := hEx.size
                  by_cases hgt : a + 1 < J1
                  · obtain ⟨J, hJ⟩ : ∃ J, J1 = J + 1 := ⟨J1 - 1, by omega⟩
                    subst hJ
                    rw [show ((J + 1 : Nat) : Int) - 1 = (J : Int) from by omega] at hj
                    subst hj
                    have i1 : (a : Int) < (J : Int) := by omega
                    have i2 : (J : Int) < (n : Int) + 1 := by omega
                    obtain ⟨A3, c3, u0, u1, u2, u3, hc3, hR3⟩ := RowW.get ((HR.out 0 (by omega)).ext hEx) (i := J) (by omega)
                    have hv : fl P L k (a + 1) 0 J = tb P L 0 J := by unfold fl; rw [if_pos ⟨by omega, by rw [HPn.out]; omega⟩]
                    rw [hv] at u0 u1 u2 u3 hc3 hR3
                    obtain ⟨X, hX⟩ : ∃ X, X = tb P L 0 J := ⟨_, rfl⟩
                    rw [← hX] at u0 u1 u2 u3 hc3 hR3
                    have HX := Lib.hid hX
                    have uo := hEx.cell (hO.cell (HOUT.out 0 (by omega)) (.inl (by show G < G + 1; omega)))
                    have hgl4 : G + 1 + 0 < wr.heap.size := by omega
                    have hJt : P.n - 1 - t = J := by rw [HPn.out]; omega
                    have HSU : Hid (dn P (tb P L 0) (bw0 true) a (t + 1) = updW P a J (dn P (tb P L 0) (bw0 true) a t) X) := by show _ = _; rw [dn_succ, hJt, ← HX.out]
                    clear hv hX hJt
                    simp only [Nat.add_zero] at u0 u1 u2 u3 uo hgl4
                    have hgl5 : G < wr.heap.size := by omega
                    --CUT6
                    go_wp2_with (go_at_call 67; refine (most_val HM.out _).mono ?_; rintro e w' ⟨rfl, rfl⟩)
                    --CUT7
                    obtain ⟨wb, hwb⟩ : ∃ x, x = wr.alloc (.cells #[.bool X.1.isSome, .int .i64 (owCost X.1), .slice A3 (owList X.1).length c3, .int .i64 X.2] 51) := ⟨_, rfl⟩
                    have hEb : Ext wr wb := by rw [hwb]; exact Ext.alloc _ _
                    have hbb : Blk wb wr.heap.size 51 #[.bool X.1.isSome, .int .i64 (owCost X.1), .slice A3 (owList X.1).length c3, .int .i64 X.2] := by rw [hwb]; exact Blk.new _ _ _
                    rw [← hwb]
                    clear hwb u0 u1 u2 u3 uo
                    have z0 : ∀ x : XW wb, x.v.cell? ⟨w.heap.size, 0, none⟩ = _ := fun x => x.h.cell ((hEx.trans hEb).cell (hO.cell X0 (.inl (by show w.heap.size < G + 1; omega))))
                    have z1 : ∀ x : XW wb, x.v.cell? ⟨w.heap.size, 1, none⟩ = _ := fun x => x.h.cell ((hEx.trans hEb).cell (hO.cell X1 (.inl (by show w.heap.size < G + 1; omega))))
                    have z2 : ∀ x : XW wb, x.v.cell? ⟨w.heap.size, 2, none⟩ = _ := fun x => x.h.cell ((hEx.trans hEb).cell (hO.cell X2 (.inl (by show w.heap.size < G + 1; omega))))
                    have hcF : ¬ c = a := by omega
                    have haJ2 : a < J := by omega
                    have hcut := cutL_len l (i := a) (k := J) (by rw [HLN.out]; omega)
                    have HC := Lib.hid hcut
                    have hRc := (hRd.ext (hEx.trans hEb)).cut a J
                    have HCM : Hid (∀ x ∈ cutL l a J, 1 ≤ x ∧ x ≤ 600) := fun x hx => HPM.out x (cutL_mem hx)
                    have hc1 : 1 ≤ (cutL l a J).length := by omega
                    have hc2 : (cutL l a J).length ≤ 24 := by omega
                    have hzb := hEb.size
                    have hbl := hbb.lt
                    clear hcut
                    --CUT8
                    cases hlo : lineOk (cutL l a J) r m
                    · have HLO := Lib.hid hlo; clear hlo
                      have HS : Hid (dn P (tb P L 0) (bw0 true) a (t + 1) = dn P (tb P L 0) (bw0 true) a t) := by show _ = _; rw [HSU.out]; exact updW_no (by rw [HOK.out]; exact HLO.out)
                      refine wp_region_xw (w0 := wb) (by kernel_rfl) (by kernel_rfl) (by repeat (first | exact Ext.refl _ | assumption | refine Ext.trans ?_ (Ext.alloc _ _) | refine Ext.trans ?_ (Ext.drew _) | refine Ext.trans ?_ (Ext.drewN _ _) | refine Ext.trans ?_ (by assumption))) ?_; (repeat (go_big_quiet_step ((go_at_call 43; exact XW.call (paLine_v _ (c - a) (J - a) (cutL l a J) r m _ _ _ false false rfl HLO.out HC.out hc1 hc2 HCM.out r1 r2 r3 r4 m1 m2 (hRc.ext (XW.h _))))))); refine wpQuiet_nil ?_; intro w5 hw'; obtain ⟨⟨_, hEw5⟩, hw''⟩ := hw'; subst hw''
                      clear z0 z1 z2
                      --CUT9
                      go_wp2_with fail
                      --CUTa
                      go_roundw
                      case rel => exact ⟨t + 1, J, by omega, by omega, rfl, by rw [HS.out]; exact (hOut.ext hEb).ext hEw5, (hEx.trans hEb).trans hEw5⟩
                      case measure => (simp [intOf]; try omega)
                    · have HLO := Lib.hid hlo; clear hlo
                      --CUT1
                      have HOKJ : Hid (P.ok a J = true) := by show _ = _; rw [HOK.out]; exact HLO.out
                      have hLC : ∀ x : XW wb, _ := fun x => paLine_v (some ⟨b, off + a, none⟩) (c - a) (J - a) (cutL l a J) r m lo hi x.v false true rfl HLO.out HC.out hc1 hc2 HCM.out r1 r2 r3 r4 m1 m2 (hRc.ext (XW.h x))
                      obtain ⟨co, hco⟩ : ∃ co, co = lc (cutL l a J) r m := ⟨_, rfl⟩
                      rw [← hco] at hLC
                      have cc : P.co a J = co := by rw [hco]; exact HCO.out a J
                      have co0 := HC0.out a J
                      have co1 := HCD.out a J
                      rw [cc] at co0 co1
                      have HCC := Lib.hid cc
                      clear hco cc
                      refine wp_region_xw (w0 := wb) (by kernel_rfl) (by kernel_rfl) (by repeat (first | exact Ext.refl _ | assumption | refine Ext.trans ?_ (Ext.alloc _ _) | refine Ext.trans ?_ (Ext.drew _) | refine Ext.trans ?_ (Ext.drewN _ _) | refine Ext.trans ?_ (by assumption))) ?_; (repeat (go_big_quiet_step ((go_at_call 43; with_reducible exact XW.call (hLC _))))); refine wpQuiet_nil ?_; intro w5 hw'; obtain ⟨⟨_, hEw5⟩, hw''⟩ := hw'; subst hw''
                      clear z0 z1 z2 hLC
                      have hbb5 := hbb.ext hEw5
                      have hE35 : Ext wr w5 := hEb.trans hEw5
                      have hbl5 := hbb5.lt
                      have v0 := hbb5.cell (i := 0) rfl
                      cases hX1 : X.1 with
                      | none =>
                        have HS : Hid (dn P (tb P L 0) (bw0 true) a (t + 1) = dn P (tb P L 0) (bw0 true) a t) := by show _ = _; rw [HSU.out]; exact updW_none hX1
                        rw [hX1] at v0
                        simp only [Option.isSome_none] at v0
                        clear hX1
                        go_wp2_with fail
                        --CUTa
                        go_roundw
                        case rel => exact ⟨t + 1, J, by omega, by omega, rfl, by rw [HS.out]; exact (hOut.ext hEb).ext hEw5, (hEx.trans hEb).trans hEw5⟩
                        case measure => (simp [intOf]; try omega)
                      | some y =>
                        --CUT2
                        have hyb : 0 ≤ y.1 ∧ y.1 ≤ 2400000000 ∧ y.2.length ≤ 24 := by
                          have q0 : (tb P L 0 J).1 = some y := by rw [← HX.out]; exact hX1
                          have q1 := (HNN.out 0).2 J y q0
                          have q2 := (HUB.out 0).2 J y (by rw [HPn.out]; omega) q0
                          have q3 := HLB.out 0 J y (by rw [HPn.out]; omega) q0
                          rw [HPn.out] at q2 q3
                          exact ⟨q1, by omega, by omega⟩
                        obtain ⟨yb0, yb1, yb2⟩ := hyb
                        skip
                        rw [hX1] at v0 hbb5 hR3 hc3
                        simp only [Option.isSome_some] at v0 hbb5
                        rw [owCost_some, owList_some] at hbb5
                        rw [owList_some] at hR3 hc3
                        have v1 := hbb5.cell (i := 1) rfl
                        have v2 := hbb5.cell (i := 2) rfl
                        have v3 := hbb5.cell (i := 3) rfl
                        have HUPD : ∀ o : OW × Int, updW P a J o X = (updO P a J o.1 y, wrap64 (o.2 + X.2)) := fun o => updW_some HOKJ.out hX1
                        have HUPDH := Lib.hid HUPD
                        have HAN : Hid (A3 = none → y.2.length = 0) := fun e => by
                          rcases Nat.eq_zero_or_pos y.2.length with h | h
                          · exact h
                          · obtain ⟨_, _, _, _, e2, _⟩ := RdI.get hR3 (k := 0) h
                            rw [e] at e2; cases e2
                        obtain ⟨X2, hX2⟩ : ∃ x, x = X.2 := ⟨_, rfl⟩
                        rw [← hX2] at v3 hbb5
                        have HX2 := Lib.hid hX2
                        clear hX1 HUPD hX2
                        have hO5 := hOut.ext hE35
                        obtain ⟨O, hOO⟩ : ∃ O, O = dn P (tb P L 0) (bw0 true) a t := ⟨_, rfl⟩
                        rw [← hOO] at hO5 HSU
                        have hOz : ∀ z, O.1 = some z → 0 ≤ z.1 ∧ z.1 ≤ 2400000000 ∧ z.2.length ≤ 24 ∧ (z.2 = [] ∨ ∃ (j : Nat) (ys : List Int), z.2 = (j : Int) :: ys ∧ J < j) := by
                          intro z hz
                          rw [hOO] at hz
                          have q1 := nn_dn (HNN.out 0) (by rw [HPn.out]; omega) z hz
                          have q2 := ub_dn (HNN.out 0) (HUB.out 0) (by rw [HPn.out]; exact hal) (by rw [HPn.out]; omega) z hz
                          have q3 := ln_dn (HNN.out 0) (HLB.out 0) (by rw [HPn.out]; exact hal) (by rw [HPn.out]; omega) z hz
                          rw [HPn.out] at q2 q3
                          refine ⟨q1, by omega, by omega, ?_⟩
                          rcases q3.2 with h | ⟨j, ys, h, h2⟩
                          · exact .inl h
                          · exact .inr ⟨j, ys, h, by omega⟩
                        have HOZ := Lib.hid hOz
                        have HOO := Lib.hid hOO
                        clear hOO hOz
                        obtain ⟨A4, c4, hbo4, hc4, hR4⟩ := hO5
                        have hz5 : bo + 1 ≤ w5.heap.size := by have := hbo4.lt; omega
                        have hEa5 : Ext wa w5 := hEx.trans hE35
                        obtain ⟨O2, hO2⟩ : ∃ x, x = O.2 := ⟨_, rfl⟩
                        rw [← hO2] at hbo4
                        have HO2 := Lib.hid hO2
                        clear hO2
                        have k2 : IntKind.i64.wrap (co + y.1) = co + y.1 := IntWalk.i64_in _ (by omega)
                        --CUT3
                        cases hO1 : O.1 with
                        | none =>
                          rw [hO1] at hbo4 hc4 hR4
                          simp only [Option.isSome_none] at hbo4
                          have HS : Hid (dn P (tb P L 0) (bw0 true) a (t + 1) = (some (co + y.1, (J : Int) :: y.2), wrap64 (O2 + X2))) := by show _ = _; rw [HSU.out, HUPDH.out, hO1, updO_none, HCC.out, HO2.out, HX2.out]
                          clear hO1

                          go_wp2_with (at_builtin; refine wp_app _ w5 rfl (.tmp 121) (.tmp 123) 22 rfl 3 _ 1 8 Try.underlying22 intInfo0 rfl (by omega) _ 1 [.int .i64 (J : Int)] rfl (own_lit1 _ _ (Nat.le_refl _) (Ext.refl _)) (by repeat (first | exact Ext.refl _ | assumption | refine Ext.trans ?_ (Ext.alloc _ _) | refine Ext.trans ?_ (Ext.drew _) | refine Ext.trans ?_ (Ext.drewN _ _) | refine Ext.trans ?_ (by assumption))) _ _ _ y.2.length _ (y.2.map (Value.int .i64)) rfl (by simp) (Rd.toA (Rd.ext hR3 (hE35.trans (Ext.alloc _ _)))) (ints_one y.2) (by omega) HAN.out ?_; intro v6 w6 hown6 hE6 hg6 hat6; obtain ⟨A5, c5, rfl, hc5, hR5⟩ := next_of hown6 hz5; clear hown6 hg6 hat6; have hbo6 := hbo4.ext hE6; have hbr6 := hbb5.ext hE6; have o0 := hbo6.cell (i := 0) rfl; have o1 := hbo6.cell (i := 1) rfl; have o2 := hbo6.cell (i := 2) rfl; have o3 := hbo6.cell (i := 3) rfl; have f0 := hbo6.frozen 0; have f1 := hbo6.frozen 1; have f2 := hbo6.frozen 2; have f3 := hbo6.frozen 3; have v0 := hbr6.cell (i := 0) rfl; have v1 := hbr6.cell (i := 1) rfl; have v2 := hbr6.cell (i := 2) rfl; have v3 := hbr6.cell (i := 3) rfl; have hl6 := hE6.size)
                          have hEa6 := hEa5.trans hE6
                          --CUTn
                          go_roundw
                          case rel =>
                            --CUTm
                            refine ⟨t + 1, J, by omega, by omega, rfl, ?_, ?_⟩
                            · rw [HS.out]
                              have k : ∀ (x : World) (q : Nat) (u : Value), Out bo (bo + 1) w6 x → Out bo (bo + 1) w6 (x.setCell ⟨bo, q, none⟩ u) := fun x q u h => h.setCell (p := ⟨bo, q, none⟩) (.inl ⟨Nat.le_refl _, Nat.lt_succ_self _⟩) u
                              exact ⟨A5, c5, (((hbo6.set_ 1 _).set_ 2 _).set_ 0 _).set_ 3 _, hc5, Rd.wide (RdI.out hR5 (k _ _ _ (k _ _ _ (k _ _ _ (k _ _ _ (Out.refl _ _ _))))) (.inr (Nat.le_refl _))) (Nat.le_refl _) (by simp [World.setCell]) (Nat.le_refl _)⟩
                            · exact Ext.setCell (Ext.setCell (Ext.setCell (Ext.setCell hEa6 hboW _) hboW _) hboW _) hboW _
                          case measure => (simp [intOf]; try omega)
                        | some z =>
                          --CUT4
                          obtain ⟨zb0, zb1, zb2, hzs⟩ := HOZ.out z hO1
                          rw [hO1] at hbo4 hc4 hR4
                          simp only [Option.isSome_some] at hbo4
                          rw [owCost_some, owList_some] at hbo4
                          rw [owList_some] at hc4 hR4
                          by_cases hlt2 : co + y.1 < z.1
                          · have HS : Hid (dn P (tb P L 0) (bw0 true) a (t + 1) = (some (co + y.1, (J : Int) :: y.2), wrap64 (O2 + X2))) := by show _ = _; rw [HSU.out, HUPDH.out, hO1, updO_new (.inl (by rw [HCC.out]; exact hlt2)), HCC.out, HO2.out, HX2.out]
                            have p5 : decide (co + y.1 < z.1) = true := decide_eq_true hlt2
                            clear hO1 hzs
                            go_wp2_with (at_builtin; refine wp_app _ w5 rfl (.tmp 121) (.tmp 123) 22 rfl 3 _ 1 8 Try.underlying22 intInfo0 rfl (by omega) _ 1 [.int .i64 (J : Int)] rfl (own_lit1 _ _ (Nat.le_refl _) (Ext.refl _)) (by repeat (first | exact Ext.refl _ | assumption | refine Ext.trans ?_ (Ext.alloc _ _) | refine Ext.trans ?_ (Ext.drew _) | refine Ext.trans ?_ (Ext.drewN _ _) | refine Ext.trans ?_ (by assumption))) _ _ _ y.2.length _ (y.2.map (Value.int .i64)) rfl (by simp) (Rd.toA (Rd.ext hR3 (hE35.trans (Ext.alloc _ _)))) (ints_one y.2) (by omega) HAN.out ?_; intro v6 w6 hown6 hE6 hg6 hat6; obtain ⟨A5, c5, rfl, hc5, hR5⟩ := next_of hown6 hz5; clear hown6 hg6 hat6; have hbo6 := hbo4.ext hE6; have hbr6 := hbb5.ext hE6; have o0 := hbo6.cell (i := 0) rfl; have o1 := hbo6.cell (i := 1) rfl; have o2 := hbo6.cell (i := 2) rfl; have o3 := hbo6.cell (i := 3) rfl; have f0 := hbo6.frozen 0; have f1 := hbo6.frozen 1; have f2 := hbo6.frozen 2; have f3 := hbo6.frozen 3; have v0 := hbr6.cell (i := 0) rfl; have v1 := hbr6.cell (i := 1) rfl; have v2 := hbr6.cell (i := 2) rfl; have v3 := hbr6.cell (i := 3) rfl; have hl6 := hE6.size)
                            have hEa6 := hEa5.trans hE6
                            --CUTn
                            go_roundw
                            case rel =>
                              --CUTm
                              refine ⟨t + 1, J, by omega, by omega, rfl, ?_, ?_⟩
                              · rw [HS.out]
                                have k : ∀ (x : World) (q : Nat) (u : Value), Out bo (bo + 1) w6 x → Out bo (bo + 1) w6 (x.setCell ⟨bo, q, none⟩ u) := fun x q u h => h.setCell (p := ⟨bo, q, none⟩) (.inl ⟨Nat.le_refl _, Nat.lt_succ_self _⟩) u
                                exact ⟨A5, c5, (((hbo6.set_ 1 _).set_ 2 _).set_ 0 _).set_ 3 _, hc5, Rd.wide (RdI.out hR5 (k _ _ _ (k _ _ _ (k _ _ _ (k _ _ _ (Out.refl _ _ _))))) (.inr (Nat.le_refl _))) (Nat.le_refl _) (by simp [World.setCell]) (Nat.le_refl _)⟩
                              · exact Ext.setCell (Ext.setCell (Ext.setCell (Ext.setCell hEa6 hboW _) hboW _) hboW _) hboW _
                            case measure => (simp [intOf]; try omega)
                          · have p5 : decide (co + y.1 < z.1) = false := decide_eq_false hlt2
                            by_cases heq : co + y.1 = z.1
                            · have p6 : (co + y.1 == z.1) = true := by simpa using heq
                              rcases hzs with hz0 | ⟨jj, ys, hz0, hJj⟩
                              · have HS : Hid (dn P (tb P L 0) (bw0 true) a (t + 1) = (some z, wrap64 (O2 + X2))) := by show _ = _; rw [HSU.out, HUPDH.out, hO1, updO_old (by rw [HCC.out, hz0]; rintro (h | h); exact hlt2 h; exact h.2 rfl), HO2.out, HX2.out]
                                rw [hz0] at hbo4 hc4 hR4
                                simp only [List.length_nil] at hbo4
                                have HZ0 := Lib.hid hz0
                                clear hO1 heq hz0
                                go_wp2_with (first | (at_builtin; refine wp_app _ w5 rfl (.tmp 121) (.tmp 123) 22 rfl 3 _ 1 8 Try.underlying22 intInfo0 rfl (by omega) _ 1 [.int .i64 (J : Int)] rfl (own_lit1 _ _ (Nat.le_refl _) (Ext.refl _)) (by repeat (first | exact Ext.refl _ | assumption | refine Ext.trans ?_ (Ext.alloc _ _) | refine Ext.trans ?_ (Ext.drew _) | refine Ext.trans ?_ (Ext.drewN _ _) | refine Ext.trans ?_ (by assumption))) _ _ _ y.2.length _ (y.2.map (Value.int .i64)) rfl (by simp) (Rd.toA (Rd.ext hR3 (hE35.trans (Ext.alloc _ _)))) (ints_one y.2) (by omega) HAN.out ?_; intro v6 w6 hown6 hE6 hg6 hat6; obtain ⟨A5, c5, rfl, hc5, hR5⟩ := next_of hown6 hz5; clear hown6 hg6 hat6; have hbo6 := hbo4.ext hE6; have hbr6 := hbb5.ext hE6; have o0 := hbo6.cell (i := 0) rfl; have o1 := hbo6.cell (i := 1) rfl; have o2 := hbo6.cell (i := 2) rfl; have o3 := hbo6.cell (i := 3) rfl; have f0 := hbo6.frozen 0; have f1 := hbo6.frozen 1; have f2 := hbo6.frozen 2; have f3 := hbo6.frozen 3; have v0 := hbr6.cell (i := 0) rfl; have v1 := hbr6.cell (i := 1) rfl; have v2 := hbr6.cell (i := 2) rfl; have v3 := hbr6.cell (i := 3) rfl; have hl6 := hE6.size) | (go_at_call 68; refine (tyLess_nil A5 A4 c5 c4 (y.2.length + 1) _ (by omega)).mono ?_; rintro e w7 ⟨rfl, hE7⟩; have hbo7 := hbo6.ext hE7; have hbr7 := hbr6.ext hE7; have o0 := hbo7.cell (i := 0) rfl; have o3 := hbo7.cell (i := 3) rfl; have f0 := hbo7.frozen 0; have f3 := hbo7.frozen 3; have v3 := hbr7.cell (i := 3) rfl))
                                have hEa6 := (hEa5.trans hE6).trans hE7
                                go_roundw
                                case rel =>
                                  refine ⟨t + 1, J, by omega, by omega, rfl, ?_, ?_⟩
                                  · rw [HS.out]
                                    have k : ∀ (x : World) (q : Nat) (u : Value), Out bo (bo + 1) w7 x → Out bo (bo + 1) w7 (x.setCell ⟨bo, q, none⟩ u) := fun x q u h => h.setCell (p := ⟨bo, q, none⟩) (.inl ⟨Nat.le_refl _, Nat.lt_succ_self _⟩) u
                                    show OutC _ _ _ (some z, _)
                                    refine ⟨A4, c4, ?_, ?_, ?_⟩
                                    · rw [owList_some, HZ0.out]; exact (hbo7.set_ 0 _).set_ 3 _
                                    · rw [owList_some, HZ0.out]; exact hc4
                                    · rw [owList_some, HZ0.out]; exact Rd.nil (Nat.le_refl _)
                                  · exact Ext.setCell (Ext.setCell hEa6 hboW _) hboW _
                                case measure => (simp [intOf]; try omega)
                              · have HS : Hid (dn P (tb P L 0) (bw0 true) a (t + 1) = (some (co + y.1, (J : Int) :: y.2), wrap64 (O2 + X2))) := by show _ = _; rw [HSU.out, HUPDH.out, hO1, updO_new (.inr ⟨by rw [HCC.out]; exact heq, by rw [hz0]; exact List.cons_ne_nil _ _⟩), HCC.out, HO2.out, HX2.out]
                                rw [hz0] at hbo4 hc4 hR4 zb2
                                have hJj2 : (J : Int) < (jj : Int) := by omega
                                rw [List.length_cons] at hbo4 zb2
                                clear hO1 heq hz0
                                go_wp2_with (first | (at_builtin; refine wp_app _ w5 rfl (.tmp 121) (.tmp 123) 22 rfl 3 _ 1 8 Try.underlying22 intInfo0 rfl (by omega) _ 1 [.int .i64 (J : Int)] rfl (own_lit1 _ _ (Nat.le_refl _) (Ext.refl _)) (by repeat (first | exact Ext.refl _ | assumption | refine Ext.trans ?_ (Ext.alloc _ _) | refine Ext.trans ?_ (Ext.drew _) | refine Ext.trans ?_ (Ext.drewN _ _) | refine Ext.trans ?_ (by assumption))) _ _ _ y.2.length _ (y.2.map (Value.int .i64)) rfl (by simp) (Rd.toA (Rd.ext hR3 (hE35.trans (Ext.alloc _ _)))) (ints_one y.2) (by omega) HAN.out ?_; intro v6 w6 hown6 hE6 hg6 hat6; obtain ⟨A5, c5, rfl, hc5, hR5⟩ := next_of hown6 hz5; clear hown6 hg6 hat6; have hbo6 := hbo4.ext hE6; have hbr6 := hbb5.ext hE6; have o0 := hbo6.cell (i := 0) rfl; have o1 := hbo6.cell (i := 1) rfl; have o2 := hbo6.cell (i := 2) rfl; have o3 := hbo6.cell (i := 3) rfl; have f0 := hbo6.frozen 0; have f1 := hbo6.frozen 1; have f2 := hbo6.frozen 2; have f3 := hbo6.frozen 3; have v0 := hbr6.cell (i := 0) rfl; have v1 := hbr6.cell (i := 1) rfl; have v2 := hbr6.cell (i := 2) rfl; have v3 := hbr6.cell (i := 3) rfl; have hl6 := hE6.size) | (go_at_call 68; refine (tyLess_less A5 A4 c5 c4 (y.2.length + 1) (ys.length + 1) (J : Int) (jj : Int) y.2 ys _ _ _ _ _ rfl rfl (by omega) (by omega) hJj2 hR5 (RdI.ext hR4 hE6)).mono ?_; rintro e w7 ⟨rfl, hE7⟩; replace hbo6 := hbo6.ext hE7; have hbr7 := hbr6.ext hE7; replace hR5 := RdI.ext6 hR5 hE7; have o0 := hbo6.cell (i := 0) rfl; have o1 := hbo6.cell (i := 1) rfl; have o2 := hbo6.cell (i := 2) rfl; have o3 := hbo6.cell (i := 3) rfl; have f0 := hbo6.frozen 0; have f1 := hbo6.frozen 1; have f2 := hbo6.frozen 2; have f3 := hbo6.frozen 3; have v1 := hbr7.cell (i := 1) rfl; have v3 := hbr7.cell (i := 3) rfl))
                                have hEa6 := (hEa5.trans hE6).trans hE7
                                --CUTn
                                go_roundw
                                case rel =>
                                  --CUTm
                                  refine ⟨t + 1, J, by omega, by omega, rfl, ?_, ?_⟩
                                  · rw [HS.out]
                                    have k : ∀ (x : World) (q : Nat) (u : Value), Out bo (bo + 1) w7 x → Out bo (bo + 1) w7 (x.setCell ⟨bo, q, none⟩ u) := fun x q u h => h.setCell (p := ⟨bo, q, none⟩) (.inl ⟨Nat.le_refl _, Nat.lt_succ_self _⟩) u
                                    exact ⟨A5, c5, (((hbo6.set_ 1 _).set_ 2 _).set_ 0 _).set_ 3 _, hc5, Rd.wide (RdI.out hR5 (k _ _ _ (k _ _ _ (k _ _ _ (k _ _ _ (Out.refl _ _ _))))) (.inr (Nat.le_refl _))) (Nat.le_refl _) (by simp [World.setCell]) (Nat.le_refl _)⟩
                                  · exact Ext.setCell (Ext.setCell (Ext.setCell (Ext.setCell hEa6 hboW _) hboW _) hboW _) hboW _
                                case measure => (simp [intOf]; try omega)
                            · have p6 : (co + y.1 == z.1) = false := by simpa using heq
                              have HS : Hid (dn P (tb P L 0) (bw0 true) a (t + 1) = (some z, wrap64 (O2 + X2))) := by show _ = _; rw [HSU.out, HUPDH.out, hO1, updO_old (by rw [HCC.out]; rintro (h | h); exact hlt2 h; exact heq h.1), HO2.out, HX2.out]
                              clear hO1 heq hzs
                              go_wp2_with (at_builtin; refine wp_app _ w5 rfl (.tmp 121) (.tmp 123) 22 rfl 3 _ 1 8 Try.underlying22 intInfo0 rfl (by omega) _ 1 [.int .i64 (J : Int)] rfl (own_lit1 _ _ (Nat.le_refl _) (Ext.refl _)) (by repeat (first | exact Ext.refl _ | assumption | refine Ext.trans ?_ (Ext.alloc _ _) | refine Ext.trans ?_ (Ext.drew _) | refine Ext.trans ?_ (Ext.drewN _ _) | refine Ext.trans ?_ (by assumption))) _ _ _ y.2.length _ (y.2.map (Value.int .i64)) rfl (by simp) (Rd.toA (Rd.ext hR3 (hE35.trans (Ext.alloc _ _)))) (ints_one y.2) (by omega) HAN.out ?_; intro v6 w6 hown6 hE6 hg6 hat6; obtain ⟨A5, c5, rfl, hc5, hR5⟩ := next_of hown6 hz5; clear hown6 hg6 hat6; have hbo6 := hbo4.ext hE6; have hbr6 := hbb5.ext hE6; have o0 := hbo6.cell (i := 0) rfl; have o1 := hbo6.cell (i := 1) rfl; have o2 := hbo6.cell (i := 2) rfl; have o3 := hbo6.cell (i := 3) rfl; have f0 := hbo6.frozen 0; have f1 := hbo6.frozen 1; have f2 := hbo6.frozen 2; have f3 := hbo6.frozen 3; have v0 := hbr6.cell (i := 0) rfl; have v1 := hbr6.cell (i := 1) rfl; have v2 := hbr6.cell (i := 2) rfl; have v3 := hbr6.cell (i := 3) rfl; have hl6 := hE6.size)
                              have hEa6 := hEa5.trans hE6
                              go_roundw
                              case rel =>
                                refine ⟨t + 1, J, by omega, by omega, rfl, ?_, ?_⟩
                                · rw [HS.out]
                                  have k : ∀ (x : World) (q : Nat) (u : Value), Out bo (bo + 1) w6 x → Out bo (bo + 1) w6 (x.setCell ⟨bo, q, none⟩ u) := fun x q u h => h.setCell (p := ⟨bo, q, none⟩) (.inl ⟨Nat.le_refl _, Nat.lt_succ_self _⟩) u
                                  exact ⟨A4, c4, (hbo6.set_ 0 _).set_ 3 _, hc4, Rd.wide (RdI.out (RdI.ext6 hR4 hE6) (k _ _ _ (k _ _ _ (Out.refl _ _ _))) (.inr (Nat.le_refl _))) (Nat.le_refl _) (by simp [World.setCell]) (Nat.le_refl _)⟩
                                · exact Ext.setCell (Ext.setCell hEa6 hboW _) hboW _
                              case measure => (simp [intOf]; try omega)
                  · have hJa : J1 = a + 1 := by omega
                    subst hJa
                    rw [show ((a + 1 : Nat) : Int) - 1 = (a : Int) from by omega] at hj
                    subst hj
                    have htt : t = n - 1 - a := by omega
                    rw [htt, ← HTB.out] at hOut
                    clear htt
                    obtain ⟨X, hX⟩ : ∃ X, X = tb P L k a := ⟨_, rfl⟩
                    rw [← hX] at hOut
                    have HX := Lib.hid hX
                    clear hX
                    obtain ⟨A4, c4, hbo4, hc4, hR4⟩ := hOut
                    have hRk := (HR.out k (by omega)).ext hEx
                    obtain ⟨A3, c3, u0, u1, u2, u3, _, _⟩ := RowW.get hRk (i := a) (by omega)
                    have g0 := hRk.frozen (a * 4)
                    have g1 := hRk.frozen (a * 4 + 1)
                    have g2 := hRk.frozen (a * 4 + 2)
                    have g3 := hRk.frozen (a * 4 + 3)
                    have uo := hEx.cell (hO.cell (HOUT.out k (by omega)) (.inl (by show G < G + 1; omega)))
                    have hgl4 : G + 1 + k < wr.heap.size := by omega
                    have o0 := hbo4.cell (i := 0) rfl
                    have o1 := hbo4.cell (i := 1) rfl
                    have o2 := hbo4.cell (i := 2) rfl
                    have o3 := hbo4.cell (i := 3) rfl
                    have i3 : (a : Int) < (n : Int) + 1 := by omega
                    have hne : ¬ bo = G + 1 + k := by omega
                    have hne2 : ¬ G + 1 + k = bo := by omega
                    go_wp2_with fail
                    --CUT5
                    go_region
                    obtain ⟨w9, hw9⟩ : ∃ x, x = (((((wr.setCell ⟨G + 1 + k, a * 4, none⟩ (.bool X.1.isSome)).setCell ⟨G + 1 + k, a * 4 + 1, none⟩ (.int .i64 (owCost X.1))).setCell ⟨G + 1 + k, a * 4 + 2, none⟩ (.slice A4 (owList X.1).length c4)).setCell ⟨G + 1 + k, a * 4 + 3, none⟩ (.int .i64 X.2))).drew := ⟨_, rfl⟩
                    rw [← hw9]
                    have hk9 : RowW w9 (G + 1 + k) 51 (n + 1) LO (fun j => if j = a then X else fl P L k (a + 1) k j) := by
                      rw [hw9]; exact (hRk.set_ (by omega) (by omega) X hc4 (Rd.wide hR4 (by omega) (Nat.le_refl _) (Nat.le_refl _))).ext (Ext.drew _)
                    have hp9 : ∀ p, p < L + 1 → p ≠ k → RowW w9 (G + 1 + p) 51 (n + 1) LO (fl P L k (a + 1) p) := by
                      intro p hp hpk
                      have h := (HR.out p hp).ext hEx
                      have o : ∀ (x : World) (q : Nat) (u : Value), RowW x (G + 1 + p) 51 (n + 1) LO (fl P L k (a + 1) p) → RowW (x.setCell ⟨G + 1 + k, q, none⟩ u) (G + 1 + p) 51 (n + 1) LO (fl P L k (a + 1) p) := fun x q u h => h.other (by show G + 1 + p ≠ G + 1 + k; omega) (by show G + 1 + k < LO; omega) u
                      rw [hw9]; exact (o _ _ _ (o _ _ _ (o _ _ _ (o _ _ _ h)))).ext (Ext.drew _)
                    have hO9 : Out (G + 1) LO w1 w9 := by
                      have o : ∀ (x : World) (q : Nat) (u : Value), Out (G + 1) LO w1 x → Out (G + 1) LO w1 (x.setCell ⟨G + 1 + k, q, none⟩ u) := fun x q u h => h.setCell (p := ⟨G + 1 + k, q, none⟩) (.inl ⟨by show G + 1 ≤ G + 1 + k; omega, by show G + 1 + k < LO; omega⟩) u
                      rw [hw9]; exact (o _ _ _ (o _ _ _ (o _ _ _ (o _ _ _ (hO.trans (Out.of_ext hEx)))))).trans (Out.of_ext (Ext.drew _))
                    clear hw9 u0 u1 u2 u3 g0 g1 g2 g3 uo o0 o1 o2 o3 hbo4 hRk hR4
                    go_wp2_with fail
                    go_roundw
                    case rel =>
                      refine ⟨d + 1, a, by omega, rfl, fun p hp => ?_, hO9⟩
                      by_cases e : p = k
                      · subst e
                        exact hk9.congr (fun i _ => by rw [HX.out]; exact (fl_set (by rw [HPn.out]; exact hal)).symm)
                      · exact (hp9 p hp e).congr (fun i _ => (fl_other e).symm)
                    case measure => simp [intOf]
        · have hkl : k = L + 1 := by omega
          subst hkl
          clear hlt
          obtain ⟨A', c', y0, y1, y2, y3, hc', hRb⟩ := RowW.get (HR.out L (by omega)) (i := 0) (by omega)
          have hv : fl P L (L + 1) P.n L 0 = tb P L L 0 := by unfold fl; rw [if_pos ⟨by omega, by have := HPn.out; omega⟩]
          rw [hv] at y0 y1 y2 y3 hc' hRb
          obtain ⟨X, hX⟩ : ∃ X, X = tb P L L 0 := ⟨_, rfl⟩
          rw [← hX] at y0 y1 y2 y3 hc' hRb ⊢
          have yo := hO.cell (HOUT.out L (by omega)) (.inl (by show G < G + 1; omega))
          have hrs : Blk wr (w.heap.size + 1) 51 #[.bool false, .int .i64 0, .slice none 0 0, .int .i64 0] := (hO.block (w.heap.size + 1) HRS1.out.lt (.inl (by omega))).trans HRS1.out
          have rs0 := hrs.cell (i := 0) rfl
          have rs1 := hrs.cell (i := 1) rfl
          have rs2 := hrs.cell (i := 2) rfl
          have rs3 := hrs.cell (i := 3) rfl
          have rf0 := hrs.frozen 0
          have rf1 := hrs.frozen 1
          have rf2 := hrs.frozen 2
          have rf3 := hrs.frozen 3
          have hol := hO.size
          have hEw : Ext w wr := hO.ext (hE0.trans HE1.out) (by omega)
          simp only [Nat.zero_mul, Nat.zero_add] at y0 y1 y2 y3
          have HX := Lib.hid hX
          clear hv hX
          go_wp2_with fail
          obtain ⟨wf, hwf⟩ : ∃ wf, wf = (((wr.setCell ⟨w.heap.size + 1, 0, none⟩ (.bool X.1.isSome)).setCell ⟨w.heap.size + 1, 1, none⟩ (.int .i64 (owCost X.1))).setCell ⟨w.heap.size + 1, 2, none⟩ (.slice A' (owList X.1).length c')).setCell ⟨w.heap.size + 1, 3, none⟩ (.int .i64 X.2) := ⟨_, rfl⟩
          rw [← hwf]
          have hbf : Blk wf (w.heap.size + 1) 51 #[.bool X.1.isSome, .int .i64 (owCost X.1), .slice A' (owList X.1).length c', .int .i64 X.2] := by
            rw [hwf]; exact (((hrs.set_ 0 _).set_ 1 _).set_ 2 _).set_ 3 _
          have f0 := hbf.cell (i := 0) rfl
          have f1 := hbf.cell (i := 1) rfl
          have f2 := hbf.cell (i := 2) rfl
          have f3 := hbf.cell (i := 3) rfl
          have k : ∀ (a : World) (q : Nat) (u : Value), Out (w.heap.size + 1) (w.heap.size + 1 + 1) wr a → Out (w.heap.size + 1) (w.heap.size + 1 + 1) wr (a.setCell ⟨w.heap.size + 1, q, none⟩ u) := fun a q u h => h.setCell (p := ⟨w.heap.size + 1, q, none⟩) (.inl ⟨Nat.le_refl _, Nat.lt_succ_self _⟩) u
          have hof : Out (w.heap.size + 1) (w.heap.size + 1 + 1) wr wf := by rw [hwf]; exact k _ _ _ (k _ _ _ (k _ _ _ (k _ _ _ (Out.refl _ _ _))))
          have hRf : RdI wf w.heap.size wf.heap.size A' (owList X.1) := Rd.wide (RdI.out hRb hof (.inr (by omega))) (by omega) hof.size (Nat.le_refl _)
          have hEf : Ext w wf := hof.ext hEw (by omega)
          clear hwf hrs rs0 rs1 rs2 rs3 rf0 rf1 rf2 rf3 y0 y1 y2 y3 yo hbf hof k
          rw [← HX.out]
          exact bodyPost_ret (v := .agg #[.bool X.1.isSome, .int .i64 (owCost X.1), .slice A' (owList X.1).length c', .int .i64 X.2]) (by simp [results, Try.results47, go_sem, f0, f1, f2, f3]) rfl ⟨A', c', rfl, hc', hRf, hEf⟩

end Go.Proofs.Ytmfoankgfiofdaa
