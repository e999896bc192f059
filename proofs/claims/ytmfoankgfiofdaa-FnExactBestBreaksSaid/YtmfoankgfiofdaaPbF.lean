/- The program's best breaks: any number of lines. -/
import Derived.Test.YtmfoankgfiofdaaPbD
namespace Go.Proofs.Ytmfoankgfiofdaa
open Go.RowKit
set_option linter.unusedVariables false
theorem cell_app2 {w w' : World} {o : Obj} {row : Option Nat} {b j : Nat} {v : Value} (hg : (w.alloc o).grownBy w' row) (hb : b < w.heap.size) (hne : row ≠ some b) (hc : w.cell? ⟨b, j, none⟩ = some v) : w'.cell? ⟨b, j, none⟩ = some v :=
  (World.cell?_of_block (a := ⟨b, j, none⟩) (hg.block b (by simp; omega) (fun e => hne e.symm))).trans ((Ext.alloc w o).cell hc)
/-- The breaks so far do not lie in the table. -/
theorem own_ne {w : World} {base e size n g : Nat} {v : Value} {xs : List Value} (h : w.ownsRow base e size v n xs) (hg : g < base) : v.ownBlock ≠ some g := fun e => by
  have := (h.lt _ e).1
  omega
theorem ln_bA {P : Pa} (hc : ∀ i j, 0 ≤ P.co i j) (hp : 0 < P.n) {i : Nat} {y : Int × List Int} (hi : i < P.n) (h : (bA P i).1 = some y) : y.2.length + i ≤ P.n := ln_bw hc hp true P.n i y hi h
set_option maxRecDepth 20000 in
set_option maxHeartbeats 8000000 in
theorem bestBreaks_any (A : Option Addr) (c : Nat) (l : List Int) (r : Rul) (m : Int) (lo hi : Nat) (w : World) (h1 : asked l r m = true) (hcap : l.length ≤ c) (hr : RdI w lo hi A l) :
    Calls Try.prog 38 #[.slice A l.length c, .agg #[.int .i64 r.least, .int .i64 r.normal, .int .i64 r.most], .int .i64 m, .int .i64 (-1)] w (RetI3 w (bbP (bA (paOf l r m) 0).1)) := by
  have HH1 := Lib.hid h1
  obtain ⟨hp, ⟨r1, r2, r3, r4⟩, m1, m2⟩ := asked_parts h1
  obtain ⟨P, hP⟩ : ∃ P, P = paOf l r m := ⟨_, rfl⟩
  obtain ⟨hco, hcd, hPp⟩ := paOf_co h1
  rw [← hP] at hco hcd
  have hpl := pw_len hp
  have HPM := Lib.hid (pw_mem hp)
  have HPN : Hid (P.n = l.length) := by show _ = _; rw [hP]; rfl
  have HOK : Hid (∀ i j, P.ok i j = lineOk (cutL l i j) r m) := by show ∀ i j, _; rw [hP]; exact fun _ _ => rfl
  have HFI : Hid (∀ i, P.fin i = canEnd (cutL l i l.length) r m) := by show ∀ i, _; rw [hP]; exact fun _ => rfl
  have HCO : Hid (∀ i j, P.co i j = lc (cutL l i j) r m) := by show ∀ i j, _; rw [hP]; exact fun _ _ => rfl
  have HC0 := Lib.hid hco; have HCD := Lib.hid hcd
  have HPP := Lib.hid hP
  rw [← hP]
  clear hP h1 hp hPp hco hcd
  obtain ⟨_, b, off, _, rfl, _, _, g3, _, _⟩ := RdI.get hr (k := 0) (by omega)
  obtain ⟨w0, hw0⟩ : ∃ w0, w0 = w.alloc (.cells #[.int .i64 r.least, .int .i64 r.normal, .int .i64 r.most] 28) := ⟨_, rfl⟩
  have x0 : w0.cell? ⟨w.heap.size, 0, none⟩ = some (.int .i64 r.least) := by rw [hw0]; exact box_new (Ext.refl _) rfl
  have x1 : w0.cell? ⟨w.heap.size, 1, none⟩ = some (.int .i64 r.normal) := by rw [hw0]; exact box_new (Ext.refl _) rfl
  have x2 : w0.cell? ⟨w.heap.size, 2, none⟩ = some (.int .i64 r.most) := by rw [hw0]; exact box_new (Ext.refl _) rfl
  have hE0 : Ext w w0 := by rw [hw0]; exact Ext.alloc _ _
  have hlt0 : w.heap.size < w0.heap.size := by rw [hw0]; simp
  have HW0 := Lib.hid hw0
  clear hw0
  have hq := hr.ext hE0
  go_enter Try.func38, Try.ntmps38
  go_wp2_with fail
  have hw0' := HW0.out
  rw [← hw0']
  clear hw0'
  refine (leastCosts_any _ c l.length l r m lo hi _ HH1.out rfl hcap hq).mono ?_
  rintro e w1 ⟨g, rfl, hR1, hE1⟩
  rw [← HPP.out] at hR1 ⊢
  have hl1 : (tabA P).length = l.length := by rw [tabA_len, HPN.out]
  rw [hl1]
  have HL1 := Lib.hid hl1
  have HRT : Hid (∀ i, i < l.length → ∀ wx, Ext w1 wx → wx.cell? ⟨g, i, none⟩ = some (.int .i64 (tv (bA P i).1))) := by
    show ∀ i, _
    intro i hi wx hx
    obtain ⟨x, b3, off3, HX, eA, _, _, _, q0, _⟩ := RdI.get (hR1.ext hx) (k := i) (by rw [hl1]; exact hi)
    injection eA with eA; injection eA with eb eo _; subst eb; subst eo
    have hx2 : x = tv (bA P i).1 := by have h := HX.out; rw [tabA_at (by rw [HPN.out]; exact hi)] at h; injection h with h; exact h.symm
    rw [Nat.zero_add, hx2] at q0
    exact q0
  have hgl : g < w1.heap.size := World.block_lt_of_cell? w1 _ (HRT.out 0 (by omega) w1 (Ext.refl _))
  have hzw := hE0.size
  have hz1 := hE1.size
  clear hR1 hl1
  have q0 := HRT.out 0 (by omega) (w1.alloc (.cells #[] 3)) (Ext.alloc _ _)
  cases hX : (bA P 0).1 with
  | none =>
    rw [hX] at q0
    have q0' : (w1.alloc (.cells #[] 3)).cell? ⟨g, 0, none⟩ = some (.int .i64 (-1)) := q0
    have q1 := HRT.out 0 (by omega) w1 (Ext.refl _)
    rw [hX] at q1
    have q1' : w1.cell? ⟨g, 0, none⟩ = some (.int .i64 (-1)) := q1
    have hEw1 := hE0.trans (hE1.trans (Ext.alloc w1 (.cells #[] 3)))
    have HXN := Lib.hid hX
    clear hX q0 q1
    go_wp2_with fail
    go_ret3
    rw [HXN.out]
    show RetI3 w ([], 0, false) _ _
    exact retI3_lit hEw1
  | some Y =>
    have hb := tvA_bd (j := 0) HH1.out HPP.out (by rw [HPN.out]; omega)
    have hY0 : 0 ≤ Y.1 := (nn_bw HC0.out (by rw [HPN.out]; omega) true P.n).2 0 Y hX
    rw [hX] at q0 hb
    have hYb : Y.1 ≤ 2400000000 := hb.2
    have q0' : (w1.alloc (.cells #[] 3)).cell? ⟨g, 0, none⟩ = some (.int .i64 Y.1) := q0
    have q1 := HRT.out 0 (by omega) w1 (Ext.refl _)
    rw [hX] at q1
    have q1' : w1.cell? ⟨g, 0, none⟩ = some (.int .i64 Y.1) := q1
    have HXX := Lib.hid hX
    clear hX q0 q1 hb
    go_wp2_with fail
    clear q0' q1'
    have HLB : Hid (∀ y, (∃ i, i < l.length ∧ (bA P i).1 = some y) → y.2.length ≤ 24) := by
      show ∀ y, _
      rintro y ⟨i, hi, h⟩
      have := ln_bA HC0.out (by rw [HPN.out]; omega) (by rw [HPN.out]; exact hi) h
      rw [HPN.out] at this; omega
    go_loopw [3, 11, 12, 14, 15] (fun kk tt v f lf wr => ∃ (i : Nat) (acc : List Int) (y : Int × List Int), i < l.length ∧ kk = .int .i64 (-1) ∧ tt = .slice (some ⟨g, 0, none⟩) l.length l.length ∧ f = .int .i64 (i : Int) ∧ lf = .int .i64 y.1 ∧ (bA P i).1 = some y ∧ acc ++ y.2 = Y.2 ∧ wr.ownsRow w1.heap.size 3 1 v acc.length (acc.map (Value.int .i64)) ∧ Ext w1 wr) (fun _ _ _ f _ _ => l.length - (intOf f).toNat)
    case atStart => exact ⟨0, [], Y, by omega, rfl, rfl, rfl, rfl, HXX.out, rfl, own_lit0 _ _ (Nat.le_refl _) (Ext.refl _), Ext.alloc _ _⟩
    case round =>
      obtain ⟨i, acc, y, hil, rfl, rfl, rfl, rfl, hy, hacc, hown, hE⟩ := hrel
      have HY := Lib.hid hy; have HACC := Lib.hid hacc; have HOWN := Lib.hid hown
      have hb := tvA_bd (j := i) HH1.out HPP.out (by rw [HPN.out]; exact hil)
      have hy0 : 0 ≤ y.1 := (nn_bw HC0.out (by rw [HPN.out]; omega) true P.n).2 i y hy
      rw [hy] at hb
      have hyb : y.1 ≤ 2400000000 := hb.2
      have hlen : acc.length ≤ 24 := by
        have h1 := congrArg List.length hacc
        rw [List.length_append] at h1
        have h2 := HLB.out Y ⟨0, by omega, HXX.out⟩
        omega
      obtain ⟨A', c', rfl, hc', _⟩ := own_form hown
      clear hy hacc hown hb
      have i0 : (i : Int) < (l.length : Int) := by omega
      have hE2w : Ext w0 wr := hE1.trans hE
      have y0 : ∀ x : XW wr, x.v.cell? ⟨w.heap.size, 0, none⟩ = _ := fun x => x.h.cell (hE2w.cell x0)
      have y1 : ∀ x : XW wr, x.v.cell? ⟨w.heap.size, 1, none⟩ = _ := fun x => x.h.cell (hE2w.cell x1)
      have y2 : ∀ x : XW wr, x.v.cell? ⟨w.heap.size, 2, none⟩ = _ := fun x => x.h.cell (hE2w.cell x2)
      have hcF : ¬ c = i := by omega
      have hcut := cutL_len l (i := i) (k := l.length) (Nat.le_refl _)
      have HC := Lib.hid hcut
      have hRc := (hq.ext hE2w).cut i l.length
      have HCM : Hid (∀ x ∈ cutL l i l.length, 1 ≤ x ∧ x ≤ 600) := fun x hx => HPM.out x (cutL_mem hx)
      have hc1 : 1 ≤ (cutL l i l.length).length := by omega
      have hc2 : (cutL l i l.length).length ≤ 24 := by omega
      clear hcut
      cases hlo : canEnd (cutL l i l.length) r m
      · have HLO := Lib.hid hlo; clear hlo
        have HF : Hid (P.fin i = false) := by show _ = _; rw [HFI.out]; exact HLO.out
        by_cases hpos : 0 < y.1
        · have p0 : decide (0 < y.1) = true := decide_eq_true hpos
          go_wp2_with fail
          refine wp_region_xw (w0 := wr) (by kernel_rfl) (by kernel_rfl) (by repeat (first | exact Ext.refl _ | assumption | refine Ext.trans ?_ (Ext.alloc _ _) | refine Ext.trans ?_ (Ext.drew _) | refine Ext.trans ?_ (Ext.drewN _ _) | refine Ext.trans ?_ (by assumption))) ?_; (repeat (go_big_quiet_step (fail))); refine wpQuiet_nil ?_; intro w4 hw'; obtain ⟨⟨_, hEw4⟩, hw''⟩ := hw'; subst hw''
          clear y0 y1 y2
          obtain ⟨j, z, hst⟩ := bA_step (by rw [HPN.out]; exact hil) HF.out HY.out
          have hgt := hst.gt
          have hjl := hst.lt
          have HST := Lib.hid hst
          have hz0 : 0 ≤ z.1 := (nn_bw HC0.out (by rw [HPN.out]; omega) true P.n).2 j z hst.hz
          have hzb := tvA_bd (j := j) HH1.out HPP.out hjl
          rw [hst.hz] at hzb
          have hzb2 : z.1 ≤ 2400000000 := hzb.2
          rw [HPN.out] at hjl
          clear hst hzb
          go_wp2_with fail
          go_loopw [12, 14, 15, 17] (fun v f lf t wr => ∃ T : Nat, i < T ∧ T ≤ j ∧ v = .slice A' acc.length c' ∧ f = .int .i64 (i : Int) ∧ lf = .int .i64 y.1 ∧ t = .int .i64 (T : Int) ∧ Ext w4 wr) (fun _ _ _ t _ => l.length - (intOf t).toNat)
          case atStart => exact ⟨i + 1, by omega, by omega, rfl, rfl, rfl, by go_num, Ext.refl _⟩
          case round =>
            obtain ⟨T, hiT, hTj, rfl, rfl, rfl, rfl, hEx⟩ := hrel
            have i1 : (i : Int) < (T : Int) := by omega
            have i2 : (T : Int) < (l.length : Int) := by omega
            have i3 : (T : Int) < (l.length : Int) := by omega
            have hE2w : Ext w0 wr := (hE2w.trans hEw4).trans hEx
            have y0 : ∀ x : XW wr, x.v.cell? ⟨w.heap.size, 0, none⟩ = _ := fun x => x.h.cell (hE2w.cell x0)
            have y1 : ∀ x : XW wr, x.v.cell? ⟨w.heap.size, 1, none⟩ = _ := fun x => x.h.cell (hE2w.cell x1)
            have y2 : ∀ x : XW wr, x.v.cell? ⟨w.heap.size, 2, none⟩ = _ := fun x => x.h.cell (hE2w.cell x2)
            have hcF : ¬ c = i := by omega
            have hcut := cutL_len l (i := i) (k := T) (by omega)
            have HC := Lib.hid hcut
            have hRc := (hq.ext hE2w).cut i T
            have HCM : Hid (∀ x ∈ cutL l i T, 1 ≤ x ∧ x ≤ 600) := fun x hx => HPM.out x (cutL_mem hx)
            have hc1 : 1 ≤ (cutL l i T).length := by omega
            have hc2 : (cutL l i T).length ≤ 24 := by omega
            clear hcut
            cases hlo : lineOk (cutL l i T) r m
            · have HLO := Lib.hid hlo; clear hlo
              have hne : T ≠ j := fun e => by have h := HST.out.ok; rw [HOK.out, ← e, HLO.out] at h; cases h
              go_wp2_with fail
              refine wp_region_xw (w0 := wr) (by kernel_rfl) (by kernel_rfl) (by repeat (first | exact Ext.refl _ | assumption | refine Ext.trans ?_ (Ext.alloc _ _) | refine Ext.trans ?_ (Ext.drew _) | refine Ext.trans ?_ (Ext.drewN _ _) | refine Ext.trans ?_ (by assumption))) ?_; (repeat (go_big_quiet_step ((go_at_call 45; exact XW.call (lineCost_v _ (c - i) (T - i) (cutL l i T) r m _ _ _ false HLO.out HC.out hc1 hc2 HCM.out r1 r2 r3 r4 m1 m2 (hRc.ext (XW.h _))))))); refine wpQuiet_nil ?_; intro w3 hw'; obtain ⟨⟨_, hEw3⟩, hw''⟩ := hw'; subst hw''
              clear y0 y1 y2
              go_wp2_with fail
              go_roundw
              case rel => exact ⟨T + 1, by omega, by omega, rfl, rfl, rfl, by go_num, hEx.trans hEw3⟩
              case measure => (simp [intOf]; try omega)
            · have HLO := Lib.hid hlo; clear hlo
              have HOKT : Hid (P.ok i T = true) := by show _ = _; rw [HOK.out]; exact HLO.out
              have hLC : ∀ x : XW wr, _ := fun x => lineCost_v (some ⟨b, off + i, none⟩) (c - i) (T - i) (cutL l i T) r m lo hi x.v true HLO.out HC.out hc1 hc2 HCM.out r1 r2 r3 r4 m1 m2 (hRc.ext (XW.h x))
              obtain ⟨co, hco⟩ : ∃ co, co = lc (cutL l i T) r m := ⟨_, rfl⟩
              rw [← hco] at hLC
              have cc : P.co i T = co := by rw [hco]; exact HCO.out i T
              have co0 := HC0.out i T
              have co1 := HCD.out i T
              rw [cc] at co0 co1
              have HCC := Lib.hid cc
              clear hco cc
              go_wp2_with fail
              refine wp_region_xw (w0 := wr) (by kernel_rfl) (by kernel_rfl) (by repeat (first | exact Ext.refl _ | assumption | refine Ext.trans ?_ (Ext.alloc _ _) | refine Ext.trans ?_ (Ext.drew _) | refine Ext.trans ?_ (Ext.drewN _ _) | refine Ext.trans ?_ (by assumption))) ?_; (repeat (go_big_quiet_step ((go_at_call 45; with_reducible exact XW.call (hLC _))))); refine wpQuiet_nil ?_; intro w3 hw'; obtain ⟨⟨_, hEw3⟩, hw''⟩ := hw'; subst hw''
              clear y0 y1 y2 hLC
              have hE13 : Ext w1 w3 := (hE.trans hEw4).trans (hEx.trans hEw3)
              have q5 := HRT.out T (by omega) w3 hE13
              obtain ⟨x, hx⟩ : ∃ x, x = tv (bA P T).1 := ⟨_, rfl⟩
              have hxb := tvA_bd (j := T) HH1.out HPP.out (by rw [HPN.out]; omega)
              rw [← hx] at q5 hxb
              obtain ⟨xb0, xb1⟩ := hxb
              have HX := Lib.hid hx
              clear hx
              have kw : IntKind.i64.wrap (co + x) = co + x := IntWalk.i64_in _ (by omega)
              by_cases hTe : T = j
              · subst hTe
                have hxz : x = z.1 := by rw [HX.out, HST.out.hz]; rfl
                subst hxz
                have p1 : decide (0 ≤ z.1) = true := decide_eq_true hz0
                have hyc : co + z.1 = y.1 := by rw [HST.out.cost, HCC.out]
                have p2 : (co + z.1 == y.1) = true := by simpa using hyc
                have HYL : Hid (y.2 = (T : Int) :: z.2) := HST.out.list
                have hlen2 := HLB.out y ⟨i, hil, HY.out⟩
                clear hyc
                have hEb3 : Ext w4 w3 := hEx.trans hEw3
                have hEw03 : Ext w w3 := hE0.trans (hE2w.trans hEw3)
                go_wp2_with (((at_builtin; refine wp_app _ w1 rfl (.tmp 98) (.tmp 100) 22 rfl 3 _ 1 8 Try.underlying22 intInfo0 rfl (by omega) _ _ _ rfl (ownsRow_ext HOWN.out ((hEw4.trans hEb3).trans (Ext.alloc _ _))) ((hE13).trans (Ext.alloc _ _)) _ _ _ 1 1 [.int .i64 (T : Int)] rfl rfl (rdA_new rfl (Ext.refl _)) (by simp [Value.oneCell']) (by omega) (by simp) ?_; intro v5 w5 hown5 hE5 hg5 hat5); have q6 := cell_app2 hg5 (by have := World.block_lt_of_cell? w3 _ q5; omega) (own_ne HOWN.out hgl) q5))
                have e1 : ∀ y : XW w5, y.v.cell? ⟨g, T, none⟩ = _ := fun y => y.h.cell q6
                clear q5
                refine wp_region_xw (w0 := w5) (by kernel_rfl) (by kernel_rfl) (by repeat (first | exact Ext.refl _ | assumption | refine Ext.trans ?_ (Ext.alloc _ _) | refine Ext.trans ?_ (Ext.drew _) | refine Ext.trans ?_ (Ext.drewN _ _) | refine Ext.trans ?_ (by assumption))) ?_; (repeat (go_big_quiet_step (fail))); refine wpQuiet_nil ?_; intro w6 hw'; obtain ⟨⟨_, hEw6⟩, hw''⟩ := hw'; subst hw''
                clear e1
                go_wp2_with fail
                go_roundw
                case rel =>
                  refine ⟨T, acc ++ [(T : Int)], z, by omega, rfl, rfl, rfl, rfl, HST.out.hz, ?_, ?_, ?_⟩
                  · rw [← HACC.out, HYL.out, List.append_assoc]; rfl
                  · rw [List.map_append, List.length_append]; exact ownsRow_ext hown5 hEw6
                  · exact (Ext.grown ((hE.trans hEw4).trans (hEb3.trans (Ext.alloc _ _))) hg5 (fun k hk => (ownsRow_ext HOWN.out (Ext.refl _)).lt k hk |>.1)).trans hEw6
                case measure => (simp [intOf]; try omega)
              · have hTj2 : T < j := by omega
                have hno := HST.out.first T hiT hTj2 HOKT.out
                rw [← HX.out] at hno
                rw [HCC.out] at hno
                by_cases hx0 : 0 ≤ x
                · have p1 : decide (0 ≤ x) = true := decide_eq_true hx0
                  have p2 : (co + x == y.1) = false := by
                    have : ¬ co + x = y.1 := fun e => hno ⟨hx0, e⟩
                    simpa using this
                  clear hno
                  go_wp2_with fail
                  go_roundw
                  case rel => exact ⟨T + 1, by omega, by omega, rfl, rfl, rfl, by go_num, hEx.trans hEw3⟩
                  case measure => (simp [intOf]; try omega)
                · have p1 : decide (0 ≤ x) = false := decide_eq_false hx0
                  clear hno
                  go_wp2_with fail
                  go_roundw
                  case rel => exact ⟨T + 1, by omega, by omega, rfl, rfl, rfl, by go_num, hEx.trans hEw3⟩
                  case measure => (simp [intOf]; try omega)
        · have p0 : decide (0 < y.1) = false := decide_eq_false hpos
          go_wp2_with fail
          refine wp_region_xw (w0 := wr) (by kernel_rfl) (by kernel_rfl) (by repeat (first | exact Ext.refl _ | assumption | refine Ext.trans ?_ (Ext.alloc _ _) | refine Ext.trans ?_ (Ext.drew _) | refine Ext.trans ?_ (Ext.drewN _ _) | refine Ext.trans ?_ (by assumption))) ?_; (repeat (go_big_quiet_step ((go_at_call 46; exact XW.call (canEnd_v _ (c - i) (l.length - i) (cutL l i l.length) r m _ _ _ false HLO.out HC.out hc1 hc2 HCM.out r1 r2 r3 r4 m1 m2 (hRc.ext (XW.h _))))))); refine wpQuiet_nil ?_; intro w4 hw'; obtain ⟨⟨_, hEw4⟩, hw''⟩ := hw'; subst hw''
          clear y0 y1 y2
          obtain ⟨j, z, hst⟩ := bA_step (by rw [HPN.out]; exact hil) HF.out HY.out
          have hgt := hst.gt
          have hjl := hst.lt
          have HST := Lib.hid hst
          have hz0 : 0 ≤ z.1 := (nn_bw HC0.out (by rw [HPN.out]; omega) true P.n).2 j z hst.hz
          have hzb := tvA_bd (j := j) HH1.out HPP.out hjl
          rw [hst.hz] at hzb
          have hzb2 : z.1 ≤ 2400000000 := hzb.2
          rw [HPN.out] at hjl
          clear hst hzb
          go_wp2_with fail
          go_loopw [12, 14, 15, 17] (fun v f lf t wr => ∃ T : Nat, i < T ∧ T ≤ j ∧ v = .slice A' acc.length c' ∧ f = .int .i64 (i : Int) ∧ lf = .int .i64 y.1 ∧ t = .int .i64 (T : Int) ∧ Ext w4 wr) (fun _ _ _ t _ => l.length - (intOf t).toNat)
          case atStart => exact ⟨i + 1, by omega, by omega, rfl, rfl, rfl, by go_num, Ext.refl _⟩
          case round =>
            obtain ⟨T, hiT, hTj, rfl, rfl, rfl, rfl, hEx⟩ := hrel
            have i1 : (i : Int) < (T : Int) := by omega
            have i2 : (T : Int) < (l.length : Int) := by omega
            have i3 : (T : Int) < (l.length : Int) := by omega
            have hE2w : Ext w0 wr := (hE2w.trans hEw4).trans hEx
            have y0 : ∀ x : XW wr, x.v.cell? ⟨w.heap.size, 0, none⟩ = _ := fun x => x.h.cell (hE2w.cell x0)
            have y1 : ∀ x : XW wr, x.v.cell? ⟨w.heap.size, 1, none⟩ = _ := fun x => x.h.cell (hE2w.cell x1)
            have y2 : ∀ x : XW wr, x.v.cell? ⟨w.heap.size, 2, none⟩ = _ := fun x => x.h.cell (hE2w.cell x2)
            have hcF : ¬ c = i := by omega
            have hcut := cutL_len l (i := i) (k := T) (by omega)
            have HC := Lib.hid hcut
            have hRc := (hq.ext hE2w).cut i T
            have HCM : Hid (∀ x ∈ cutL l i T, 1 ≤ x ∧ x ≤ 600) := fun x hx => HPM.out x (cutL_mem hx)
            have hc1 : 1 ≤ (cutL l i T).length := by omega
            have hc2 : (cutL l i T).length ≤ 24 := by omega
            clear hcut
            cases hlo : lineOk (cutL l i T) r m
            · have HLO := Lib.hid hlo; clear hlo
              have hne : T ≠ j := fun e => by have h := HST.out.ok; rw [HOK.out, ← e, HLO.out] at h; cases h
              go_wp2_with fail
              refine wp_region_xw (w0 := wr) (by kernel_rfl) (by kernel_rfl) (by repeat (first | exact Ext.refl _ | assumption | refine Ext.trans ?_ (Ext.alloc _ _) | refine Ext.trans ?_ (Ext.drew _) | refine Ext.trans ?_ (Ext.drewN _ _) | refine Ext.trans ?_ (by assumption))) ?_; (repeat (go_big_quiet_step ((go_at_call 45; exact XW.call (lineCost_v _ (c - i) (T - i) (cutL l i T) r m _ _ _ false HLO.out HC.out hc1 hc2 HCM.out r1 r2 r3 r4 m1 m2 (hRc.ext (XW.h _))))))); refine wpQuiet_nil ?_; intro w3 hw'; obtain ⟨⟨_, hEw3⟩, hw''⟩ := hw'; subst hw''
              clear y0 y1 y2
              go_wp2_with fail
              go_roundw
              case rel => exact ⟨T + 1, by omega, by omega, rfl, rfl, rfl, by go_num, hEx.trans hEw3⟩
              case measure => (simp [intOf]; try omega)
            · have HLO := Lib.hid hlo; clear hlo
              have HOKT : Hid (P.ok i T = true) := by show _ = _; rw [HOK.out]; exact HLO.out
              have hLC : ∀ x : XW wr, _ := fun x => lineCost_v (some ⟨b, off + i, none⟩) (c - i) (T - i) (cutL l i T) r m lo hi x.v true HLO.out HC.out hc1 hc2 HCM.out r1 r2 r3 r4 m1 m2 (hRc.ext (XW.h x))
              obtain ⟨co, hco⟩ : ∃ co, co = lc (cutL l i T) r m := ⟨_, rfl⟩
              rw [← hco] at hLC
              have cc : P.co i T = co := by rw [hco]; exact HCO.out i T
              have co0 := HC0.out i T
              have co1 := HCD.out i T
              rw [cc] at co0 co1
              have HCC := Lib.hid cc
              clear hco cc
              go_wp2_with fail
              refine wp_region_xw (w0 := wr) (by kernel_rfl) (by kernel_rfl) (by repeat (first | exact Ext.refl _ | assumption | refine Ext.trans ?_ (Ext.alloc _ _) | refine Ext.trans ?_ (Ext.drew _) | refine Ext.trans ?_ (Ext.drewN _ _) | refine Ext.trans ?_ (by assumption))) ?_; (repeat (go_big_quiet_step ((go_at_call 45; with_reducible exact XW.call (hLC _))))); refine wpQuiet_nil ?_; intro w3 hw'; obtain ⟨⟨_, hEw3⟩, hw''⟩ := hw'; subst hw''
              clear y0 y1 y2 hLC
              have hE13 : Ext w1 w3 := (hE.trans hEw4).trans (hEx.trans hEw3)
              have q5 := HRT.out T (by omega) w3 hE13
              obtain ⟨x, hx⟩ : ∃ x, x = tv (bA P T).1 := ⟨_, rfl⟩
              have hxb := tvA_bd (j := T) HH1.out HPP.out (by rw [HPN.out]; omega)
              rw [← hx] at q5 hxb
              obtain ⟨xb0, xb1⟩ := hxb
              have HX := Lib.hid hx
              clear hx
              have kw : IntKind.i64.wrap (co + x) = co + x := IntWalk.i64_in _ (by omega)
              by_cases hTe : T = j
              · subst hTe
                have hxz : x = z.1 := by rw [HX.out, HST.out.hz]; rfl
                subst hxz
                have p1 : decide (0 ≤ z.1) = true := decide_eq_true hz0
                have hyc : co + z.1 = y.1 := by rw [HST.out.cost, HCC.out]
                have p2 : (co + z.1 == y.1) = true := by simpa using hyc
                have HYL : Hid (y.2 = (T : Int) :: z.2) := HST.out.list
                have hlen2 := HLB.out y ⟨i, hil, HY.out⟩
                clear hyc
                have hEb3 : Ext w4 w3 := hEx.trans hEw3
                have hEw03 : Ext w w3 := hE0.trans (hE2w.trans hEw3)
                go_wp2_with (((at_builtin; refine wp_app _ w1 rfl (.tmp 98) (.tmp 100) 22 rfl 3 _ 1 8 Try.underlying22 intInfo0 rfl (by omega) _ _ _ rfl (ownsRow_ext HOWN.out ((hEw4.trans hEb3).trans (Ext.alloc _ _))) ((hE13).trans (Ext.alloc _ _)) _ _ _ 1 1 [.int .i64 (T : Int)] rfl rfl (rdA_new rfl (Ext.refl _)) (by simp [Value.oneCell']) (by omega) (by simp) ?_; intro v5 w5 hown5 hE5 hg5 hat5); have q6 := cell_app2 hg5 (by have := World.block_lt_of_cell? w3 _ q5; omega) (own_ne HOWN.out hgl) q5))
                have e1 : ∀ y : XW w5, y.v.cell? ⟨g, T, none⟩ = _ := fun y => y.h.cell q6
                clear q5
                refine wp_region_xw (w0 := w5) (by kernel_rfl) (by kernel_rfl) (by repeat (first | exact Ext.refl _ | assumption | refine Ext.trans ?_ (Ext.alloc _ _) | refine Ext.trans ?_ (Ext.drew _) | refine Ext.trans ?_ (Ext.drewN _ _) | refine Ext.trans ?_ (by assumption))) ?_; (repeat (go_big_quiet_step (fail))); refine wpQuiet_nil ?_; intro w6 hw'; obtain ⟨⟨_, hEw6⟩, hw''⟩ := hw'; subst hw''
                clear e1
                go_wp2_with fail
                go_roundw
                case rel =>
                  refine ⟨T, acc ++ [(T : Int)], z, by omega, rfl, rfl, rfl, rfl, HST.out.hz, ?_, ?_, ?_⟩
                  · rw [← HACC.out, HYL.out, List.append_assoc]; rfl
                  · rw [List.map_append, List.length_append]; exact ownsRow_ext hown5 hEw6
                  · exact (Ext.grown ((hE.trans hEw4).trans (hEb3.trans (Ext.alloc _ _))) hg5 (fun k hk => (ownsRow_ext HOWN.out (Ext.refl _)).lt k hk |>.1)).trans hEw6
                case measure => (simp [intOf]; try omega)
              · have hTj2 : T < j := by omega
                have hno := HST.out.first T hiT hTj2 HOKT.out
                rw [← HX.out] at hno
                rw [HCC.out] at hno
                by_cases hx0 : 0 ≤ x
                · have p1 : decide (0 ≤ x) = true := decide_eq_true hx0
                  have p2 : (co + x == y.1) = false := by
                    have : ¬ co + x = y.1 := fun e => hno ⟨hx0, e⟩
                    simpa using this
                  clear hno
                  go_wp2_with fail
                  go_roundw
                  case rel => exact ⟨T + 1, by omega, by omega, rfl, rfl, rfl, by go_num, hEx.trans hEw3⟩
                  case measure => (simp [intOf]; try omega)
                · have p1 : decide (0 ≤ x) = false := decide_eq_false hx0
                  clear hno
                  go_wp2_with fail
                  go_roundw
                  case rel => exact ⟨T + 1, by omega, by omega, rfl, rfl, rfl, by go_num, hEx.trans hEw3⟩
                  case measure => (simp [intOf]; try omega)
      · have HLO := Lib.hid hlo; clear hlo
        have hF : P.fin i = true := by rw [HFI.out]; exact HLO.out
        have hy2 : y = (0, []) := bA_fin HC0.out (by rw [HPN.out]; exact hil) hF HY.out
        have hac2 : acc = Y.2 := by have h := HACC.out; rw [hy2] at h; simpa using h
        rw [hy2]
        have HA2 := Lib.hid hac2
        clear hF hac2 hy0 hyb hy2
        go_wp2_with fail
        refine wp_region_xw (w0 := wr) (by kernel_rfl) (by kernel_rfl) (by repeat (first | exact Ext.refl _ | assumption | refine Ext.trans ?_ (Ext.alloc _ _) | refine Ext.trans ?_ (Ext.drew _) | refine Ext.trans ?_ (Ext.drewN _ _) | refine Ext.trans ?_ (by assumption))) ?_; (repeat (go_big_quiet_step ((go_at_call 46; exact XW.call (canEnd_v _ (c - i) (l.length - i) (cutL l i l.length) r m _ _ _ true HLO.out HC.out hc1 hc2 HCM.out r1 r2 r3 r4 m1 m2 (hRc.ext (XW.h _))))))); refine wpQuiet_nil ?_; intro w4 hw'; obtain ⟨⟨_, hEw4⟩, hw''⟩ := hw'; subst hw''
        clear y0 y1 y2
        go_wp2_with fail
        go_ret3
        rw [HXX.out]
        refine ⟨A', c', by rw [HA2.out]; rfl, by show Y.2.length ≤ c'; rw [← HA2.out]; exact hc', ?_, (by repeat (first | exact Ext.refl _ | assumption | refine Ext.trans ?_ (Ext.alloc _ _) | refine Ext.trans ?_ (Ext.drew _) | refine Ext.trans ?_ (Ext.drewN _ _) | refine Ext.trans ?_ (by assumption)))⟩
        show RdI w4 w.heap.size w4.heap.size A' Y.2
        rw [← HA2.out]
        exact Rd.wide (Rd.ext (Rd.of_own HOWN.out) hEw4) (by omega) hEw4.size (Nat.le_refl _)

end Go.Proofs.Ytmfoankgfiofdaa
