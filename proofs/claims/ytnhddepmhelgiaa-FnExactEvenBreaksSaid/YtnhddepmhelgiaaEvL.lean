/- EvenBreaks: the reference's walk. -/
import Derived.Test.YtnhddepmhelgiaaEvK
import Derived.Test.YtnhddepmhelgiaaEvF
namespace Go.Proofs.Ytnhddepmhelgiaa
open Go.RowKit
set_option linter.unusedVariables false
theorem evP_len (ls : List (List Int)) (d : Int) : (evP ls d).1.length ≤ 4000000 := by
  cases h : rowsOn ls d
  · rw [evP_bad h]; simp
  · have ho := ev_ok h
    obtain ⟨K, s, L, hat⟩ := ev_at ho (Nat.zero_le (ls.map grt).length)
    rw [evP_good h hat]
    have hl := ln_bw (P := evPa (ls.map grt) d) (evP_nn ho) (by show 0 < (ls.map grt).length + 1; omega) false (K + 1) 0 (s, L) (by show 0 < (ls.map grt).length + 1; omega) hat.p
    have h24 := ho.len
    have hl : L.length + 0 ≤ (ls.map grt).length + 1 := hl
    show L.dropLast.length ≤ _
    rw [List.length_dropLast]; omega
theorem evR_of {hs : List Int} {d : Int} {i K : Nat} {s : Int} {L : List Int} (h : EvAt hs d i K s L) : evR hs d K i = s := by unfold evR; rw [h.p]; rfl
set_option maxRecDepth 100000 in
set_option maxHeartbeats 4000000 in
theorem spec_EvenBreaks (A : Option Addr) (c : Nat) (ls : List (List Int)) (d : Int) (lo hi : Nat) (w : World) (hl : ls.length ≤ 1048577) (hb : ∀ l ∈ ls, l.length ≤ 1048577) (hr : RdII w lo hi A ls) :
    Calls Try.prog 28 #[.slice A ls.length c, .int .i64 d] w (RetI3 w (evP ls d)) := by
  cases h : rowsOn ls d
  · rw [evP_bad h]
    go_enter Try.func28, Try.ntmps28
    go_wp2_with (go_at_call 56; refine (spec_plPaged A c ls d lo hi _ hl hb hr).mono ?_; rintro e w1 ⟨rfl, hE1⟩; obtain ⟨hc1, hf1⟩ := bcell hE1; have hs1 := hE1.size; (try simp only [World.size_alloc] at hs1))
    go_ret3
    exact retI3_lit (by repeat (first | exact Ext.refl _ | assumption | refine Ext.trans ?_ (Ext.alloc _ _) | refine Ext.trans ?_ (Ext.drew _) | refine Ext.trans ?_ (Ext.drewN _ _) | refine Ext.trans ?_ (by assumption)))
  have hok := ev_ok h
  obtain ⟨_, ⟨hd1, hd2⟩, hsb⟩ := rowsOn_parts h
  have hlen := hok.len
  rw [List.length_map] at hlen
  obtain ⟨hs, hhs⟩ : ∃ hs, hs = ls.map grt := ⟨_, rfl⟩
  have hsl : hs.length = ls.length := by rw [hhs, List.length_map]
  obtain ⟨K0, s0, L0, h00⟩ := ev_at hok (Nat.zero_le (ls.map grt).length)
  have hevp : evP ls d = (L0.dropLast, s0, true) := evP_good h h00
  rw [← hhs] at hok h00 hsb
  have HOK := Lib.hid hok; have HHS := Lib.hid hhs; have HSL := Lib.hid hsl; have H00 := Lib.hid h00; have HEVP := Lib.hid hevp; have HH := Lib.hid h; have HSB := Lib.hid hsb
  clear hok hhs h00 hevp hsb
  by_cases h0 : 0 < ls.length
  case neg =>
    have hz : hs.length = 0 := by omega
    have hlast : s0 = 0 ∧ L0 = [] := by
      have := H00.out
      rw [← hz] at this
      exact (EvAt.last HOK.out this).2
    have HLA := Lib.hid hlast
    have hn0 : ((ls.length : Int) == 0) = true := by rw [beq_iff_eq]; omega
    clear hlast hz hsl h
    go_enter Try.func28, Try.ntmps28
    go_wp2_with fail
    refine (spec_plPaged A c ls d lo hi _ hl hb hr).mono ?_
    rintro e w1 ⟨rfl, hE1⟩
    rw [HH.out]
    go_wp2_with fail
    go_ret3
    rw [HEVP.out, HLA.out.1, HLA.out.2]
    exact ⟨none, 0, rfl, Nat.zero_le _, Rd.nil (Nat.le_refl _), hE1⟩
  have hbrk := H00.out.brk HOK.out (by omega)
  have hK24 : K0 ≤ 24 := by
    have hl2 := HOK.out.len
    rcases Nat.lt_or_ge (hs.length - 0) K0 with hlt | hge
    · exact absurd (ev_single HOK.out (hs.length - 0) 0 (by omega)) (H00.out.fewest.2 _ hlt)
    · omega
  have HBRK := Lib.hid hbrk
  have hn0 : ((ls.length : Int) == 0) = false := by rw [beq_eq_false_iff_ne]; omega
  have hbl : (brkL hs d).length ≤ 24 := by omega
  have k0 : IntKind.i64.wrap (((brkL hs d).length : Int) + 1) = (K0 : Int) := by rw [show ((brkL hs d).length : Int) + 1 = (K0 : Int) by omega]; exact IntWalk.i64_in _ (by omega)
  clear hbrk hsl h
  go_enter Try.func28, Try.ntmps28
  go_wp2_with fail
  refine (spec_plPaged A c ls d lo hi _ hl hb hr).mono ?_
  rintro e w1 ⟨rfl, hE1⟩
  rw [HH.out]
  go_wp2_with fail
  refine (spec_plHeights A c ls lo hi _ hl hb (hr.ext hE1)).mono ?_
  rintro e w2 ⟨A2, c2, rfl, hc2, hR2, hE2⟩
  rw [← HHS.out] at hc2 hR2 ⊢
  rw [HSL.out] at hc2 ⊢
  go_wp2_with fail
  refine (spec_plBreaks A2 c2 ls.length hs d _ _ _ HSL.out (by omega) hd1 hd2 HSB.out hR2).mono ?_
  rintro e w3 ⟨A3, c3, rfl, _, _, hE3⟩
  go_wp2_with fail
  refine (spec_plCosts A2 c2 ls.length hs d K0 _ _ _ HSL.out HOK.out (by omega) (RdI.ext hR2 hE3)).mono ?_
  rintro e w4 ⟨Ac, cc, rfl, hRC, hE4⟩
  have hEw4 : Ext w w4 := ((hE1.trans hE2).trans hE3).trans hE4
  have hR4 := RdI.ext hR2 (hE3.trans hE4)
  obtain ⟨⟨_, _, _, _⟩, _, bc, oc, _, rfl, _, _, _, _, _, _⟩ := RdII.get hRC (k := 0) (by rw [evTab_len]; omega)
  obtain ⟨_, bh, oh, _, rfl, _, _, _, _, _⟩ := RdI.get hR4 (k := 0) (by rw [HSL.out]; omega)
  have ROW : Hid (∀ (x : Nat) (w' : World), x < K0 + 1 → Ext w4 w' → ∃ (ra : Option Addr) (rc : Nat), w'.cell? ⟨bc, oc + x, none⟩ = some (.slice ra (ls.length + 1) rc) ∧ ∃ br or_, ra = some ⟨br, or_, none⟩ ∧ ∀ y, y < ls.length + 1 → w'.cell? ⟨br, or_ + y, none⟩ = some (.int .i64 (evR hs d x y))) := fun x w' hx hE => by
    obtain ⟨⟨ra, rc, rp, rq⟩, rl, b0, off0, HX0, eA, hb0, c0, _, hR0, _, _⟩ := RdII.get (hRC.ext hE) (k := x) (by rw [evTab_len]; exact hx)
    injection eA with eA; injection eA with eb eo _; subst eb; subst eo
    have hrl : rl = evRow hs d x := by have := HX0.out; rw [evTab_at hx] at this; injection this with this; exact this.symm
    subst hrl
    simp only at c0 hR0
    have hl0 : (evRow hs d x).length = ls.length + 1 := by rw [← HSL.out]; exact rowF_len _ _
    rw [hl0] at c0
    obtain ⟨br, or_, er, _, _, _, hcs⟩ := Rd.at_ hR0 (k := 0) (by rw [List.length_map, hl0]; omega)
    refine ⟨ra, rc, c0, br, or_, er, fun y hy => (hcs y _ ?_).1⟩
    rw [List.getElem?_map, evRow, rowF_at _ (by rw [HSL.out]; exact hy)]; rfl
  have HT : Hid (∀ (x : Nat) (w' : World), x < ls.length → Ext w4 w' → ∃ v, w'.cell? ⟨bh, oh + x, none⟩ = some (.int .i64 v) ∧ pf hs (x + 1) = pf hs x + v ∧ 0 ≤ v ∧ v ≤ 1000) := fun x w' hx hE => by
    obtain ⟨v, b', o', HX, eA, _, _, _, c0, _⟩ := RdI.get (RdI.ext hR4 hE) (k := x) (by rw [HSL.out]; exact hx)
    injection eA with eA; injection eA with eb eo _; subst eb; subst eo
    have := HOK.out.row v (List.mem_of_getElem? HX.out)
    exact ⟨v, c0, pf_succ HX.out, this.1, by omega⟩
  clear hRC hR4 k0
  go_wp2_with fail
  have hK1 : 1 ≤ K0 := by have := HBRK.out; omega
  go_loopw [10, 11, 12] (fun ov fv pv wr => ∃ (a k m : Nat) (s : Int) (L E : List Int), a < ls.length ∧ 1 ≤ k ∧ k ≤ K0 ∧ fv = .int .i64 (a : Int) ∧ pv = .int .i64 (k : Int) ∧ Hid (EvAt hs d a k s L) ∧ Hid (E ++ L.dropLast = L0.dropLast) ∧ Hid (E.length = m) ∧ m ≤ a ∧ wr.ownsRow w4.heap.size 3 1 ov m (E.map (Value.int .i64)) ∧ Ext w4 wr) (fun _ _ pv _ => (intOf pv).toNat)
  case atStart => exact ⟨0, K0, 0, s0, L0, [], h0, hK1, Nat.le_refl _, rfl, rfl, H00.out, rfl, rfl, Nat.le_refl _, own_nil _ _ _ _, Ext.refl _⟩
  case round =>
    obtain ⟨a, k, m, s, L, E, ha, hk1, hkK, rfl, rfl, HAT, HEL, HME, hma, hown, hE4r⟩ := hrel
    have hstep := EvAt.step HOK.out HAT.out (by rw [HSL.out]; exact ha)
    obtain ⟨j, K', s', L', j1, j2, j3, j4, j5, j6, j7, j8⟩ := hstep
    rw [HSL.out] at j2
    have J6 := Lib.hid j6; have J7 := Lib.hid j7; have J8 := Lib.hid j8; have J3 := Lib.hid j3; have J4 := Lib.hid j4; have J5 := Lib.hid j5
    clear j3 j4 j5 j6 j7 j8
    by_cases hk : 1 < k
    · have hjn : j < ls.length := by
        rcases Nat.lt_or_ge j ls.length with h | h
        · exact h
        · have e : j = hs.length := by rw [HSL.out]; omega
          have h7 := J7.out
          rw [e] at h7
          have := (EvAt.last HOK.out h7).1
          have := J3.out
          omega
      obtain ⟨j', _, _, L'', _, _, _, f4, _⟩ := EvAt.next HOK.out J7.out (by rw [HSL.out]; exact hjn)
      have hdl : E ++ [(j : Int)] ++ L'.dropLast = L0.dropLast := by
        have := HEL.out
        rw [J6.out, f4] at this
        rw [f4, ← this]; simp
      have HDL := Lib.hid hdl
      clear hdl f4
      obtain ⟨q, hq⟩ : ∃ q, k = q + 1 := ⟨k - 1, by omega⟩
      have HQ := Lib.hid hq
      have HQ1 : Hid (1 ≤ q) := by show _ ≤ _; omega
      have kq : IntKind.i64.wrap ((k : Int) - 1) = (q : Int) := by rw [show (k : Int) - 1 = q by omega]; exact IntWalk.i64_in _ (by omega)
      have hKq : K' = q := by have := J3.out; omega
      have HKQ := Lib.hid hKq
      have g1 : (1 : Int) < (k : Int) := by omega
      have g2 : (a : Int) < (ls.length : Int) := by omega
      have g3 : (0 : Int) ≤ (a : Int) := by omega
      have hqK : q < K0 + 1 := by omega
      have hq0 : (0 : Int) ≤ (q : Int) := by omega
      have hqb : (q : Int) < (K0 : Int) + 1 := by omega
      have hkb : (k : Int) < (K0 : Int) + 1 := by omega
      have hk0 : (0 : Int) ≤ (k : Int) := by omega
      have ka : IntKind.i64.wrap ((a : Int) + 1) = (a : Int) + 1 := IntWalk.i64_in _ (by omega)
      obtain ⟨va, ca0, pa0, va0, va1⟩ := HT.out a wr ha hE4r
      obtain ⟨_, rcq, rq1, bq, oq, rfl, rq2⟩ := ROW.out q wr hqK hE4r
      obtain ⟨_, rck, rk1, bk, ok_, rfl, rk2⟩ := ROW.out k wr (by omega) hE4r
      have hka := rk2 a (by omega)
      rw [evR_of HAT.out] at hka
      have ea : ∀ y : XW wr, y.v.cell? ⟨bh, oh + a, none⟩ = _ := fun y => y.h.cell ca0
      have RK := Lib.hid rk2; have RQ := Lib.hid rq2
      have PA := Lib.hid pa0
      clear hq hKq rk2 rq2 pa0
      go_wp2_with fail
      refine wp_region_xw (w0 := wr) (by kernel_rfl) (by kernel_rfl) (by repeat (first | exact Ext.refl _ | assumption | refine Ext.trans ?_ (Ext.alloc _ _) | refine Ext.trans ?_ (Ext.drew _) | refine Ext.trans ?_ (Ext.drewN _ _) | refine Ext.trans ?_ (by assumption))) ?_; (repeat (go_big_quiet_step (fail))); refine wpQuiet_nil ?_; intro w5 hw'; obtain ⟨⟨_, hEw5⟩, hw''⟩ := hw'; subst hw''
      clear ea
      go_wp2_with fail
      go_loopw [13, 14] (fun xv uv wx => ∃ (x : Nat) (U : Int), a < x ∧ x ≤ j ∧ xv = .int .i64 (x : Int) ∧ uv = .int .i64 U ∧ Hid (U = pf hs x - pf hs a) ∧ 0 ≤ U ∧ U ≤ d ∧ Ext wr wx) (fun xv _ _ => j - (intOf xv).toNat)
      case atStart => exact ⟨a + 1, va, by omega, j1, by go_num, rfl, (by have := PA.out; show va = _; omega), va0, (by have h1 := PA.out; have h2 := J4.out; have h3 := pf_le HOK.out.nn (i := a + 1) (j := j) (by omega); omega), hEw5⟩
      case round =>
        obtain ⟨x, U, hax, hxj, rfl, rfl, HU, hU0, hUd, hEx⟩ := hrel
        have hE4x := hE4r.trans hEx
        have rq1x := hEx.cell rq1
        have rk1x := hEx.cell rk1
        have hkax := hEx.cell hka
        have txx := hEx.cell (RQ.out x (by omega))
        obtain ⟨T, hT⟩ : ∃ T, T = evR hs d q x := ⟨_, rfl⟩
        rw [← hT] at txx
        have hTb := evR_bound HOK.out (p := q) (i := x) (by rw [HSL.out]; omega)
        rw [← hT] at hTb
        obtain ⟨tb0, tb1⟩ := hTb
        obtain ⟨sq, hsq⟩ : ∃ y, y = (d - U) * (d - U) := ⟨_, rfl⟩
        obtain ⟨sq0, sq1⟩ := sq_small (t := d - U) (by omega) (by omega)
        rw [← hsq] at sq0 sq1
        have k2 : IntKind.i64.wrap (d - U) = d - U := IntWalk.i64_in _ (by omega)
        have k3 : IntKind.i64.wrap ((d - U) * (d - U)) = sq := by rw [← hsq]; exact IntWalk.i64_in _ (by omega)
        have k4 : IntKind.i64.wrap (sq + T) = sq + T := IntWalk.i64_in _ (by omega)
        have g5 : (0 : Int) ≤ (x : Int) := by omega
        have g6 : (x : Int) < (ls.length : Int) + 1 := by omega
        have g7 : (a : Int) < (ls.length : Int) + 1 := by omega
        have eq1 : ∀ y : XW wr, y.v.cell? ⟨bc, oc + q, none⟩ = _ := fun y => y.h.cell rq1x
        have ek1 : ∀ y : XW wr, y.v.cell? ⟨bc, oc + k, none⟩ = _ := fun y => y.h.cell rk1x
        have ek : ∀ y : XW wr, y.v.cell? ⟨bk, ok_ + a, none⟩ = _ := fun y => y.h.cell hkax
        have et : ∀ y : XW wr, y.v.cell? ⟨bq, oq + x, none⟩ = _ := fun y => y.h.cell txx
        have hco : (evPa hs d).co a x = sq := by
          have h1 := pf_le HOK.out.nn (i := x) (j := j) hxj
          have h2 := J4.out
          rw [evPa_co hax (by omega), ← HU.out, hsq]
        have HCO := Lib.hid hco
        have HTT := Lib.hid hT
        clear hco hT hsq rq1x rk1x hkax txx
        by_cases hlt : x < j
        · have h8 := J8.out x hax hlt
          rw [HQ.out, show tv (bw (evPa hs d) false (q + 1) x).1 = T from HTT.out.symm, HCO.out] at h8
          obtain ⟨v, cx, px, v0, v1⟩ := HT.out x wr (by omega) hE4x
          have hpj := pf_le HOK.out.nn (i := x + 1) (j := j) hlt
          have hv2 : U + v ≤ d := by have := HU.out; have := J4.out; omega
          have k7 : IntKind.i64.wrap (U + v) = U + v := IntWalk.i64_in _ (by omega)
          have k8 : IntKind.i64.wrap ((x : Int) + 1) = (x : Int) + 1 := IntWalk.i64_in _ (by omega)
          have g8 : (x : Int) < (ls.length : Int) := by omega
          have PX := Lib.hid px
          clear px hpj
          by_cases hTn : T < 0
          · clear h8
            go_wp2_with fail
            refine wp_region_xw (w0 := wr) (by kernel_rfl) (by kernel_rfl) (by repeat (first | exact Ext.refl _ | assumption | refine Ext.trans ?_ (Ext.alloc _ _) | refine Ext.trans ?_ (Ext.drew _) | refine Ext.trans ?_ (Ext.drewN _ _) | refine Ext.trans ?_ (by assumption))) ?_; (repeat (go_big_quiet_step (fail))); refine wpQuiet_nil ?_; intro w6 hw'; obtain ⟨⟨_, hEw6⟩, hw''⟩ := hw'; subst hw''
            clear eq1 ek1 ek et
            have cx6 := hEw6.cell cx
            go_wp2_with fail
            go_roundw
            case rel => exact ⟨x + 1, U + v, by omega, by omega, by go_num, rfl, (by have := HU.out; have := PX.out; show U + v = _; omega), by omega, by omega, (by repeat (first | exact Ext.refl _ | assumption | refine Ext.trans ?_ (Ext.alloc _ _) | refine Ext.trans ?_ (Ext.drew _) | refine Ext.trans ?_ (Ext.drewN _ _) | refine Ext.trans ?_ (by assumption)))⟩
            case measure => simp [intOf]; omega
          · have h9 : ((sq + T) == s) = false := by rw [beq_eq_false_iff_ne]; intro e; exact h8 ⟨by omega, e⟩
            have h9' : ¬ sq + T = s := by intro e; exact h8 ⟨by omega, e⟩
            have gT : decide (T < 0) = false := decide_eq_false hTn
            clear h8
            go_wp2_with fail
            refine wp_region_xw (w0 := wr) (by kernel_rfl) (by kernel_rfl) (by repeat (first | exact Ext.refl _ | assumption | refine Ext.trans ?_ (Ext.alloc _ _) | refine Ext.trans ?_ (Ext.drew _) | refine Ext.trans ?_ (Ext.drewN _ _) | refine Ext.trans ?_ (by assumption))) ?_; (repeat (go_big_quiet_step (fail))); refine wpQuiet_nil ?_; intro w6 hw'; obtain ⟨⟨_, hEw6⟩, hw''⟩ := hw'; subst hw''
            clear eq1 ek1 ek et
            have cx6 := hEw6.cell cx
            go_wp2_with fail
            go_roundw
            case rel => exact ⟨x + 1, U + v, by omega, by omega, by go_num, rfl, (by have := HU.out; have := PX.out; show U + v = _; omega), by omega, by omega, (by repeat (first | exact Ext.refl _ | assumption | refine Ext.trans ?_ (Ext.alloc _ _) | refine Ext.trans ?_ (Ext.drew _) | refine Ext.trans ?_ (Ext.drewN _ _) | refine Ext.trans ?_ (by assumption)))⟩
            case measure => simp [intOf]; omega
        · obtain rfl : x = j := by omega
          have hTs : T = s' := by rw [HTT.out]; have := J7.out; rw [HKQ.out] at this; exact evR_of this
          have hs0 := J7.out.s0
          have hTn : ¬ T < 0 := by omega
          have gT : decide (T < 0) = false := decide_eq_false hTn
          have h9 : sq + T = s := by have := J5.out; rw [HCO.out] at this; omega
          have h9' : ((sq + T) == s) = true := by rw [beq_iff_eq]; exact h9
          have J7' : Hid (EvAt hs d x q s' L') := by have := J7.out; rw [HKQ.out] at this; exact this
          clear hTs hs0
          go_wp2_with fail
          refine wp_region_xw (w0 := wr) (by kernel_rfl) (by kernel_rfl) (by repeat (first | exact Ext.refl _ | assumption | refine Ext.trans ?_ (Ext.alloc _ _) | refine Ext.trans ?_ (Ext.drew _) | refine Ext.trans ?_ (Ext.drewN _ _) | refine Ext.trans ?_ (by assumption))) ?_; (repeat (go_big_quiet_step (fail))); refine wpQuiet_nil ?_; intro w6 hw'; obtain ⟨⟨_, hEw6⟩, hw''⟩ := hw'; subst hw''
          clear eq1 ek1 ek et
          go_wp2_with (at_builtin; refine wp_app _ w4 rfl (.tmp 87) (.tmp 89) 29 rfl 3 _ 1 8 Try.underlying29 intInfo0 rfl (by omega) _ m _ rfl (ownsRow_ext hown (hEx.trans (hEw6.trans (Ext.alloc _ _)))) (hE4x.trans (hEw6.trans (Ext.alloc _ _))) _ _ _ 1 1 [.int .i64 (x : Int)] rfl rfl (rdA_new rfl (Ext.refl _)) (by simp [Value.oneCell']) (by omega) (by simp) ?_; intro v8 w8 hown8 hE8 hg8 hat8)
          go_roundw
          case rel => exact ⟨x, q, m + 1, s', L', E ++ [(x : Int)], hjn, HQ1.out, by omega, rfl, rfl, J7'.out, HDL.out, (by show (E ++ [(x : Int)]).length = m + 1; rw [List.length_append, HME.out]; rfl), by omega, by rw [List.map_append]; exact hown8, hE8⟩
          case measure => have := HQ.out; simp [intOf]; omega
    · have hk0 : K' = 0 := by have := J3.out; omega
      have hL' : L' = [] := by
        have h1 := J7.out.p
        rw [hk0] at h1
        have := bw_last h1
        injection this
      have hend : L0.dropLast = E := by have := HEL.out; rw [J6.out, hL'] at this; simpa using this.symm
      have HEND := Lib.hid hend
      have hlen : L0.dropLast.length = m := by rw [hend, HME.out]
      have HLEN := Lib.hid hlen
      obtain ⟨A', c', rfl, hc', _⟩ := own_form hown
      obtain ⟨_, rcz, rz1, bz, oz, rfl, rz2⟩ := ROW.out K0 wr (by omega) hE4r
      have hz0 := rz2 0 (by omega)
      rw [evR_of H00.out] at hz0
      have ez1 : ∀ y : XW wr, y.v.cell? ⟨bc, oc + K0, none⟩ = _ := fun y => y.h.cell rz1
      have ez : ∀ y : XW wr, y.v.cell? ⟨bz, oz + 0, none⟩ = _ := fun y => y.h.cell hz0
      rw [Nat.add_zero] at ez
      have g1 : ¬ (1 : Int) < (k : Int) := by omega
      have g2 : (K0 : Int) < (K0 : Int) + 1 := by omega
      have g3 : (0 : Int) < (ls.length : Int) + 1 := by omega
      have g4 : (0 : Int) ≤ (K0 : Int) := by omega
      clear hk0 hL' hend hlen rz2 hz0
      go_wp2_with fail
      refine wp_region_xw (w0 := wr) (by kernel_rfl) (by kernel_rfl) (by repeat (first | exact Ext.refl _ | assumption | refine Ext.trans ?_ (Ext.alloc _ _) | refine Ext.trans ?_ (Ext.drew _) | refine Ext.trans ?_ (Ext.drewN _ _) | refine Ext.trans ?_ (by assumption))) ?_; (repeat (go_big_quiet_step (fail))); refine wpQuiet_nil ?_; intro w7 hw'; obtain ⟨⟨_, hEw7⟩, hw''⟩ := hw'; subst hw''
      go_wp2_with fail
      go_ret3
      rw [HEVP.out]
      exact ⟨A', c', by rw [HLEN.out]; rfl, by rw [HLEN.out]; exact hc', by rw [HEND.out]; exact Rd.wide (Rd.of_own (ownsRow_ext hown hEw7)) hEw4.size (Nat.le_refl _) (Nat.le_refl _), (by repeat (first | exact Ext.refl _ | assumption | refine Ext.trans ?_ (Ext.alloc _ _) | refine Ext.trans ?_ (Ext.drew _) | refine Ext.trans ?_ (Ext.drewN _ _) | refine Ext.trans ?_ (by assumption)))⟩
end Go.Proofs.Ytnhddepmhelgiaa
