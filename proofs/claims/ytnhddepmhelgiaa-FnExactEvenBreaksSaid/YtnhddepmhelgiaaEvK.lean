/- The reference's table of even pages: its walk. -/
import Derived.Test.YtnhddepmhelgiaaEvJ
import Derived.Test.YtnhddepmhelgiaaPaH
import Derived.Test.YtnhddepmhelgiaaPaQ
import Derived.Test.YtnhddepmhelgiaaXw
import Derived.BigRegion
namespace Go.Proofs.Ytnhddepmhelgiaa
open Go.RowKit
set_option linter.unusedVariables false
theorem spec_ownO (A : Option Addr) (c n : Nat) (l : List Int) (lo hi : Nat) (w : World) (hn : l.length = n) (hl : n ≤ 1048577) (hr : RdA w lo hi A (l.map (Value.int .i64))) :
    Calls Try.prog 66 #[.slice A n c] w fun e w' => ∃ v, e = .returned v ∧ w'.ownsRow w.heap.size 3 1 v n (l.map (Value.int .i64)) ∧ Ext w w' := by
  subst hn
  have hno : A = none → l.length = 0 := fun h => by have := hr.none_ h; simpa using this
  have HNO := Lib.hid hno; clear hno
  go_enter Try.func66, Try.ntmps66
  go_wp2_with (at_builtin; refine wp_app _ w rfl (.tmp 3) (.tmp 4) 29 rfl 3 _ 1 8 Try.underlying29 intInfo0 rfl (by omega) _ 0 [] rfl (own_lit0 _ _ (Nat.le_refl _) (Ext.refl _)) (by repeat (first | exact Ext.refl _ | assumption | refine Ext.trans ?_ (Ext.alloc _ _) | refine Ext.trans ?_ (Ext.drew _) | refine Ext.trans ?_ (Ext.drewN _ _) | refine Ext.trans ?_ (by assumption))) _ _ _ l.length _ (l.map (Value.int .i64)) rfl (by simp) (hr.ext (by repeat (first | exact Ext.refl _ | assumption | refine Ext.trans ?_ (Ext.alloc _ _) | refine Ext.trans ?_ (Ext.drew _) | refine Ext.trans ?_ (Ext.drewN _ _) | refine Ext.trans ?_ (by assumption)))) (ints_one l) (by omega) HNO.out ?_; intro v2 w2 hown2 hE2 hg2 hat2)
  rw [Nat.zero_add, List.nil_append] at hown2
  go_ret
  exact ⟨_, rfl, hown2, hE2⟩
theorem RdI.top {w w' : World} {lo lo' hi : Nat} {A : Option Addr} {l : List Int} (h : RdI w lo hi A l) (h1 : lo' ≤ lo) (hE : Ext w w') : RdI w' lo' w'.heap.size A l := Rd.wide (RdI.ext h hE) h1 (RdI.ext h hE).1 (Nat.le_refl _)
theorem RdII.low {w : World} {lo lo' hi : Nat} {A : Option Addr} {ls : List (List Int)} (h : RdII w lo hi A ls) (hl : lo' ≤ lo) : RdII w lo' hi A ls := by
  obtain ⟨rs, p0, q0, h1, h2, h3, h4, h5, h6, h7⟩ := h
  exact ⟨rs, p0, q0, h1, by omega, h3, h4, h5, fun i r l hr hm => by
    obtain ⟨g1, g2, g3, g4, g5⟩ := h6 i r l hr hm
    exact ⟨g1, g2, by omega, g4, g5⟩, h7⟩
def RetTab (w : World) (ls : List (List Int)) (m : Nat) (e : Ending) (w' : World) : Prop := ∃ A c, e = .returned (.slice A m c) ∧ RdII w' w.heap.size w'.heap.size A ls ∧ Ext w w'
set_option maxRecDepth 100000 in
set_option maxHeartbeats 4000000 in
theorem spec_plCosts (A : Option Addr) (c n : Nat) (hs : List Int) (d : Int) (m : Nat) (lo hi : Nat) (w : World) (hn : hs.length = n) (ho : EvOk hs d) (hm : m ≤ 26) (hr : RdI w lo hi A hs) :
    Calls Try.prog 59 #[.slice A n c, .int .i64 (m : Int), .int .i64 d] w (RetTab w (evTab hs d (m + 1)) (m + 1)) := by
  subst hn
  have HOK := Lib.hid ho
  have h24 := ho.len
  have hd1 := ho.d1
  have hd2 := ho.d2
  clear ho
  go_enter Try.func59, Try.ntmps59
  go_wp2
  go_loopw [7, 18] (fun v i wr => ∃ k : Nat, k ≤ hs.length ∧ i = .int .i64 (k : Int) ∧ wr.ownsRow w.heap.size 3 1 v k ((rowF k (fun _ => -1)).map (Value.int .i64)) ∧ Ext w wr) (fun _ i _ => hs.length - (intOf i).toNat)
  case atStart => exact ⟨0, Nat.zero_le _, rfl, own_nil _ _ _ _, Ext.refl _⟩
  case round =>
    obtain ⟨k, hk, rfl, hown, hE⟩ := hrel
    by_cases hlt : k < hs.length
    · have g1 : (k : Int) < (hs.length : Int) := by omega
      go_wp2_with (at_builtin; refine wp_app _ w rfl (.tmp 20) (.tmp 21) 29 rfl 3 _ 1 8 Try.underlying29 intInfo0 rfl (by omega) _ k _ rfl (ownsRow_ext hown (Ext.alloc _ _)) (by repeat (first | exact Ext.refl _ | assumption | refine Ext.trans ?_ (Ext.alloc _ _) | refine Ext.trans ?_ (Ext.drew _) | refine Ext.trans ?_ (Ext.drewN _ _) | refine Ext.trans ?_ (by assumption))) _ _ _ 1 1 [.int .i64 (-1)] rfl rfl (rdA_new rfl (Ext.refl _)) (by simp [Value.oneCell']) (by omega) (by simp) ?_; intro v3 w3 hown3 hE3 hg3 hat3)
      go_roundw
      case rel => exact ⟨k + 1, by omega, by go_num, by rw [rowF_snoc, List.map_append]; exact hown3, hE3⟩
      case measure => simp [intOf]; omega
    · have hkn : k = hs.length := by omega
      subst hkn
      clear hlt hk
      obtain ⟨A1, c1, rfl, hc1, _⟩ := own_form hown
      have hN1 : RdI wr w.heap.size wr.heap.size A1 (rowF hs.length (fun _ => -1)) := Rd.of_own hown
      obtain ⟨wn, rfl⟩ : ∃ wn : World, wn = wr := ⟨_, rfl⟩
      have hsn := hE.size
      go_wp2_with fail
      refine (spec_ownO A1 c1 hs.length _ _ _ _ (rowF_len _ _) (by omega) hN1.toA).mono ?_
      rintro e w2 ⟨v2, rfl, hown2, hE2⟩
      have hs2 := hE2.size
      go_wp2_with ((at_builtin; refine wp_app _ wn rfl (.tmp 25) (.tmp 26) 29 rfl 3 _ 1 8 Try.underlying29 intInfo0 rfl (by omega) _ hs.length _ rfl (ownsRow_ext hown2 (Ext.alloc _ _)) (by repeat (first | exact Ext.refl _ | assumption | refine Ext.trans ?_ (Ext.alloc _ _) | refine Ext.trans ?_ (Ext.drew _) | refine Ext.trans ?_ (Ext.drewN _ _) | refine Ext.trans ?_ (by assumption))) _ _ _ 1 1 [.int .i64 0] rfl rfl (rdA_new rfl (Ext.refl _)) (by simp [Value.oneCell']) (by omega) (by simp) ?_; intro v4 w4 hown4 hE4 hg4 hat4); obtain ⟨A4, c4, hv4, hc4, _⟩ := own_form hown4; subst hv4)
      have hR4 : RdI w4 wn.heap.size w4.heap.size A4 (evRow hs d 0) := by
        rw [evRow_zero]
        have := Rd.of_own hown4
        rw [RdI, List.map_append]
        exact this
      have hl0 : (evRow hs d 0).length = hs.length + 1 := rowF_len _ _
      have hG0 := GrowII.one (base := wn.heap.size) (e := 29) (c := c4) (by rw [hl0]; exact hc4) hR4 (Nat.le_refl _) (by have := hE4.size; omega)
      rw [hl0] at hG0
      have hs4 := hE4.size
      have HG0 := Lib.hid hG0
      clear hG0 hl0 hown hown2 hown4 hg4 hat4
      go_loopw [8, 9] (fun ov pv wr => ∃ (p : Nat) (rs : List Row), 1 ≤ p ∧ p ≤ m + 1 ∧ pv = .int .i64 (p : Int) ∧ Hid (GrowII wr wn.heap.size 29 ov (evTab hs d p) rs) ∧ Ext wn wr) (fun _ pv _ => m + 2 - (intOf pv).toNat)
      case atStart => exact ⟨1, _, Nat.le_refl _, by omega, rfl, HG0.out, (by repeat (first | exact Ext.refl _ | assumption | refine Ext.trans ?_ (Ext.alloc _ _) | refine Ext.trans ?_ (Ext.drew _) | refine Ext.trans ?_ (Ext.drewN _ _) | refine Ext.trans ?_ (by assumption)))⟩
      case round =>
        obtain ⟨p, rs, hp1, hpm, rfl, HG, hEn⟩ := hrel
        obtain ⟨wp, rfl⟩ : ∃ wp : World, wp = wr := ⟨_, rfl⟩
        have hsp := hEn.size
        by_cases hpl : p ≤ m
        · have g1 : (p : Int) ≤ (m : Int) := by omega
          obtain ⟨go_, co, hov, hgo1, hgo2, hgoc⟩ := own_some HG.out.2.1 (by rw [evTab_len]; omega)
          rw [evTab_len] at hov
          subst hov
          have hRR := HG.out.rd (by omega)
          obtain ⟨q, hq⟩ : ∃ q, p = q + 1 := ⟨p - 1, by omega⟩
          obtain ⟨⟨ra, rc, rp, rq⟩, rl, b0, off0, HX0, eA, hb0, c0, _, hR0, _, _⟩ := RdII.get hRR (k := q) (by rw [evTab_len]; omega)
          injection eA with eA; injection eA with eb eo _; subst eb; subst eo
          have hrl : rl = evRow hs d q := by have := HX0.out; rw [evTab_at (by omega)] at this; injection this with this; exact this.symm
          subst hrl
          simp only at c0 hR0
          have hl0 : (evRow hs d q).length = hs.length + 1 := rowF_len _ _
          rw [hl0, Nat.zero_add] at c0
          have hN := RdI.ext hN1 hEn
          obtain ⟨_, bq, oq, _, rfl, _, _, _, _, _⟩ := RdI.get hR0 (k := 0) (by rw [hl0]; omega)
          have hqp : (q : Int) < (p : Int) := by omega
          have hq0 : (0 : Int) ≤ (q : Int) := by omega
          have kq : IntKind.i64.wrap ((p : Int) - 1) = (q : Int) := by rw [show (p : Int) - 1 = q by omega]; exact IntWalk.i64_in _ (by omega)
          have HQ := Lib.hid hq
          clear hRR HX0 hl0 hq
          go_wp2_with fail
          refine (spec_ownO A1 c1 hs.length _ _ _ _ (rowF_len _ _) (by omega) hN.toA).mono ?_
          rintro e w5 ⟨v5, rfl, hown5, hE5⟩
          have hs5 := hE5.size
          go_wp2_with (at_builtin; refine wp_app _ wp rfl (.tmp 35) (.tmp 36) 29 rfl 3 _ 1 8 Try.underlying29 intInfo0 rfl (by omega) _ hs.length _ rfl (ownsRow_ext hown5 (Ext.alloc _ _)) (by repeat (first | exact Ext.refl _ | assumption | refine Ext.trans ?_ (Ext.alloc _ _) | refine Ext.trans ?_ (Ext.drew _) | refine Ext.trans ?_ (Ext.drewN _ _) | refine Ext.trans ?_ (by assumption))) _ _ _ 1 1 [.int .i64 (-1)] rfl rfl (rdA_new rfl (Ext.refl _)) (by simp [Value.oneCell']) (by omega) (by simp) ?_; intro v6 w6 hown6 hE6 hg6 hat6)
          obtain ⟨g6, c6, rfl, hg61, hg62, hc6⟩ := own_some hown6 (by omega)
          have hR6 : RdI w6 wp.heap.size w6.heap.size (some ⟨g6, 0, none⟩) (rowF (hs.length + 1) (fun _ => -1)) := by
            rw [rowF_snoc, RdI, List.map_append]
            exact Rd.of_own hown6
          have hs6 := hE6.size
          have HR6 := Lib.hid hR6
          obtain ⟨H, hH⟩ : ∃ H, H = w6.heap.size := ⟨_, rfl⟩
          rw [← hH] at hR6
          have hHle : H ≤ w6.heap.size := by omega
          have hHp : wp.heap.size ≤ H := by omega
          have hg6H : g6 < H := by omega
          clear hown5 hown6 hg6 hat6 HR6 hH hN
          go_loopw [40] (fun iv wr => ∃ (i : Nat), i ≤ hs.length ∧ iv = .int .i64 (i : Int) ∧ RdI wr wp.heap.size H (some ⟨g6, 0, none⟩) (rowF (hs.length + 1) (fun j => if j < i then evR hs d p j else -1)) ∧ Ext wp wr ∧ H ≤ wr.heap.size) (fun iv _ => hs.length - (intOf iv).toNat)
          case atStart => exact ⟨0, Nat.zero_le _, rfl, by rw [rowF_congr (g := fun _ => -1) (fun j _ => if_neg (by omega))]; exact hR6, hE6, hHle⟩
          case round =>
            obtain ⟨i, hi, rfl, hRi, hEi, hHi⟩ := hrel
            by_cases hlt : i < hs.length
            · have g2 : (i : Int) < (hs.length : Int) := by omega
              go_wp2_with fail
              go_loopw [12, 13] (fun uv jv wr => ∃ (t J : Nat) (U : Int), Hid (J = i + t) ∧ i ≤ J ∧ J ≤ hs.length ∧ jv = .int .i64 (J : Int) ∧ uv = .int .i64 U ∧ Hid (U = pf hs J - pf hs i) ∧ 0 ≤ U ∧ U ≤ d ∧ RdI wr wp.heap.size H (some ⟨g6, 0, none⟩) (rowF (hs.length + 1) (fun j => if j < i then evR hs d p j else if j = i then evW hs d q i t else -1)) ∧ Ext wp wr ∧ H ≤ wr.heap.size) (fun _ jv _ => hs.length - (intOf jv).toNat)
              case atStart => exact ⟨0, i, 0, rfl, Nat.le_refl _, hi, rfl, rfl, (by show (0 : Int) = _; omega), Int.le_refl _, by omega, by
                rw [rowF_congr (fun j hj => ?_)]
                · exact hRi
                · by_cases e : j < i
                  · rw [if_pos e, if_pos e]
                  · rw [if_neg e, if_neg e, evW_zero]; split <;> rfl, hEi, hHi⟩
              case round =>
                obtain ⟨t, J, U, HJ, hiJ, hJn, rfl, rfl, HU, hU0, hUd, hRt, hEt, hHt⟩ := hrel
                by_cases hJl : J < hs.length
                · obtain ⟨x, b, off, HX, rfl, _, _, h3, x0, _⟩ := RdI.get (hr.ext ((hE.trans hEn).trans hEt)) hJl
                  have hxb := HOK.out.row x (List.mem_of_getElem? HX.out)
                  obtain ⟨xb0, xb1⟩ := hxb
                  have hU2 : U + x = pf hs (J + 1) - pf hs i := by rw [pf_succ HX.out]; have := HU.out; omega
                  have HU2 := Lib.hid hU2
                  have k1 : IntKind.i64.wrap (U + x) = U + x := IntWalk.i64_in _ (by omega)
                  have g3 : (J : Int) < (hs.length : Int) := by omega
                  have g4 : (0 : Int) ≤ (J : Int) := by omega
                  have U0 : Hid (0 ≤ U + x) := by show _ ≤ _; omega
                  clear hU2
                  by_cases hok : U + x ≤ d
                  · have HOKU := Lib.hid hok
                    obtain ⟨T, hT⟩ : ∃ T, T = evR hs d q (J + 1) := ⟨_, rfl⟩
                    obtain ⟨V, hV⟩ : ∃ V, V = evW hs d q i t := ⟨_, rfl⟩
                    obtain ⟨sq, hsq⟩ : ∃ y, y = (d - (U + x)) * (d - (U + x)) := ⟨_, rfl⟩
                    obtain ⟨sq0, sq1⟩ := sq_small (t := d - (U + x)) (by omega) (by omega)
                    rw [← hsq] at sq0 sq1
                    have hTb := evR_bound HOK.out (p := q) (i := J + 1) (by omega)
                    have hVb := evW_ge HOK.out q i t (by have := HJ.out; omega)
                    have hstep := evW_step HOK.out (p := q) HJ.out hJl (by rw [← HU2.out]; exact hok)
                    rw [← HU2.out, ← hsq, ← hT, ← hV] at hstep
                    rw [← hT] at hTb; rw [← hV] at hVb
                    obtain ⟨tb0, tb1⟩ := hTb
                    obtain ⟨vb0, vb1⟩ := hVb
                    have k2 : IntKind.i64.wrap (d - (U + x)) = d - (U + x) := IntWalk.i64_in _ (by omega)
                    have k3 : IntKind.i64.wrap ((d - (U + x)) * (d - (U + x))) = sq := by rw [← hsq]; exact IntWalk.i64_in _ (by omega)
                    have k4 : IntKind.i64.wrap (sq + T) = sq + T := IntWalk.i64_in _ (by omega)
                    have k5 : IntKind.i64.wrap ((J : Int) + 1) = (J : Int) + 1 := IntWalk.i64_in _ (by omega)
                    have k6 : ((J : Int) + 1).toNat = J + 1 := by omega
                    have g5 : (J : Int) + 1 < (hs.length : Int) + 1 := by omega
                    have g6' : (0 : Int) ≤ (J : Int) + 1 := by omega
                    have g7 : (0 : Int) ≤ (i : Int) := by omega
                    have g8 : (i : Int) < (hs.length : Int) + 1 := by omega
                    obtain ⟨y0, bb, ob, HY, eb2, _, _, _, tc, _⟩ := RdI.get (RdI.ext hR0 hEt) (k := J + 1) (by rw [show (evRow hs d q).length = hs.length + 1 from rowF_len _ _]; omega)
                    injection eb2 with eb2; injection eb2 with e1 e2 _; subst e1; subst e2
                    have hy0 : y0 = T := by have := HY.out; rw [evRow, rowF_at _ (by omega), ← hT] at this; injection this with this; exact this.symm
                    subst hy0
                    obtain ⟨v0, bv, ov, HV, ev2, _, _, hbv, vc, vfz⟩ := RdI.get hRt (k := i) (by rw [rowF_len]; omega)
                    injection ev2 with ev2; injection ev2 with e1 e2 _; subst e1; subst e2
                    have hv0 : v0 = V := by have := HV.out; rw [rowF_at _ (by omega), if_neg (by omega), if_pos rfl, ← hV] at this; injection this with this; exact this.symm
                    subst hv0
                    rw [Nat.zero_add] at vc vfz
                    have cq := hEt.cell c0
                    have eo : ∀ y : XW wr, y.v.cell? ⟨go_, q, none⟩ = _ := fun y => y.h.cell cq
                    have et : ∀ y : XW wr, y.v.cell? ⟨bq, oq + (J + 1), none⟩ = _ := fun y => y.h.cell tc
                    have HVV := Lib.hid hV
                    clear HY HV hT hV hsq tc cq
                    go_wp2_with fail
                    refine wp_region_xw (w0 := wr) (by kernel_rfl) (by kernel_rfl) (by repeat (first | exact Ext.refl _ | assumption | refine Ext.trans ?_ (Ext.alloc _ _) | refine Ext.trans ?_ (Ext.drew _) | refine Ext.trans ?_ (Ext.drewN _ _) | refine Ext.trans ?_ (by assumption))) ?_; (repeat (go_big_quiet_step (fail))); refine wpQuiet_nil ?_; intro w7 hw'; obtain ⟨⟨_, hEw7⟩, hw''⟩ := hw'; subst hw''
                    have vc7 := hEw7.cell vc
                    have vf7 : w7.frozen? ⟨g6, i, none⟩ = false := by rw [← vfz]; exact (bcell hEw7).2 g6 i hbv
                    have hb7 : g6 < w7.heap.size := by have := hEw7.size; omega
                    clear eo et vc vfz k1 k2 k3 k5
                    rcases hstep with ⟨a1, a2⟩ | ⟨a1, a2, a3⟩ | ⟨a1, a2, a3, a4⟩
                    · have W2 := Lib.hid a2
                      clear a2
                      go_wp2_with fail
                      go_roundw
                      case rel => exact ⟨t + 1, J + 1, U + x, (by have := HJ.out; show J + 1 = _; omega), by omega, by omega, by go_num, rfl, HU2.out, U0.out, HOKU.out, by rw [W2.out, HVV.out]; exact hRt.ext hEw7, (by repeat (first | exact Ext.refl _ | assumption | refine Ext.trans ?_ (Ext.alloc _ _) | refine Ext.trans ?_ (Ext.drew _) | refine Ext.trans ?_ (Ext.drewN _ _) | refine Ext.trans ?_ (by assumption))), by have := hEw7.size; omega⟩
                      case measure => simp [intOf]; omega
                    · have W2 := Lib.hid a3
                      clear a3
                      by_cases hneg : v0 < 0
                      · clear a2
                        go_wp2_with fail
                        obtain ⟨w8, hw8⟩ : ∃ y, y = w7.setCell ⟨g6, i, none⟩ (.int .i64 (sq + y0)) := ⟨_, rfl⟩
                        rw [← hw8]
                        have hR8 : RdI w8 wp.heap.size H (some ⟨g6, 0, none⟩) (rowF (hs.length + 1) (fun j => if j < i then evR hs d p j else if j = i then evW hs d q i (t + 1) else -1)) := by
                          have := RdI.setF (hRt.ext hEw7) (k := i) (by omega) (sq + y0)
                          rw [Nat.zero_add, ← hw8] at this
                          rw [rowF_congr (fun j hj => ?_)]
                          · exact this
                          · by_cases e : j = i
                            · subst e; rw [if_neg (by omega), if_pos rfl, if_pos rfl, W2.out]
                            · by_cases e2 : j < i
                              · rw [if_pos e2, if_neg e, if_pos e2]
                              · rw [if_neg e2, if_neg e, if_neg e, if_neg e2, if_neg e]
                        have hE8 : Ext wp w8 := by rw [hw8]; exact Ext.setCell (hEt.trans hEw7) hg61 _
                        have hs8 : w7.heap.size ≤ w8.heap.size := by rw [hw8]; simp [World.setCell]
                        clear hw8
                        go_roundw
                        case rel => exact ⟨t + 1, J + 1, U + x, (by have := HJ.out; show J + 1 = _; omega), by omega, by omega, by go_num, rfl, HU2.out, U0.out, HOKU.out, hR8, hE8, by have := hEw7.size; omega⟩
                        case measure => simp [intOf]; omega
                      · have a5 : sq + y0 < v0 := a2.resolve_left hneg
                        clear a2
                        go_wp2_with fail
                        obtain ⟨w8, hw8⟩ : ∃ y, y = w7.setCell ⟨g6, i, none⟩ (.int .i64 (sq + y0)) := ⟨_, rfl⟩
                        rw [← hw8]
                        have hR8 : RdI w8 wp.heap.size H (some ⟨g6, 0, none⟩) (rowF (hs.length + 1) (fun j => if j < i then evR hs d p j else if j = i then evW hs d q i (t + 1) else -1)) := by
                          have := RdI.setF (hRt.ext hEw7) (k := i) (by omega) (sq + y0)
                          rw [Nat.zero_add, ← hw8] at this
                          rw [rowF_congr (fun j hj => ?_)]
                          · exact this
                          · by_cases e : j = i
                            · subst e; rw [if_neg (by omega), if_pos rfl, if_pos rfl, W2.out]
                            · by_cases e2 : j < i
                              · rw [if_pos e2, if_neg e, if_pos e2]
                              · rw [if_neg e2, if_neg e, if_neg e, if_neg e2, if_neg e]
                        have hE8 : Ext wp w8 := by rw [hw8]; exact Ext.setCell (hEt.trans hEw7) hg61 _
                        have hs8 : w7.heap.size ≤ w8.heap.size := by rw [hw8]; simp [World.setCell]
                        clear hw8
                        go_roundw
                        case rel => exact ⟨t + 1, J + 1, U + x, (by have := HJ.out; show J + 1 = _; omega), by omega, by omega, by go_num, rfl, HU2.out, U0.out, HOKU.out, hR8, hE8, by have := hEw7.size; omega⟩
                        case measure => simp [intOf]; omega
                    · have W2 := Lib.hid a4
                      clear a4
                      go_wp2_with fail
                      go_roundw
                      case rel => exact ⟨t + 1, J + 1, U + x, (by have := HJ.out; show J + 1 = _; omega), by omega, by omega, by go_num, rfl, HU2.out, U0.out, HOKU.out, by rw [W2.out, HVV.out]; exact hRt.ext hEw7, (by repeat (first | exact Ext.refl _ | assumption | refine Ext.trans ?_ (Ext.alloc _ _) | refine Ext.trans ?_ (Ext.drew _) | refine Ext.trans ?_ (Ext.drewN _ _) | refine Ext.trans ?_ (by assumption))), by have := hEw7.size; omega⟩
                      case measure => simp [intOf]; omega
                  · have g9 : ¬ U + x ≤ d := hok
                    have hst := evW_stop HOK.out (p := q) (i := i) (t := t) hlt (by have := HJ.out; omega) (.inr (by rw [← HJ.out, ← HU2.out]; omega))
                    rw [← HQ.out] at hst
                    have HST := Lib.hid hst
                    clear hst
                    go_wp2_with fail
                    go_roundw
                    case rel => exact ⟨i + 1, by omega, by go_num, by
                      rw [rowF_congr (fun j hj => ?_)]
                      · exact hRt
                      · by_cases e : j < i
                        · rw [if_pos e, if_pos (by omega)]
                        · by_cases e2 : j = i
                          · subst e2; rw [if_neg e, if_pos rfl, if_pos (by omega), HST.out]
                          · rw [if_neg e, if_neg e2, if_neg (by omega)], hEt, hHt⟩
                    case measure => simp [intOf]; omega
                · have g3 : ¬ (J : Int) < (hs.length : Int) := by omega
                  have hst := evW_stop HOK.out (p := q) (i := i) (t := t) hlt (by have := HJ.out; omega) (.inl (by have := HJ.out; omega))
                  rw [← HQ.out] at hst
                  have HST := Lib.hid hst
                  clear hst
                  go_wp2_with fail
                  go_roundw
                  case rel => exact ⟨i + 1, by omega, by go_num, by
                    rw [rowF_congr (fun j hj => ?_)]
                    · exact hRt
                    · by_cases e : j < i
                      · rw [if_pos e, if_pos (by omega)]
                      · by_cases e2 : j = i
                        · subst e2; rw [if_neg e, if_pos rfl, if_pos (by omega), HST.out]
                        · rw [if_neg e, if_neg e2, if_neg (by omega)], hEt, hHt⟩
                  case measure => simp [intOf]; omega
            · have hin : i = hs.length := by omega
              subst hin
              clear hlt hi
              have hlr : (evRow hs d p).length = hs.length + 1 := rowF_len _ _
              have hrow : rowF (hs.length + 1) (fun j => if j < hs.length then evR hs d p j else -1) = evRow hs d p := rowF_congr (fun j hj => by
                by_cases e : j < hs.length
                · rw [if_pos e]
                · rw [if_neg e, HQ.out, show j = hs.length by omega, evR_end])
              rw [hrow] at hRi
              have HLR := Lib.hid hlr
              have htl : (evTab hs d p).length ≤ 30 := by rw [evTab_len]; omega
              have g3 : ¬ (hs.length : Int) < (hs.length : Int) := by omega
              clear hlr hrow
              go_wp2_with (at_builtin; refine wp_app _ wn rfl (.tmp 108) (.tmp 110) 22 rfl 29 _ 1 24 Try.underlying22 sliceInfo rfl (by omega) _ _ _ rfl (ownsRow_ext HG.out.2.1 (hEi.trans (Ext.alloc _ _))) (hEn.trans (hEi.trans (Ext.alloc _ _))) _ _ _ 1 1 [.slice (some ⟨g6, 0, none⟩) (hs.length + 1) c6] rfl rfl (rdA_new rfl (Ext.refl _)) (by simp [Value.oneCell']) (by omega) (by simp) ?_; intro v7 w7 hown7 hE7 hg7 hat7)
              go_roundw
              case rel => exact ⟨p + 1, _, by omega, by omega, by go_num, (by show GrowII _ _ _ _ _ _; rw [evTab_snoc]; exact HG.out.push hEi (c := c6) (by rw [HLR.out]; exact hc6) (Rd.wide hRi (Nat.le_refl _) hHi (Nat.le_refl _)) (by omega) (by rw [HLR.out]; exact hown7) _ hg7 hat7), hE7⟩
              case measure => simp [intOf]; omega
        · have hpe : p = m + 1 := by omega
          have g1 : ¬ (p : Int) ≤ (m : Int) := by omega
          obtain ⟨go_, co, hov, hgo1, hgo2, hgoc⟩ := own_some HG.out.2.1 (by rw [evTab_len]; omega)
          rw [evTab_len] at hov
          subst hov
          have hRR := HG.out.rd (by omega)
          rw [hpe] at hRR
          have HPE := Lib.hid hpe
          clear hpe
          go_wp2_with fail
          go_ret
          exact ⟨some ⟨go_, 0, none⟩, co, by rw [HPE.out]; rfl, hRR.low hsn, (by repeat (first | exact Ext.refl _ | assumption | refine Ext.trans ?_ (Ext.alloc _ _) | refine Ext.trans ?_ (Ext.drew _) | refine Ext.trans ?_ (Ext.drewN _ _) | refine Ext.trans ?_ (by assumption)))⟩
end Go.Proofs.Ytnhddepmhelgiaa
