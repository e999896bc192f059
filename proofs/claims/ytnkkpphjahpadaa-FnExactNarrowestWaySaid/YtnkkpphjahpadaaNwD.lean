/- The walk of NarrowestWay: the reference's. -/
import Derived.Test.YtnkkpphjahpadaaNwC
namespace Go.Proofs.Ytnkkpphjahpadaa
open Go.RowKit
set_option linter.unusedVariables false
theorem sliceInfo0 : (Try.prog.info? 34).map (fun i => (i.zero, i.size, i.bytes)) = some (some (.slice none 0 0), 1, 24) := by kernel_rfl
theorem boolInfo0 : (Try.prog.info? 4).map (fun i => (i.zero, i.size, i.bytes)) = some (some (.bool false), 1, 1) := by kernel_rfl
theorem nwT_zero_get (f : List Srt) (r : List UInt8) (e : Nat) : (nwT f r 0 e).getD [] = [] := by
  unfold nwT; split <;> rfl
theorem nwT_zero_some (f : List Srt) (r : List UInt8) (e : Nat) : (nwT f r 0 e).isSome = decide (e = 0) := by
  unfold nwT
  by_cases h : e = 0
  · rw [if_pos h, decide_eq_true h]; rfl
  · rw [if_neg h, decide_eq_false h]; rfl
theorem nwT_round {f : List Srt} {r : List UInt8} {L d a : Nat} (h : a + d + 1 = L) (hr : r.length = L) (p : Nat) (hp : p ≤ L) : nwT f r (d + 1) (L - p) = if p = a then bestW f (fun c => nwT f r d (d + 1 - c)) (r.drop a) f.length else nwT f r d (L - p) := by
  by_cases e : p = a
  · subst e
    rw [if_pos rfl, show L - p = d + 1 by omega, nwT_new, hr, show L - (d + 1) = p by omega]
  · rw [if_neg e, nwT_same (by omega)]
theorem own_lit1 {w w' : World} (u : Value) (e : TypeId) {base : Nat} (hb : base ≤ w.heap.size) (hE : Ext (w.alloc (.cells #[u] e)) w') : w'.ownsRow base e 1 (.slice (some ⟨w.heap.size, 0, none⟩) 1 1) 1 [u] :=
  ownsRow_ext ⟨by simp, .inr ⟨w.heap.size, 1, #[u], rfl, hb, heap_alloc_new w _, Nat.le_refl _, by simp [maxLen], by simp, by simp⟩⟩ hE
theorem ints_one (l : List Int) : ∀ u ∈ l.map (Value.int .i64), u.oneCell' = true := by
  intro u hu
  obtain ⟨x, _, rfl⟩ := List.mem_map.1 hu
  rfl
theorem tabS_new {w : World} {G : Nat} {t : TypeId} {cs : Array Value} {N lo : Nat} {R : Nat → List Int} (hB : Blk w G t cs) (hF : FillV cs N (fun _ => .slice none 0 0)) (hR : ∀ i, i < N → R i = []) (hlo : lo ≤ w.heap.size) : TabS w G t cs N lo R :=
  ⟨hB, hF.1, fun i hi => ⟨none, 0, by rw [hR i hi]; exact hF.2 i hi, by rw [hR i hi]; exact Nat.le_refl _, by rw [hR i hi]; exact Rd.nil (Nat.le_refl _)⟩⟩
theorem blk_far {w : World} {g : Nat} {t : TypeId} {cs : Array Value} (h : Blk w g t cs) {b o : Nat} (hne : ¬ g = b) (u : Value) : Blk (w.setCell ⟨b, o, none⟩ u) g t cs :=
  (Below.heap_setCell _ _ _ _ (fun e => hne e)).trans h
theorem wsum_bd {f : List Srt} (hf : font f = true) (xs : List Int) (h : xs.length ≤ 17) : 0 ≤ wsum f xs ∧ wsum f xs ≤ 1000 := by
  have := wsum_in hf xs; omega
theorem RdI.ext6 {w w' : World} {lo : Nat} {A : Option Addr} {l : List Int} (h : RdI w lo w.heap.size A l) (hE : Ext w w') : RdI w' lo w'.heap.size A l := Rd.wide (Rd.ext h hE) (Nat.le_refl _) hE.size (Nat.le_refl _)
set_option maxRecDepth 20000 in
set_option maxHeartbeats 4000000 in
theorem spec_NarrowestWay (A : Option Addr) (c : Nat) (f : List Srt) (word : ByteArray) (lo hi : Nat) (w : World) (hl : f.length ≤ 1048577) (hb : ∀ s ∈ f, s.code.size ≤ 1048577) (hw : word.size ≤ 1048577) (hr : RdS w lo hi A f) :
    Calls Try.prog 24 #[.slice A f.length c, .string word] w (RetI3 w (nwP f word)) := by
  cases hask : asked f word
  · rw [nwP_bad hask]
    go_enter Try.func24, Try.ntmps24
    go_wp2_with (go_at_call 61; refine (spec_tyAsked A c f word lo hi _ hl hb hw hr).mono ?_; rintro e w1 ⟨rfl, hE1⟩; obtain ⟨hc1, hf1⟩ := bcell hE1; have hs1 := hE1.size; (try simp only [World.size_alloc] at hs1))
    go_ret3
    exact retI3_lit (by repeat (first | exact Ext.refl _ | assumption | refine Ext.trans ?_ (Ext.alloc _ _) | refine Ext.trans ?_ (Ext.drew _) | refine Ext.trans ?_ (Ext.drewN _ _) | refine Ext.trans ?_ (by assumption)))
  obtain ⟨hf, hw1, hw2⟩ := asked_parts hask
  have HFT := Lib.hid hf
  obtain ⟨L, hL⟩ : ∃ L, word.size = L := ⟨_, rfl⟩
  obtain ⟨r, hrr⟩ : ∃ r, r = bl word := ⟨_, rfl⟩
  have hrl : r.length = L := by rw [hrr, bl_len, hL]
  have HRL := Lib.hid hrl; have HRR := Lib.hid hrr
  have hnB : nwB f word = nwT f r L L := by rw [nwB, hrr, hL]
  obtain ⟨Z, hZ⟩ : ∃ Z, Z = nwP f word := ⟨_, rfl⟩
  rw [← hZ]
  have HZ := Lib.hid hZ; have HNB := Lib.hid hnB; have HASK := Lib.hid hask
  have HLW := Lib.hid hL
  obtain ⟨hf1, hf2⟩ := font_len hf
  obtain ⟨_, b0, off0, _, eA, _, _, _⟩ := RdS.get hr (k := 0) (by omega)
  subst eA
  have HB := Lib.hid hb
  obtain ⟨cs1, hmk1, hfv1⟩ := make_ones (P := Try.prog) 78 34 _ 24 Try.underlying78 sliceInfo0 rfl (L + 1) (by omega) (by omega)
  obtain ⟨cs2, hmk2, hfv2⟩ := make_ones (P := Try.prog) 79 4 _ 1 Try.underlying79 boolInfo0 rfl (L + 1) (by omega) (by omega)
  rw [show ((L + 1 : Nat) : Int) = (L : Int) + 1 from by omega] at hmk1 hmk2
  have hcsL : cs2[L]? = some (.bool false) := hfv2.2 L (by omega)
  have HV1 := Lib.hid hfv1; have HV2 := Lib.hid hfv2
  clear hrl hrr hZ hnB hf hb hfv1 hfv2
  have HT : Hid (asked f word = true) := hask
  go_enter Try.func24, Try.ntmps24
  go_wp2_with (go_at_call 61; refine (spec_tyAsked _ c f word lo hi _ hl HB.out hw hr).mono ?_; rintro e w1 ⟨rfl, hE1⟩; obtain ⟨hc1, hf1⟩ := bcell hE1; have hs1 := hE1.size; (try simp only [World.size_alloc] at hs1))
  clear hcsL hmk1 hmk2
  obtain ⟨G, hG⟩ : ∃ G, G = w1.heap.size := ⟨_, rfl⟩
  have hz1 := hE1.size
  obtain ⟨w2, hw2⟩ : ∃ w2, w2 = (w1.alloc (.cells cs1 34)).alloc (.cells (cs2.setIfInBounds L (.bool true)) 4) := ⟨_, rfl⟩
  have hB1 : Blk w2 G 34 cs1 := by rw [hG, hw2]; exact Blk.ext (Blk.new _ _ _) (Ext.alloc _ _)
  have hB2 : Blk w2 (G + 1) 4 (cs2.setIfInBounds L (.bool true)) := by rw [hG, hw2]; have h := Blk.new (w1.alloc (.cells cs1 34)) 4 (cs2.setIfInBounds L (.bool true)); simpa using h
  have hE2 : Ext w w2 := by rw [hw2]; exact (by repeat (first | exact Ext.refl _ | assumption | refine Ext.trans ?_ (Ext.alloc _ _) | refine Ext.trans ?_ (Ext.drew _) | refine Ext.trans ?_ (Ext.drewN _ _) | refine Ext.trans ?_ (by assumption)))
  have hz2 : w2.heap.size = G + 2 := by rw [hG, hw2]; simp
  have hT0 : TabS w2 G 34 cs1 (L + 1) (G + 2) (fun p => (nwT f r 0 (L - p)).getD []) := tabS_new hB1 HV1.out (fun i _ => nwT_zero_get f r _) (by omega)
  have hF0 : FillV (cs2.setIfInBounds L (.bool true)) (L + 1) (fun p => .bool (nwT f r 0 (L - p)).isSome) := by
    refine (HV2.out.set_ L (.bool true)).congr (fun p hp => ?_)
    rw [nwT_zero_some]
    by_cases e : p = L
    · rw [if_pos e, decide_eq_true (by omega)]
    · rw [if_neg e, decide_eq_false (by omega)]
  have hwG : w.heap.size ≤ G := by omega
  rw [← hw2, ← hG]
  have HW2 := Lib.hid hw2; have HG0 := Lib.hid hG
  clear hw2 hG hB1 hz2
  go_loopw [9] (fun j wr => ∃ (d a1 : Nat) (cur cuf : Array Value), d + a1 = L ∧ j = .int .i64 ((a1 : Int) - 1) ∧ TabS wr G 34 cur (L + 1) (G + 2) (fun p => (nwT f r d (L - p)).getD []) ∧ Blk wr (G + 1) 4 cuf ∧ FillV cuf (L + 1) (fun p => .bool (nwT f r d (L - p)).isSome) ∧ Ext w wr) (fun j _ => (intOf j + 1).toNat)
  case atStart => exact ⟨0, L, _, _, by omega, rfl, hT0, hB2, hF0, hE2⟩
  case round =>
    clear hT0 hB2 hF0 hE2
    obtain ⟨d, a1, cur, cuf, had, hj, hT, hB, hF, hE⟩ := hrel
    have hgl := hB.lt
    cases a1 with
    | zero =>
      rw [show (((0 : Nat) : Int) - 1) = -1 from rfl] at hj
      subst hj
      have hd : d = L := by omega
      subst hd
      clear had
      obtain ⟨q0, _⟩ := hF.cell hB (k := 0) (by omega)
      obtain ⟨A', c', r1, r2, r3⟩ := hT.row 0 (by omega)
      have r1' := hT.blk.cell r1
      rw [Nat.sub_zero] at q0 r1' r2 r3
      clear r1
      cases hn : nwT f r d d with
      | none =>
        have hz : nwP f word = ([], 0, false) := nwP_none (by rw [HNB.out, hn])
        rw [hn] at q0
        have HZ2 : Hid (Z = ([], 0, false)) := by show _ = _; rw [HZ.out, hz]
        clear hz hn r1' r2 r3
        go_wp2_with fail
        go_ret3
        rw [HZ2.out]
        exact retI3_lit (by repeat (first | exact Ext.refl _ | assumption | refine Ext.trans ?_ (Ext.alloc _ _) | refine Ext.trans ?_ (Ext.drew _) | refine Ext.trans ?_ (Ext.drewN _ _) | refine Ext.trans ?_ (by assumption)))
      | some ys =>
        rw [hn] at q0 r1' r2 r3
        have hz : nwP f word = (ys, wsum f ys, true) := nwP_some HASK.out (by rw [HNB.out, hn])
        have HZ2 : Hid (Z = (ys, wsum f ys, true)) := by show _ = _; rw [HZ.out, hz]
        have hok := nwT_ok HFT.out r _ _ _ hn
        have hyl := hok.len
        have HRAN := Lib.hid hok.ran
        have e1 : ∀ y : XW wr, y.v.cell? ⟨G, 0, none⟩ = _ := fun y => y.h.cell r1'
        have hT1 : ∀ y : XW wr, _ := fun y => spec_tyWide _ A' c c' ys.length f ys lo hi (G + 2) wr.heap.size y.v rfl HFT.out (by omega) HRAN.out (hr.ext (hE.trans y.h)) (RdI.ext r3 y.h)
        clear hz hn hok r1'
        go_wp2_with fail
        refine wp_region_xw (w0 := wr) (by kernel_rfl) (by kernel_rfl) (by repeat (first | exact Ext.refl _ | assumption | refine Ext.trans ?_ (Ext.alloc _ _) | refine Ext.trans ?_ (Ext.drew _) | refine Ext.trans ?_ (Ext.drewN _ _) | refine Ext.trans ?_ (by assumption))) ?_; (repeat (go_big_quiet_step ((go_at_call 65; with_reducible exact XW.same (hT1 _))))); refine wpQuiet_nil ?_; intro w9 hw'; obtain ⟨⟨_, hEw9⟩, hw''⟩ := hw'; subst hw''
        clear e1 hT1
        go_wp2
        go_ret3
        rw [HZ2.out]
        exact ⟨A', c', rfl, r2, Rd.wide (Rd.ext r3 hEw9) (by omega) hEw9.size (Nat.le_refl _), (by repeat (first | exact Ext.refl _ | assumption | refine Ext.trans ?_ (Ext.alloc _ _) | refine Ext.trans ?_ (Ext.drew _) | refine Ext.trans ?_ (Ext.drewN _ _) | refine Ext.trans ?_ (by assumption)))⟩
    | succ a =>
      rw [show ((a + 1 : Nat) : Int) - 1 = (a : Int) from by omega] at hj
      subst hj
      have had' : a + d + 1 = L := by omega
      have HTS := Lib.hid (nwT_round (f := f) had' HRL.out)
      obtain ⟨g, hg⟩ : ∃ g : Nat → Option (List Int), g = (fun c => nwT f r d (d + 1 - c)) := ⟨_, rfl⟩
      have HG : Hid (∀ e, 1 ≤ e → a + e ≤ L → nwT f r d (L - (a + e)) = g e) := by
        show ∀ e, _
        intro e h1 h2
        rw [hg]
        show nwT f r d (L - (a + e)) = nwT f r d (d + 1 - e)
        rw [show L - (a + e) = d + 1 - e by omega]
      have HGO : Hid (∀ e ys, 1 ≤ e → g e = some ys → WayOk f (d + 1 - 1) ys) := by
        show ∀ e ys, _
        intro e ys h1 he
        rw [hg] at he
        have h := nwT_ok HFT.out r _ _ _ he
        exact ⟨by have := h.len; omega, h.ran⟩
      have HCO : Hid (∀ k xs, candW f g (r.drop a) k = some xs → WayOk f (d + 1) xs) := by
        show ∀ k xs, _
        intro k xs h
        exact cand_ok HFT.out HGO.out (by omega) h
      have HBO : Hid (∀ k xs, bestW f g (r.drop a) k = some xs → WayOk f (d + 1) xs ∧ ∃ (i : Nat) (ys : List Int), xs = (i : Int) :: ys ∧ i < k) := by
        show ∀ k xs, _
        intro k xs h
        rcases bestW_spec f g (r.drop a) k with ⟨h1, _⟩ | ⟨i, ys, h1, h2⟩
        · rw [h1] at h; cases h
        · rw [h1] at h; injection h with h; subst h
          obtain ⟨_, zs, _, hz⟩ := candW_head h2.cand
          exact ⟨HCO.out i _ h2.cand, i, zs, hz, h2.lt⟩
      have HNW : Hid (nwT f r d (L - a) = none) := nwT_not f r d (L - a) (by omega)
      rw [← hg] at HTS
      clear hg had
      go_wp2_with fail
      go_loopw [39] (fun j wr => ∃ (k : Nat) (cur cuf : Array Value), k ≤ f.length ∧ j = .int .i64 k ∧ TabS wr G 34 cur (L + 1) (G + 2) (fun p => (if p = a then bestW f g (r.drop a) k else nwT f r d (L - p)).getD []) ∧ Blk wr (G + 1) 4 cuf ∧ FillV cuf (L + 1) (fun p => .bool (if p = a then bestW f g (r.drop a) k else nwT f r d (L - p)).isSome) ∧ Ext w wr) (fun j _ => f.length - (intOf j).toNat)
      case atStart =>
        refine ⟨0, cur, cuf, Nat.zero_le _, rfl, hT.congr (fun p _ => ?_), hB, hF.congr (fun p _ => ?_), hE⟩
        · by_cases e : p = a
          · rw [if_pos e, e, HNW.out]; rfl
          · rw [if_neg e]
        · by_cases e : p = a
          · rw [if_pos e, e, HNW.out]; rfl
          · rw [if_neg e]
      case round =>
        clear hT hB hF hE
        obtain ⟨k, cur, cuf, hk, rfl, hT, hB, hF, hE⟩ := hrel
        have hgl := hB.lt
        by_cases hlk : k < f.length
        · obtain ⟨x, b', off', HX, eA, h3, c0, c1⟩ := RdS.get (hr.ext hE) hlk
          injection eA with eA; injection eA with eb eo _; subst eb; subst eo
          obtain ⟨_, x1, x2, x3, x4⟩ := (font_all HFT.out) x (List.mem_of_getElem? HX.out)
          have HCL : Hid (cl f k = x.code.size) := cl_of HX.out
          have HPA : Hid (preAt f (r.drop a) k = preB (bl x.code) (r.drop a)) := preAt_of HX.out
          go_wp2_with fail
          obtain ⟨w0, hw0⟩ : ∃ w0, w0 = wr.alloc (.cells #[.string x.code, .int .i64 x.set] 46) := ⟨_, rfl⟩
          have y0 : w0.cell? ⟨wr.heap.size, 0, none⟩ = some (.string x.code) := by rw [hw0]; exact box_new (Ext.refl _) rfl
          have hE0 : Ext wr w0 := by rw [hw0]; exact Ext.alloc _ _
          rw [← hw0]
          clear hw0
          have hz0 : wr.heap.size < w0.heap.size := World.block_lt_of_cell? w0 _ y0
          have e0 : ∀ y : XW w0, y.v.cell? ⟨wr.heap.size, 0, none⟩ = _ := fun y => y.h.cell y0
          have k1 : IntKind.i64.wrap ((a : Int) + (x.code.size : Int)) = (a : Int) + (x.code.size : Int) := IntWalk.i64_in _ (by omega)
          by_cases hfit : a + x.code.size ≤ L
          case neg =>
            have HS : Hid (bestW f g (r.drop a) (k + 1) = bestW f g (r.drop a) k) := bestW_no (candW_pre (by rw [HPA.out]; exact preB_short (by rw [HRL.out, bl_len]; omega) (by rw [bl_len]; omega)))
            have hfi : (L : Int) < (a : Int) + (x.code.size : Int) := by omega
            have p1 : decide ((L : Int) < (a : Int) + (x.code.size : Int)) = true := decide_eq_true hfi
            refine wp_region_xw (w0 := w0) (by kernel_rfl) (by kernel_rfl) (by repeat (first | exact Ext.refl _ | assumption | refine Ext.trans ?_ (Ext.alloc _ _) | refine Ext.trans ?_ (Ext.drew _) | refine Ext.trans ?_ (Ext.drewN _ _) | refine Ext.trans ?_ (by assumption))) ?_; (repeat (go_big_quiet_step (fail))); refine wpQuiet_nil ?_; intro w4 hw'; obtain ⟨⟨_, hEw4⟩, hw''⟩ := hw'; subst hw''
            clear e0
            go_wp2
            go_roundw
            case rel => exact ⟨k + 1, cur, cuf, by omega, by go_num, ((hT.ext hE0).ext hEw4).congr (fun p _ => by rw [HS.out]), (hB.ext hE0).ext hEw4, hF.congr (fun p _ => by rw [HS.out]), (by repeat (first | exact Ext.refl _ | assumption | refine Ext.trans ?_ (Ext.alloc _ _) | refine Ext.trans ?_ (Ext.drew _) | refine Ext.trans ?_ (Ext.drewN _ _) | refine Ext.trans ?_ (by assumption)))⟩
            case measure => simp [intOf]; omega
          have hfi : (a : Int) + (x.code.size : Int) ≤ (L : Int) := by omega
          have p1 : decide ((L : Int) < (a : Int) + (x.code.size : Int)) = false := decide_eq_false (by omega)
          have HEQ := eqPre (i := a) HRR.out (by omega : a + x.code.size ≤ word.size)
          obtain ⟨q0, _⟩ := hF.cell (hB.ext hE0) (k := a + x.code.size) (by omega)
          rw [if_neg (by omega), HG.out _ x1 hfit] at q0
          have e2 : ∀ y : XW w0, y.v.cell? ⟨G + 1, a + x.code.size, none⟩ = _ := fun y => y.h.cell q0
          cases t1 : preB (bl x.code) (r.drop a)
          · have HS : Hid (bestW f g (r.drop a) (k + 1) = bestW f g (r.drop a) k) := bestW_no (candW_pre (by rw [HPA.out, t1]))
            rw [t1] at HEQ
            clear t1 e2 q0
            refine wp_region_xw (w0 := w0) (by kernel_rfl) (by kernel_rfl) (by repeat (first | exact Ext.refl _ | assumption | refine Ext.trans ?_ (Ext.alloc _ _) | refine Ext.trans ?_ (Ext.drew _) | refine Ext.trans ?_ (Ext.drewN _ _) | refine Ext.trans ?_ (by assumption))) ?_; (repeat (go_big_quiet_step (fail))); refine wpQuiet_nil ?_; intro w4 hw'; obtain ⟨⟨_, hEw4⟩, hw''⟩ := hw'; subst hw''
            clear e0
            go_wp2
            go_roundw
            case rel => exact ⟨k + 1, cur, cuf, by omega, by go_num, ((hT.ext hE0).ext hEw4).congr (fun p _ => by rw [HS.out]), (hB.ext hE0).ext hEw4, hF.congr (fun p _ => by rw [HS.out]), (by repeat (first | exact Ext.refl _ | assumption | refine Ext.trans ?_ (Ext.alloc _ _) | refine Ext.trans ?_ (Ext.drew _) | refine Ext.trans ?_ (Ext.drewN _ _) | refine Ext.trans ?_ (by assumption)))⟩
            case measure => simp [intOf]; omega
          rw [t1] at HEQ
          have HP1 : Hid (preAt f (r.drop a) k = true) := by show _ = _; rw [HPA.out, t1]
          clear t1
          cases hgs : g x.code.size with
          | none =>
            have HS : Hid (bestW f g (r.drop a) (k + 1) = bestW f g (r.drop a) k) := bestW_no (candW_rest (by rw [HCL.out]; exact hgs))
            rw [hgs, Option.isSome_none] at q0 e2
            clear hgs q0
            refine wp_region_xw (w0 := w0) (by kernel_rfl) (by kernel_rfl) (by repeat (first | exact Ext.refl _ | assumption | refine Ext.trans ?_ (Ext.alloc _ _) | refine Ext.trans ?_ (Ext.drew _) | refine Ext.trans ?_ (Ext.drewN _ _) | refine Ext.trans ?_ (by assumption))) ?_; (repeat (go_big_quiet_step (fail))); refine wpQuiet_nil ?_; intro w4 hw'; obtain ⟨⟨_, hEw4⟩, hw''⟩ := hw'; subst hw''
            clear e0 e2
            go_wp2
            go_roundw
            case rel => exact ⟨k + 1, cur, cuf, by omega, by go_num, ((hT.ext hE0).ext hEw4).congr (fun p _ => by rw [HS.out]), (hB.ext hE0).ext hEw4, hF.congr (fun p _ => by rw [HS.out]), (by repeat (first | exact Ext.refl _ | assumption | refine Ext.trans ?_ (Ext.alloc _ _) | refine Ext.trans ?_ (Ext.drew _) | refine Ext.trans ?_ (Ext.drewN _ _) | refine Ext.trans ?_ (by assumption)))⟩
            case measure => simp [intOf]; omega
          | some ys =>
            have HN : Hid (candW f g (r.drop a) k = some ((k : Int) :: ys)) := candW_of HP1.out (by rw [HCL.out]; exact hgs)
            rw [hgs, Option.isSome_some] at q0 e2
            have hok := HGO.out _ ys x1 hgs
            have hyl := hok.len
            have hokn := HCO.out k _ HN.out
            have HRN := Lib.hid hokn.ran
            clear q0 hok hokn
            refine wp_region_xw (w0 := w0) (by kernel_rfl) (by kernel_rfl) (by repeat (first | exact Ext.refl _ | assumption | refine Ext.trans ?_ (Ext.alloc _ _) | refine Ext.trans ?_ (Ext.drew _) | refine Ext.trans ?_ (Ext.drewN _ _) | refine Ext.trans ?_ (by assumption))) ?_; (repeat (go_big_quiet_step (fail))); refine wpQuiet_nil ?_; intro w4 hw'; obtain ⟨⟨_, hEw4⟩, hw''⟩ := hw'; subst hw''
            clear e0 e2 HEQ
            have hE4 := hE0.trans hEw4
            have hT4 := hT.ext hE4
            obtain ⟨A3, c3, r1, r2, r3⟩ := hT4.row (a + x.code.size) (by omega)
            have r1' := hT4.blk.cell r1
            rw [if_neg (by omega), HG.out _ x1 hfit, hgs, Option.getD_some] at r1' r2 r3
            clear r1 hgs
            have hAn : A3 = none → ys.length = 0 := fun e => by
              rcases Nat.eq_zero_or_pos ys.length with h | h
              · exact h
              · obtain ⟨_, _, _, _, e2, _⟩ := RdI.get r3 (k := 0) h
                rw [e] at e2; cases e2
            have HAN := Lib.hid hAn
            have hgl4 : G < w4.heap.size := hT4.blk.lt
            clear hAn
            go_wp2_with (at_builtin; refine wp_app _ w4 rfl (.tmp 70) (.tmp 74) 34 rfl 3 _ 1 8 Try.underlying34 intInfo0 rfl (by omega) _ 1 [.int .i64 (k : Int)] rfl (own_lit1 _ _ (Nat.le_refl _) (Ext.refl _)) (by repeat (first | exact Ext.refl _ | assumption | refine Ext.trans ?_ (Ext.alloc _ _) | refine Ext.trans ?_ (Ext.drew _) | refine Ext.trans ?_ (Ext.drewN _ _) | refine Ext.trans ?_ (by assumption))) _ _ _ ys.length _ (ys.map (Value.int .i64)) rfl (by simp) (Rd.toA (Rd.ext r3 (Ext.alloc _ _))) (ints_one ys) (by omega) HAN.out ?_; intro v5 w5 hown5 hE5 hg5 hat5)
            clear r1' r3
            have hown : w5.ownsRow w4.heap.size 3 1 v5 ((k : Int) :: ys).length (((k : Int) :: ys).map (Value.int .i64)) := by rw [List.length_cons, Nat.add_comm]; exact hown5
            obtain ⟨xs, hxs⟩ : ∃ xs, xs = (k : Int) :: ys := ⟨_, rfl⟩
            rw [← hxs] at hown HN HRN
            have hxl : xs.length = ys.length + 1 := by rw [hxs]; rfl
            have hxl2 : xs.length ≤ 17 := by omega
            have HXS := Lib.hid hxs; have HXL := Lib.hid hxl
            clear hxs hxl hown5
            obtain ⟨A5, c5, rfl, hc5, _⟩ := own_form hown
            have hz4 := hE4.size
            have hz5 := hE5.size
            have hR5 : RdI w5 (G + 2) w5.heap.size A5 xs := Rd.wide (Rd.of_own hown) (by omega) (Nat.le_refl _) (Nat.le_refl _)
            have hB5 := (hB.ext hE4).ext hE5
            have hT5 := hT4.ext hE5
            clear hown
            have hE45 := hE4.trans hE5
            obtain ⟨q1, _⟩ := hF.cell hB5 (k := a) (by omega)
            rw [if_pos rfl] at q1
            cases hbs : bestW f g (r.drop a) k with
            | none =>
              have HS : Hid (bestW f g (r.drop a) (k + 1) = some xs) := bestW_first HN.out hbs
              rw [hbs, Option.isSome_none] at q1
              have e1 : ∀ y : XW w5, y.v.cell? ⟨G + 1, a, none⟩ = _ := fun y => y.h.cell q1
              clear hbs q1
              go_wp2_with fail
              refine wp_region_xw (w0 := w5) (by kernel_rfl) (by kernel_rfl) (by repeat (first | exact Ext.refl _ | assumption | refine Ext.trans ?_ (Ext.alloc _ _) | refine Ext.trans ?_ (Ext.drew _) | refine Ext.trans ?_ (Ext.drewN _ _) | refine Ext.trans ?_ (by assumption))) ?_; (repeat (go_big_quiet_step (fail))); refine wpQuiet_nil ?_; intro w6 hw'; obtain ⟨⟨_, hEw6⟩, hw''⟩ := hw'; subst hw''
              clear e1
              have hB6 := hB5.ext hEw6
              have hT6 := hT5.ext hEw6
              obtain ⟨q1, q2⟩ := hF.cell hB6 (k := a) (by omega)
              obtain ⟨A7, c7, u1, _, _⟩ := hT6.row a (by omega)
              have u2 := hT6.blk.cell u1
              have u3 := hT6.blk.frozen a
              have hzz := hEw6.size
              go_wp2
              go_roundw
              case rel =>
                have hs1 := hT6.set_ (by omega : G < G + 2) a hc5 (hR5.ext6 hEw6)
                have hs2 := hs1.set_other (by omega : G + 1 < G + 2) (by omega : G ≠ G + 1) a (.bool true)
                refine ⟨k + 1, _, _, by omega, by go_num, hs2.congr (fun p _ => ?_), (blk_far hB6 (by omega) _).set_ a _, (hF.set_ a _).congr (fun p _ => ?_), Ext.setCell (Ext.setCell (by exact (by repeat (first | exact Ext.refl _ | assumption | refine Ext.trans ?_ (Ext.alloc _ _) | refine Ext.trans ?_ (Ext.drew _) | refine Ext.trans ?_ (Ext.drewN _ _) | refine Ext.trans ?_ (by assumption)))) hwG _) (by show w.heap.size ≤ G + 1; omega) _⟩
                · by_cases e : p = a
                  · rw [if_pos e, if_pos e, HS.out]; rfl
                  · rw [if_neg e, if_neg e, if_neg e]
                · by_cases e : p = a
                  · rw [if_pos e, if_pos e, HS.out]; rfl
                  · rw [if_neg e, if_neg e, if_neg e]
              case measure => simp [intOf]; omega
            | some zs =>
              rw [hbs, Option.isSome_some] at q1
              have e1 : ∀ y : XW w5, y.v.cell? ⟨G + 1, a, none⟩ = _ := fun y => y.h.cell q1
              obtain ⟨hokz, i, zt, hzt, hik⟩ := HBO.out k zs hbs
              have hzl := hokz.len
              have HRZ := Lib.hid hokz.ran
              obtain ⟨A6, c6, s1, s2, s3⟩ := hT5.row a (by omega)
              have s1' := hT5.blk.cell s1
              rw [if_pos rfl, hbs, Option.getD_some] at s1' s2 s3
              have e2 : ∀ y : XW w5, y.v.cell? ⟨G, a, none⟩ = _ := fun y => y.h.cell s1'
              have hT1 : ∀ y : XW w5, _ := fun y => spec_tyWide _ A5 c c5 xs.length f xs lo hi (G + 2) w5.heap.size y.v rfl HFT.out (by omega) HRN.out (hr.ext ((hE.trans hE45).trans y.h)) (RdI.ext hR5 y.h)
              have hT2 : ∀ y : XW w5, _ := fun y => spec_tyWide _ A6 c c6 zs.length f zs lo hi (G + 2) w5.heap.size y.v rfl HFT.out (by omega) HRZ.out (hr.ext ((hE.trans hE45).trans y.h)) (RdI.ext s3 y.h)
              have HZT := Lib.hid hzt
              obtain ⟨b1, b2⟩ := wsum_bd HFT.out xs hxl2
              obtain ⟨b3, b4⟩ := wsum_bd HFT.out zs (by omega)
              have HBS := Lib.hid hbs
              obtain ⟨S, hS⟩ : ∃ S, S = wsum f xs := ⟨_, rfl⟩
              obtain ⟨T, hTT⟩ : ∃ T, T = wsum f zs := ⟨_, rfl⟩
              rw [← hS] at hT1 b1 b2
              rw [← hTT] at hT2 b3 b4
              have HSS := Lib.hid hS; have HTT := Lib.hid hTT
              clear hbs q1 s1 s1' hokz hzt hS hTT
              by_cases hlt : S < T
              · have HS : Hid (bestW f g (r.drop a) (k + 1) = some xs) := bestW_less HN.out HBS.out (by rw [← HSS.out, ← HTT.out]; exact hlt)
                have p2 : decide (S < T) = true := decide_eq_true hlt
                go_wp2_with fail
                refine wp_region_xw (w0 := w5) (by kernel_rfl) (by kernel_rfl) (by repeat (first | exact Ext.refl _ | assumption | refine Ext.trans ?_ (Ext.alloc _ _) | refine Ext.trans ?_ (Ext.drew _) | refine Ext.trans ?_ (Ext.drewN _ _) | refine Ext.trans ?_ (by assumption))) ?_; (repeat (go_big_quiet_step (first | (go_at_call 65; with_reducible exact XW.same (hT1 _))  |  (go_at_call 65; with_reducible exact XW.same (hT2 _))))); refine wpQuiet_nil ?_; intro w6 hw'; obtain ⟨⟨_, hEw6⟩, hw''⟩ := hw'; subst hw''
                clear e1 e2 hT1 hT2
                have hB6 := hB5.ext hEw6
                have hT6 := hT5.ext hEw6
                obtain ⟨q1, q2⟩ := hF.cell hB6 (k := a) (by omega)
                obtain ⟨A7, c7, u1, _, _⟩ := hT6.row a (by omega)
                have u2 := hT6.blk.cell u1
                have u3 := hT6.blk.frozen a
                have hzz := hEw6.size
                go_wp2
                go_roundw
                case rel =>
                  have hs1 := hT6.set_ (by omega : G < G + 2) a hc5 (hR5.ext6 hEw6)
                  have hs2 := hs1.set_other (by omega : G + 1 < G + 2) (by omega : G ≠ G + 1) a (.bool true)
                  refine ⟨k + 1, _, _, by omega, by go_num, hs2.congr (fun p _ => ?_), (blk_far hB6 (by omega) _).set_ a _, (hF.set_ a _).congr (fun p _ => ?_), Ext.setCell (Ext.setCell (by exact (by repeat (first | exact Ext.refl _ | assumption | refine Ext.trans ?_ (Ext.alloc _ _) | refine Ext.trans ?_ (Ext.drew _) | refine Ext.trans ?_ (Ext.drewN _ _) | refine Ext.trans ?_ (by assumption)))) hwG _) (by show w.heap.size ≤ G + 1; omega) _⟩
                  · by_cases e : p = a
                    · rw [if_pos e, if_pos e, HS.out]; rfl
                    · rw [if_neg e, if_neg e, if_neg e]
                  · by_cases e : p = a
                    · rw [if_pos e, if_pos e, HS.out]; rfl
                    · rw [if_neg e, if_neg e, if_neg e]
                case measure => simp [intOf]; omega
              · have HS : Hid (bestW f g (r.drop a) (k + 1) = bestW f g (r.drop a) k) := by show _ = _; rw [bestW_more HN.out HBS.out (by rw [← HSS.out, ← HTT.out]; exact hlt), HBS.out]
                have p2 : decide (S < T) = false := decide_eq_false hlt
                by_cases heq : S = T
                · have p3 : (S == T) = true := by simpa using heq
                  have hL : ∀ y : XW w5, _ := fun y => spec_tyLess_no A5 A6 c5 c6 xs.length zs.length (k : Int) (i : Int) ys zt (G + 2) w5.heap.size (G + 2) w5.heap.size y.v HXL.out (by rw [HZT.out]; rfl) (by omega) (by omega) (by omega) (by rw [← HXS.out]; exact RdI.ext hR5 y.h) (by rw [← HZT.out]; exact RdI.ext s3 y.h)
                  clear heq
                  go_wp2_with fail
                  refine wp_region_xw (w0 := w5) (by kernel_rfl) (by kernel_rfl) (by repeat (first | exact Ext.refl _ | assumption | refine Ext.trans ?_ (Ext.alloc _ _) | refine Ext.trans ?_ (Ext.drew _) | refine Ext.trans ?_ (Ext.drewN _ _) | refine Ext.trans ?_ (by assumption))) ?_; (repeat (go_big_quiet_step (first | (go_at_call 65; with_reducible exact XW.same (hT1 _))  |  (go_at_call 65; with_reducible exact XW.same (hT2 _))  |  (go_at_call 66; with_reducible exact XW.call (hL _))))); refine wpQuiet_nil ?_; intro w6 hw'; obtain ⟨⟨_, hEw6⟩, hw''⟩ := hw'; subst hw''
                  clear e1 e2 hT1 hT2 hL
                  go_wp2
                  go_roundw
                  case rel => exact ⟨k + 1, cur, cuf, by omega, by go_num, (hT5.ext hEw6).congr (fun p _ => by rw [HS.out]), hB5.ext hEw6, hF.congr (fun p _ => by rw [HS.out]), (by repeat (first | exact Ext.refl _ | assumption | refine Ext.trans ?_ (Ext.alloc _ _) | refine Ext.trans ?_ (Ext.drew _) | refine Ext.trans ?_ (Ext.drewN _ _) | refine Ext.trans ?_ (by assumption)))⟩
                  case measure => simp [intOf]; omega
                · have p3 : (S == T) = false := by simpa using heq
                  clear heq
                  go_wp2_with fail
                  refine wp_region_xw (w0 := w5) (by kernel_rfl) (by kernel_rfl) (by repeat (first | exact Ext.refl _ | assumption | refine Ext.trans ?_ (Ext.alloc _ _) | refine Ext.trans ?_ (Ext.drew _) | refine Ext.trans ?_ (Ext.drewN _ _) | refine Ext.trans ?_ (by assumption))) ?_; (repeat (go_big_quiet_step (first | (go_at_call 65; with_reducible exact XW.same (hT1 _))  |  (go_at_call 65; with_reducible exact XW.same (hT2 _))))); refine wpQuiet_nil ?_; intro w6 hw'; obtain ⟨⟨_, hEw6⟩, hw''⟩ := hw'; subst hw''
                  clear e1 e2 hT1 hT2
                  go_wp2
                  go_roundw
                  case rel => exact ⟨k + 1, cur, cuf, by omega, by go_num, (hT5.ext hEw6).congr (fun p _ => by rw [HS.out]), hB5.ext hEw6, hF.congr (fun p _ => by rw [HS.out]), (by repeat (first | exact Ext.refl _ | assumption | refine Ext.trans ?_ (Ext.alloc _ _) | refine Ext.trans ?_ (Ext.drew _) | refine Ext.trans ?_ (Ext.drewN _ _) | refine Ext.trans ?_ (by assumption)))⟩
                  case measure => simp [intOf]; omega
        · have hkl : k = f.length := by omega
          subst hkl
          clear hlk
          go_wp2
          go_roundw
          case rel => exact ⟨d + 1, a, cur, cuf, by omega, by go_num, hT.congr (fun p hp => by rw [HTS.out p (by omega)]), hB, hF.congr (fun p hp => by rw [HTS.out p (by omega)]), hE⟩
          case measure => simp [intOf]
end Go.Proofs.Ytnkkpphjahpadaa
