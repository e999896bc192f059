/- The walk of the program's table of least widths. -/
import Derived.Test.YtnkkpphjahpadaaNwP
namespace Go.Proofs.Ytnkkpphjahpadaa
open Go.RowKit
set_option linter.unusedVariables false
/-- The program's table, once d letters from the end are done. -/
def tabv (f : List Srt) (r : List UInt8) (L d p : Nat) : Int := if p + d < L then 0 else tv f (nwT f r d (L - p))
theorem tabv_done {f : List Srt} {r : List UInt8} {L d p : Nat} (h : L ≤ p + d) : tabv f r L d p = tv f (nwT f r d (L - p)) := if_neg (by omega)
theorem tabv_succ {f : List Srt} {r : List UInt8} {L d a : Nat} (h : a + d + 1 = L) (hr : r.length = L) (p : Nat) (hp : p ≤ L) : tabv f r L (d + 1) p = if p = a then tv f (bestW f (fun c => nwT f r d (d + 1 - c)) (r.drop a) f.length) else tabv f r L d p := by
  by_cases e : p = a
  · subst e
    rw [if_pos rfl, tabv_done (by omega), show L - p = d + 1 by omega, nwT_new, hr, show L - (d + 1) = p by omega]
  · rw [if_neg e]
    unfold tabv
    by_cases e2 : p + d < L
    · rw [if_pos e2, if_pos (by omega)]
    · rw [if_neg e2, if_neg (by omega), nwT_same (by omega)]
theorem tabv_zero {f : List Srt} {r : List UInt8} {L p : Nat} (hp : p ≤ L) : tabv f r L 0 p = 0 := by
  unfold tabv
  by_cases e : p + 0 < L
  · rw [if_pos e]
  · rw [if_neg e, show L - p = 0 by omega]; rfl
theorem tv_some {f : List Srt} {xs : List Int} : tv f (some xs) = wsum f xs := rfl
theorem tv_none {f : List Srt} : tv f none = -1 := rfl
def nwTab (f : List Srt) (word : ByteArray) : List Int := (List.range (word.size + 1)).map (tabv f (bl word) word.size word.size)
theorem nwTab_len (f : List Srt) (word : ByteArray) : (nwTab f word).length = word.size + 1 := by simp [nwTab]
theorem nwTab_at {f : List Srt} {word : ByteArray} {p : Nat} (h : p ≤ word.size) : (nwTab f word)[p]? = some (tv f (nwT f (bl word) word.size (word.size - p))) := by
  rw [nwTab, List.getElem?_map, List.getElem?_range (by omega)]
  simp only [Option.map_some]
  rw [tabv_done (by omega)]
set_option maxRecDepth 20000 in
set_option maxHeartbeats 4000000 in
theorem impl_narrowestFrom (A : Option Addr) (c : Nat) (f : List Srt) (word : ByteArray) (lo hi : Nat) (w : World) (hf : font f = true) (hw0 : 1 ≤ word.size) (hw : word.size ≤ 16) (hr : RdS w lo hi A f) :
    Calls Try.prog 69 #[.slice A f.length c, .string word] w (RetI w (nwTab f word)) := by
  obtain ⟨hf1, hf2⟩ := font_len hf
  have HF := Lib.hid (font_all hf); have HFT := Lib.hid hf; clear hf
  obtain ⟨_, b0, off0, _, eA, _, _, _⟩ := RdS.get hr (k := 0) (by omega)
  subst eA
  obtain ⟨P, hP⟩ : ∃ P, P = nwTab f word := ⟨_, rfl⟩
  rw [← hP]
  have HP := Lib.hid hP; clear hP
  obtain ⟨L, hL⟩ : ∃ L, word.size = L := ⟨_, rfl⟩
  obtain ⟨r, hrr⟩ : ∃ r, r = bl word := ⟨_, rfl⟩
  have hrl : r.length = L := by rw [hrr, bl_len, hL]
  have HRL := Lib.hid hrl; have HRR := Lib.hid hrr
  clear hrl hrr
  obtain ⟨cs0, hmk, hf0⟩ := make_ints (P := Try.prog) 34 3 Try.underlying34 intInfo0 (L + 1) (by omega)
  rw [show ((L + 1 : Nat) : Int) = (L : Int) + 1 from by omega] at hmk
  have HF0 := Lib.hid hf0; clear hf0
  go_enter Try.func69, Try.ntmps69
  go_wp2_with fail
  clear hmk
  obtain ⟨G, hG⟩ : ∃ G, G = w.heap.size := ⟨_, rfl⟩
  have hB0 : Blk (w.alloc (.cells cs0 3)) G 3 cs0 := by rw [hG]; exact Blk.new _ _ _
  rw [← hG]
  have hwG : w.heap.size ≤ G := by omega
  clear hG
  go_loopw [6] (fun j wr => ∃ (d a : Nat) (cur : Array Value), a + d = L ∧ j = .int .i64 ((a : Int) - 1) ∧ Blk wr G 3 cur ∧ FillI cur (L + 1) (tabv f r L d) ∧ Ext w wr) (fun j _ => (intOf j + 1).toNat)
  case atStart => exact ⟨0, L, cs0, by omega, by go_num, hB0, HF0.out.congr (fun i hi => tabv_zero (by omega)), (by repeat (first | exact Ext.refl _ | assumption | refine Ext.trans ?_ (Ext.alloc _ _) | refine Ext.trans ?_ (Ext.drew _) | refine Ext.trans ?_ (Ext.drewN _ _) | refine Ext.trans ?_ (by assumption)))⟩
  case round =>
    clear hB0
    obtain ⟨d, a1, cur, had, hj, hB, hF, hE⟩ := hrel
    have hgl := hB.lt
    cases a1 with
    | zero =>
      rw [show (((0 : Nat) : Int) - 1) = -1 from rfl] at hj
      subst hj
      have hPl : P.length = L + 1 := by rw [HP.out, nwTab_len, hL]
      have HPA : Hid (∀ i, i < L + 1 → P[i]? = some (tabv f r L d i)) := by
        show ∀ i, _
        intro i hi
        rw [HP.out, nwTab_at (by omega), ← HRR.out, hL, tabv_done (by omega), show d = L by omega]
      go_wp2
      go_ret
      exact ⟨_, _, by rw [hPl]; rfl, by rw [hPl]; exact Nat.le_refl _, hF.rd hB hwG hPl HPA.out, hE⟩
    | succ a =>
      rw [show ((a + 1 : Nat) : Int) - 1 = (a : Int) from by omega] at hj
      subst hj
      have had' : a + d + 1 = L := by omega
      have HTS := Lib.hid (tabv_succ (f := f) had' HRL.out)
      obtain ⟨g, hg⟩ : ∃ g : Nat → Option (List Int), g = (fun c => nwT f r d (d + 1 - c)) := ⟨_, rfl⟩
      have HG : Hid (∀ e, 1 ≤ e → a + e ≤ L → tabv f r L d (a + e) = tv f (g e)) := by
        show ∀ e, _
        intro e h1 h2
        rw [tabv_done (by omega), hg]
        show tv f (nwT f r d (L - (a + e))) = tv f (nwT f r d (d + 1 - e))
        rw [show L - (a + e) = d + 1 - e by omega]
      have HGO : Hid (∀ e ys, g e = some ys → ys.length ≤ 16) := by
        show ∀ e ys, _
        intro e ys he
        rw [hg] at he
        have := (nwT_ok HFT.out r _ _ _ he).len
        omega
      rw [← hg] at HTS
      clear hg had
      have hsl : (word.extract a L).size = L - a := by simp [ByteArray.size_extract]; omega
      have hpre : bl (word.extract a L) = r.drop a := by rw [← hL, bl_drop, ← HRR.out]
      have HPRE := Lib.hid hpre; clear hpre
      obtain ⟨q1, q2⟩ := hF.cell hB (k := a) (by omega)
      go_wp2
      clear q1 q2
      go_loopw [26] (fun j wr => ∃ (k : Nat) (cur : Array Value), k ≤ f.length ∧ j = .int .i64 k ∧ Blk wr G 3 cur ∧ FillI cur (L + 1) (fun p => if p = a then tv f (bestW f g (r.drop a) k) else tabv f r L d p) ∧ Ext w wr) (fun j _ => f.length - (intOf j).toNat)
      case atStart => exact ⟨0, _, Nat.zero_le _, rfl, hB.set_ a _, hF.set_ a _, Ext.setCell hE hwG _⟩
      case round =>
        clear hB hF hE
        obtain ⟨k, cur, hk, rfl, hB, hF, hE⟩ := hrel
        have hgl := hB.lt
        by_cases hlk : k < f.length
        · obtain ⟨x, b', off', HX, eA, h3, c0, c1⟩ := RdS.get (hr.ext hE) hlk
          injection eA with eA; injection eA with eb eo _; subst eb; subst eo
          obtain ⟨_, x1, x2, x3, x4⟩ := HF.out x (List.mem_of_getElem? HX.out)
          have HCL : Hid (cl f k = x.code.size) := cl_of HX.out
          have HPA : Hid (preAt f (r.drop a) k = preB (bl x.code) (r.drop a)) := preAt_of HX.out
          go_wp2_with fail
          obtain ⟨w0, hw0⟩ : ∃ w0, w0 = wr.alloc (.cells #[.string x.code, .int .i64 x.set] 46) := ⟨_, rfl⟩
          have y0 : w0.cell? ⟨wr.heap.size, 0, none⟩ = some (.string x.code) := by rw [hw0]; exact box_new (Ext.refl _) rfl
          have y1 : w0.cell? ⟨wr.heap.size, 1, none⟩ = some (.int .i64 x.set) := by rw [hw0]; exact box_new (Ext.refl _) rfl
          have hE0 : Ext wr w0 := by rw [hw0]; exact Ext.alloc _ _
          rw [← hw0]
          clear hw0
          have hz0 : wr.heap.size < w0.heap.size := World.block_lt_of_cell? w0 _ y0
          have e0 : ∀ y : XW w0, y.v.cell? ⟨wr.heap.size, 0, none⟩ = _ := fun y => y.h.cell y0
          have hC : ∀ y : XW w0, _ := fun y => strings_HasPrefix (word.extract a L) x.code y.v (by omega) (by omega)
          simp only [HPRE.out] at hC
          cases t1 : preB (bl x.code) (r.drop a)
          · have HS : Hid (bestW f g (r.drop a) (k + 1) = bestW f g (r.drop a) k) := bestW_no (candW_pre (by rw [HPA.out, t1]))
            simp only [t1] at hC
            refine wp_region_xw (w0 := w0) (by kernel_rfl) (by kernel_rfl) (by repeat (first | exact Ext.refl _ | assumption | refine Ext.trans ?_ (Ext.alloc _ _) | refine Ext.trans ?_ (Ext.drew _) | refine Ext.trans ?_ (Ext.drewN _ _) | refine Ext.trans ?_ (by assumption))) ?_; (repeat (go_big_quiet_step ((go_at_call 70; with_reducible exact XW.same (hC _))))); refine wpQuiet_nil ?_; intro w1 hw'; obtain ⟨⟨_, hEw1⟩, hw''⟩ := hw'; subst hw''
            clear hC e0
            go_wp2
            go_roundw
            case rel => exact ⟨k + 1, cur, by omega, by go_num, (hB.ext hE0).ext hEw1, hF.congr (fun p _ => by rw [HS.out]), (by repeat (first | exact Ext.refl _ | assumption | refine Ext.trans ?_ (Ext.alloc _ _) | refine Ext.trans ?_ (Ext.drew _) | refine Ext.trans ?_ (Ext.drewN _ _) | refine Ext.trans ?_ (by assumption)))⟩
            case measure => simp [intOf]; omega
          · have HP1 : Hid (preAt f (r.drop a) k = true) := by show _ = _; rw [HPA.out, t1]
            have hcl : a + x.code.size ≤ L := by
              have h1 := (preAt_cl HP1.out).2
              rw [HCL.out, List.length_drop, HRL.out] at h1
              omega
            simp only [t1] at hC
            refine wp_region_xw (w0 := w0) (by kernel_rfl) (by kernel_rfl) (by repeat (first | exact Ext.refl _ | assumption | refine Ext.trans ?_ (Ext.alloc _ _) | refine Ext.trans ?_ (Ext.drew _) | refine Ext.trans ?_ (Ext.drewN _ _) | refine Ext.trans ?_ (by assumption))) ?_; (repeat (go_big_quiet_step ((go_at_call 70; with_reducible exact XW.same (hC _))))); refine wpQuiet_nil ?_; intro w1 hw'; obtain ⟨⟨_, hEw1⟩, hw''⟩ := hw'; subst hw''
            clear hC e0
            have hB1 := (hB.ext hE0).ext hEw1
            have hE1 : Ext w w1 := (by repeat (first | exact Ext.refl _ | assumption | refine Ext.trans ?_ (Ext.alloc _ _) | refine Ext.trans ?_ (Ext.drew _) | refine Ext.trans ?_ (Ext.drewN _ _) | refine Ext.trans ?_ (by assumption)))
            have y0' := hEw1.cell y0
            have y1' := hEw1.cell y1
            have hz1 := hEw1.size
            obtain ⟨q0, _⟩ := hF.cell hB1 (k := a + x.code.size) (by omega)
            rw [if_neg (by omega), HG.out _ x1 hcl] at q0
            obtain ⟨q1, q2⟩ := hF.cell hB1 (k := a) (by omega)
            rw [if_pos rfl] at q1
            obtain ⟨v, hv⟩ : ∃ v, v = tv f (g x.code.size) := ⟨_, rfl⟩
            obtain ⟨o, ho⟩ : ∃ o, o = tv f (bestW f g (r.drop a) k) := ⟨_, rfl⟩
            rw [← hv] at q0
            rw [← ho] at q1
            have HO := Lib.hid ho
            have e1 : ∀ y : XW w1, y.v.cell? ⟨G, a, none⟩ = _ := fun y => y.h.cell q1
            have e2 : ∀ y : XW w1, y.v.cell? ⟨wr.heap.size, 1, none⟩ = _ := fun y => y.h.cell y1'
            have hzG := hB1.lt
            clear y0 y1
            cases hgs : g x.code.size with
            | none =>
              have HS : Hid (bestW f g (r.drop a) (k + 1) = bestW f g (r.drop a) k) := bestW_no (candW_rest (by rw [HCL.out]; exact hgs))
              rw [hgs, tv_none] at hv
              subst hv
              clear ho hgs
              go_wp2_with fail
              refine wp_region_xw (w0 := w1) (by kernel_rfl) (by kernel_rfl) (by repeat (first | exact Ext.refl _ | assumption | refine Ext.trans ?_ (Ext.alloc _ _) | refine Ext.trans ?_ (Ext.drew _) | refine Ext.trans ?_ (Ext.drewN _ _) | refine Ext.trans ?_ (by assumption))) ?_; (repeat (go_big_quiet_step (fail))); refine wpQuiet_nil ?_; intro w2 hw'; obtain ⟨⟨_, hEw2⟩, hw''⟩ := hw'; subst hw''
              clear e1 e2 q1 q2
              go_wp2
              go_roundw
              case rel => exact ⟨k + 1, cur, by omega, by go_num, hB1.ext hEw2, hF.congr (fun p _ => by rw [HS.out]), (by repeat (first | exact Ext.refl _ | assumption | refine Ext.trans ?_ (Ext.alloc _ _) | refine Ext.trans ?_ (Ext.drew _) | refine Ext.trans ?_ (Ext.drewN _ _) | refine Ext.trans ?_ (by assumption)))⟩
              case measure => simp [intOf]; omega
            | some ys =>
              have HN : Hid (candW f g (r.drop a) k = some ((k : Int) :: ys)) := candW_of HP1.out (by rw [HCL.out]; exact hgs)
              rw [hgs, tv_some] at hv
              have hyl := HGO.out _ _ hgs
              obtain ⟨v0, v1⟩ := wsum_in HFT.out ys
              rw [← hv] at v0 v1
              have HWS : Hid (wsum f ((k : Int) :: ys) = x.set + v) := by show _ = _; rw [wsum_cons HX.out, hv]
              have p1 : decide (0 ≤ v) = true := decide_eq_true v0
              clear hv hgs
              cases hbs : bestW f g (r.drop a) k with
              | none =>
                have HS : Hid (bestW f g (r.drop a) (k + 1) = some ((k : Int) :: ys)) := bestW_first HN.out hbs
                rw [hbs, tv_none] at ho
                subst ho
                clear hbs
                go_wp2_with fail
                refine wp_region_xw (w0 := w1) (by kernel_rfl) (by kernel_rfl) (by repeat (first | exact Ext.refl _ | assumption | refine Ext.trans ?_ (Ext.alloc _ _) | refine Ext.trans ?_ (Ext.drew _) | refine Ext.trans ?_ (Ext.drewN _ _) | refine Ext.trans ?_ (by assumption))) ?_; (repeat (go_big_quiet_step (fail))); refine wpQuiet_nil ?_; intro w2 hw'; obtain ⟨⟨_, hEw2⟩, hw''⟩ := hw'; subst hw''
                clear e1 e2 q1 q2
                have hB2 := hB1.ext hEw2
                have y1'' := hEw2.cell y1'
                obtain ⟨q1, q2⟩ := hF.cell hB2 (k := a) (by omega)
                go_wp2
                go_roundw
                case rel => exact ⟨k + 1, _, by omega, by go_num, hB2.set_ a _, (hF.set_ a _).congr (fun p _ => by
                    by_cases e : p = a
                    · rw [if_pos e, if_pos e, HS.out, tv_some, HWS.out]
                    · rw [if_neg e, if_neg e, if_neg e]), Ext.setCell (by exact (by repeat (first | exact Ext.refl _ | assumption | refine Ext.trans ?_ (Ext.alloc _ _) | refine Ext.trans ?_ (Ext.drew _) | refine Ext.trans ?_ (Ext.drewN _ _) | refine Ext.trans ?_ (by assumption)))) hwG _⟩
                case measure => simp [intOf]; omega
              | some zs =>
                rw [hbs, tv_some] at ho
                obtain ⟨o0, _⟩ := wsum_in HFT.out zs
                rw [← ho] at o0
                have p2 : decide (o < 0) = false := decide_eq_false (by omega)
                have HWO := Lib.hid ho
                by_cases hvo : x.set + v < o
                · have HS : Hid (bestW f g (r.drop a) (k + 1) = some ((k : Int) :: ys)) := bestW_less HN.out hbs (by rw [HWS.out, ← HWO.out]; exact hvo)
                  have p3 : decide (x.set + v < o) = true := decide_eq_true hvo
                  clear ho hbs
                  go_wp2_with fail
                  refine wp_region_xw (w0 := w1) (by kernel_rfl) (by kernel_rfl) (by repeat (first | exact Ext.refl _ | assumption | refine Ext.trans ?_ (Ext.alloc _ _) | refine Ext.trans ?_ (Ext.drew _) | refine Ext.trans ?_ (Ext.drewN _ _) | refine Ext.trans ?_ (by assumption))) ?_; (repeat (go_big_quiet_step (fail))); refine wpQuiet_nil ?_; intro w2 hw'; obtain ⟨⟨_, hEw2⟩, hw''⟩ := hw'; subst hw''
                  clear e1 e2 q1 q2
                  have hB2 := hB1.ext hEw2
                  have y1'' := hEw2.cell y1'
                  obtain ⟨q1, q2⟩ := hF.cell hB2 (k := a) (by omega)
                  go_wp2
                  go_roundw
                  case rel => exact ⟨k + 1, _, by omega, by go_num, hB2.set_ a _, (hF.set_ a _).congr (fun p _ => by
                      by_cases e : p = a
                      · rw [if_pos e, if_pos e, HS.out, tv_some, HWS.out]
                      · rw [if_neg e, if_neg e, if_neg e]), Ext.setCell (by exact (by repeat (first | exact Ext.refl _ | assumption | refine Ext.trans ?_ (Ext.alloc _ _) | refine Ext.trans ?_ (Ext.drew _) | refine Ext.trans ?_ (Ext.drewN _ _) | refine Ext.trans ?_ (by assumption)))) hwG _⟩
                  case measure => simp [intOf]; omega
                · have HS : Hid (bestW f g (r.drop a) (k + 1) = bestW f g (r.drop a) k) := by show _ = _; rw [bestW_more HN.out hbs (by rw [HWS.out, ← HWO.out]; exact hvo), hbs]
                  have p3 : decide (x.set + v < o) = false := decide_eq_false hvo
                  clear ho hbs
                  go_wp2_with fail
                  refine wp_region_xw (w0 := w1) (by kernel_rfl) (by kernel_rfl) (by repeat (first | exact Ext.refl _ | assumption | refine Ext.trans ?_ (Ext.alloc _ _) | refine Ext.trans ?_ (Ext.drew _) | refine Ext.trans ?_ (Ext.drewN _ _) | refine Ext.trans ?_ (by assumption))) ?_; (repeat (go_big_quiet_step (fail))); refine wpQuiet_nil ?_; intro w2 hw'; obtain ⟨⟨_, hEw2⟩, hw''⟩ := hw'; subst hw''
                  clear e1 e2 q1 q2
                  go_wp2
                  go_roundw
                  case rel => exact ⟨k + 1, cur, by omega, by go_num, hB1.ext hEw2, hF.congr (fun p _ => by rw [HS.out]), (by repeat (first | exact Ext.refl _ | assumption | refine Ext.trans ?_ (Ext.alloc _ _) | refine Ext.trans ?_ (Ext.drew _) | refine Ext.trans ?_ (Ext.drewN _ _) | refine Ext.trans ?_ (by assumption)))⟩
                  case measure => simp [intOf]; omega
        · have hkl : k = f.length := by omega
          subst hkl
          clear hlk
          go_wp2
          go_roundw
          case rel => exact ⟨d + 1, a, cur, by omega, by go_num, hB, hF.congr (fun p hp => HTS.out p (by omega)), hE⟩
          case measure => simp [intOf]
end Go.Proofs.Ytnkkpphjahpadaa
