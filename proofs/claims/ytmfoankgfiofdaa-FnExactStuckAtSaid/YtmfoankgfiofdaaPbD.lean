/- CountBreaks, FewestLines: what they return; the program's walk of CountBreaks. -/
import Derived.Test.YtmfoankgfiofdaaPbK
import Derived.BigRegion
namespace Go.Proofs.Ytmfoankgfiofdaa
open Go.RowKit
set_option linter.unusedVariables false
def cbP (l : List Int) (r : Rul) (m : Int) : Int × Bool := if asked l r m then ((bA (paOf l r m) 0).2, true) else (0, false)
def cbV (l : List Int) (r : Rul) (m : Int) : Value := .tuple #[.int .i64 (cbP l r m).1, .bool (cbP l r m).2]
theorem cbV_form (l : List Int) (r : Rul) (m : Int) : ∃ x b, cbV l r m = .tuple #[.int .i64 x, .bool b] := ⟨_, _, rfl⟩
theorem cbV_bad {l : List Int} {r : Rul} {m : Int} (h : asked l r m = false) : cbV l r m = .tuple #[.int .i64 0, .bool false] := by simp [cbV, cbP, h]
theorem cbV_good {l : List Int} {r : Rul} {m : Int} (h : asked l r m = true) : cbV l r m = .tuple #[.int .i64 (bA (paOf l r m) 0).2, .bool true] := by simp [cbV, cbP, h]
/-- What paBest returns: the breaks, their cost, and whether there are any. -/
def bbP (X : OW) : List Int × Int × Bool := (owList X, owCost X, X.isSome)
def RetI3 (w : World) (p : List Int × Int × Bool) (e : Ending) (w' : World) : Prop := ∃ A c, e = .returned (.tuple #[.slice A p.1.length c, .int .i64 p.2.1, .bool p.2.2]) ∧ p.1.length ≤ c ∧ RdI w' w.heap.size w'.heap.size A p.1 ∧ Ext w w'
theorem retI3_lit {w w' : World} {a : Option Addr} {c : Nat} (hE : Ext w w') : RetI3 w ([], 0, false) (.returned (.tuple #[.slice a 0 c, .int .i64 0, .bool false])) w' := ⟨a, c, rfl, Nat.zero_le _, Rd.nil (Nat.le_refl _), hE⟩
def fwF (P : Pa) : Option Nat := (List.range P.n).find? fun i => (bw P false (i + 1) 0).1.isSome
def fwP (l : List Int) (r : Rul) (m : Int) : Int × Bool := if asked l r m then (match fwF (paOf l r m) with | some i => ((i : Int) + 1, true) | none => (0, false)) else (0, false)
def fwV (l : List Int) (r : Rul) (m : Int) : Value := .tuple #[.int .i64 (fwP l r m).1, .bool (fwP l r m).2]
theorem fwV_form (l : List Int) (r : Rul) (m : Int) : ∃ x b, fwV l r m = .tuple #[.int .i64 x, .bool b] := ⟨_, _, rfl⟩
theorem fwV_bad {l : List Int} {r : Rul} {m : Int} (h : asked l r m = false) : fwV l r m = .tuple #[.int .i64 0, .bool false] := by simp [fwV, fwP, h]
theorem find_first {p : Nat → Bool} {n k : Nat} (hk : k < n) (h : p k = true) (hf : ∀ i, i < k → p i = false) : (List.range n).find? p = some k := by
  rw [List.find?_range_eq_some]
  exact ⟨h, by simpa using hk, fun j hj => by simp [hf j hj]⟩
theorem fwV_first {l : List Int} {r : Rul} {m : Int} {k : Nat} (h1 : asked l r m = true) (hk : k < l.length) (h : (bw (paOf l r m) false (k + 1) 0).1.isSome = true) (hf : ∀ i, i < k → (bw (paOf l r m) false (i + 1) 0).1.isSome = false) : fwV l r m = .tuple #[.int .i64 ((k : Int) + 1), .bool true] := by
  have e : fwF (paOf l r m) = some k := find_first hk h hf
  simp [fwV, fwP, h1, e]
theorem fwV_none {l : List Int} {r : Rul} {m : Int} (h1 : asked l r m = true) (hf : ∀ i, i < l.length → (bw (paOf l r m) false (i + 1) 0).1.isSome = false) : fwV l r m = .tuple #[.int .i64 0, .bool false] := by
  have e : fwF (paOf l r m) = none := by
    unfold fwF
    rw [List.find?_eq_none]
    intro i hi
    have : (paOf l r m).n = l.length := rfl
    rw [List.mem_range, this] at hi
    simp [hf i hi]
  simp [fwV, fwP, h1, e]
set_option maxHeartbeats 4000000 in
theorem impl_CountBreaks (A : Option Addr) (c : Nat) (l : List Int) (r : Rul) (m : Int) (lo hi : Nat) (w : World) (hl : l.length ≤ 1048577) (hcap : l.length ≤ c) (hr : RdI w lo hi A l) :
    Calls Try.prog 23 #[.slice A l.length c, .agg #[.int .i64 r.least, .int .i64 r.normal, .int .i64 r.most], .int .i64 m] w fun e w' => e = .returned (cbV l r m) ∧ Ext w w' := by
  cases h1 : asked l r m
  · rw [cbV_bad h1]
    go_enter Try.func23, Try.ntmps23
    go_wp2_with ((go_at_call 37; refine (impl_asked A c l r m lo hi _ hl (hr.ext (Ext.alloc w (.cells #[.int .i64 r.least, .int .i64 r.normal, .int .i64 r.most] 28)))).mono ?_; rintro e w1 ⟨rfl, hE1⟩; obtain ⟨hc1, hf1⟩ := bcell hE1; have hs1 := hE1.size; (try simp only [World.size_alloc] at hs1)))
    go_ret2
    exact ⟨rfl, (by repeat (first | exact Ext.refl _ | assumption | refine Ext.trans ?_ (Ext.alloc _ _) | refine Ext.trans ?_ (Ext.drew _) | refine Ext.trans ?_ (Ext.drewN _ _) | refine Ext.trans ?_ (by assumption)))⟩
  · rw [cbV_good h1]
    have HH1 := Lib.hid h1
    obtain ⟨hp, ⟨r1, r2, r3, r4⟩, m1, m2⟩ := asked_parts h1
    obtain ⟨P, hP⟩ : ∃ P, P = paOf l r m := ⟨_, rfl⟩
    have hpl := pw_len hp
    have HPM := Lib.hid (pw_mem hp)
    have HPN : Hid (P.n = l.length) := by show _ = _; rw [hP]; rfl
    have HOK : Hid (∀ i j, P.ok i j = lineOk (cutL l i j) r m) := by show ∀ i j, _; rw [hP]; exact fun _ _ => rfl
    have HFI : Hid (∀ i, P.fin i = canEnd (cutL l i l.length) r m) := by show ∀ i, _; rw [hP]; exact fun _ => rfl
    rw [← hP]
    clear hP h1 hp
    obtain ⟨_, b, off, _, rfl, _, _, g3, _, _⟩ := RdI.get hr (k := 0) (by omega)
    obtain ⟨w0, hw0⟩ : ∃ w0, w0 = w.alloc (.cells #[.int .i64 r.least, .int .i64 r.normal, .int .i64 r.most] 28) := ⟨_, rfl⟩
    have x0 : w0.cell? ⟨w.heap.size, 0, none⟩ = some (.int .i64 r.least) := by rw [hw0]; exact box_new (Ext.refl _) rfl
    have x1 : w0.cell? ⟨w.heap.size, 1, none⟩ = some (.int .i64 r.normal) := by rw [hw0]; exact box_new (Ext.refl _) rfl
    have x2 : w0.cell? ⟨w.heap.size, 2, none⟩ = some (.int .i64 r.most) := by rw [hw0]; exact box_new (Ext.refl _) rfl
    have hE0 : Ext w w0 := by rw [hw0]; exact Ext.alloc _ _
    have hlt0 : w.heap.size < w0.heap.size := by rw [hw0]; simp
    have HW0 := Lib.hid hw0
    clear hw0
    have hq := hr.ext hE0
    obtain ⟨cs0, hmk, hf0⟩ := make_ints (P := Try.prog) 22 3 Try.underlying22 intInfo0 l.length (by omega)
    have HF0 := Lib.hid hf0; clear hf0
    go_enter Try.func23, Try.ntmps23
    go_wp2_with fail
    have hw0' := HW0.out
    rw [← hw0']
    clear hw0'
    refine (impl_asked _ c l r m lo hi _ hl hq).mono ?_
    rintro e w1 ⟨rfl, hE1⟩
    rw [HH1.out]
    have y0 := hE1.cell x0
    have y1 := hE1.cell x1
    have y2 := hE1.cell x2
    clear y0 y1 y2
    go_wp2_with fail
    obtain ⟨G, hG⟩ : ∃ G, G = w1.heap.size := ⟨_, rfl⟩
    have hz1 := hE1.size
    have hB0 : Blk (w1.alloc (.cells cs0 3)) G 3 cs0 := by rw [hG]; exact Blk.new _ _ _
    have hE2 : Ext w0 (w1.alloc (.cells cs0 3)) := hE1.trans (Ext.alloc _ _)
    rw [← hG]
    have hGw : w0.heap.size ≤ G := by omega
    clear hG hmk
    go_loopw [9] (fun j wr => ∃ (d a : Nat) (cur : Array Value), d + a = l.length ∧ j = .int .i64 ((a : Int) - 1) ∧ Blk wr G 3 cur ∧ FillI cur l.length (fun p => if p < a then 0 else (bA P p).2) ∧ Ext w0 wr) (fun j _ => (intOf j + 1).toNat)
    case atStart => exact ⟨0, l.length, cs0, by omega, rfl, hB0, HF0.out.congr (fun p hp => by rw [if_pos hp]), hE2⟩
    case round =>
      clear hB0 hE2 hE1
      obtain ⟨d, a1, cur, hda, hj, hB, hF, hE⟩ := hrel
      have hgl := hB.lt
      cases a1 with
      | zero =>
        rw [show (((0 : Nat) : Int) - 1) = -1 from rfl] at hj
        subst hj
        obtain ⟨q1, _⟩ := hF.cell hB (k := 0) (by omega)
        rw [if_neg (by omega)] at q1
        go_wp2
        go_ret2
        exact ⟨rfl, (by repeat (first | exact Ext.refl _ | assumption | refine Ext.trans ?_ (Ext.alloc _ _) | refine Ext.trans ?_ (Ext.drew _) | refine Ext.trans ?_ (Ext.drewN _ _) | refine Ext.trans ?_ (by assumption)))⟩
      | succ a =>
        rw [show ((a + 1 : Nat) : Int) - 1 = (a : Int) from by omega] at hj
        subst hj
        have hal : a < l.length := by omega
        obtain ⟨g, hg⟩ : ∃ g : Nat → Int, g = fun j => (bA P j).2 := ⟨_, rfl⟩
        obtain ⟨bs, hbs⟩ : ∃ bs : Int, bs = (if P.fin a then 1 else 0) := ⟨_, rfl⟩
        have HUP : Hid (wup P g bs a (l.length - 1 - a) = (bA P a).2) := by
          show _ = _
          rw [hbs, ← HPN.out]
          exact bA_ways (by rw [HPN.out]; exact hal) (fun j _ _ => by rw [hg])
        have HGG := Lib.hid hg; have HBS := Lib.hid hbs
        clear hg hbs
        have y0 : ∀ x : XW wr, x.v.cell? ⟨w.heap.size, 0, none⟩ = _ := fun x => x.h.cell (hE.cell x0)
        have y1 : ∀ x : XW wr, x.v.cell? ⟨w.heap.size, 1, none⟩ = _ := fun x => x.h.cell (hE.cell x1)
        have y2 : ∀ x : XW wr, x.v.cell? ⟨w.heap.size, 2, none⟩ = _ := fun x => x.h.cell (hE.cell x2)
        have hcF : ¬ c = a := by omega
        have hcut := cutL_len l (i := a) (k := l.length) (Nat.le_refl _)
        have HC := Lib.hid hcut
        have hRc := (hq.ext hE).cut a l.length
        have HCM : Hid (∀ x ∈ cutL l a l.length, 1 ≤ x ∧ x ≤ 600) := fun x hx => HPM.out x (cutL_mem hx)
        have hc1 : 1 ≤ (cutL l a l.length).length := by omega
        have hc2 : (cutL l a l.length).length ≤ 24 := by omega
        clear hcut
        cases hlo : canEnd (cutL l a l.length) r m
        · have HLO := Lib.hid hlo; clear hlo
          have HB : Hid (bs = 0) := by show _ = _; rw [HBS.out, HFI.out, HLO.out]; rfl
          go_wp2_with fail
          refine wp_region_xw (w0 := wr) (by kernel_rfl) (by kernel_rfl) (by repeat (first | exact Ext.refl _ | assumption | refine Ext.trans ?_ (Ext.alloc _ _) | refine Ext.trans ?_ (Ext.drew _) | refine Ext.trans ?_ (Ext.drewN _ _) | refine Ext.trans ?_ (by assumption))) ?_; (repeat (go_big_quiet_step ((go_at_call 46; exact XW.call (canEnd_v _ (c - a) (l.length - a) (cutL l a l.length) r m _ _ _ false HLO.out HC.out hc1 hc2 HCM.out r1 r2 r3 r4 m1 m2 (hRc.ext (XW.h _))))))); refine wpQuiet_nil ?_; intro w3 hw'; obtain ⟨⟨_, hEw3⟩, hw''⟩ := hw'; subst hw''
          clear y0 y1 y2
          go_wp2_with fail
          go_loopw [10] (fun j wr => ∃ (t : Nat) (cur : Array Value), a + 1 + t ≤ l.length ∧ j = .int .i64 ((a : Int) + 1 + t) ∧ Blk wr G 3 cur ∧ FillI cur l.length (fun p => if p = a then wup P g bs a t else if p < a + 1 then 0 else (bA P p).2) ∧ Ext w0 wr) (fun j _ => l.length - (intOf j).toNat)
          case atStart => exact ⟨0, cur, by omega, by go_num, hB.ext hEw3, hF.congr (fun p _ => by
              by_cases e : p = a
              · rw [if_pos e, if_pos (show p < a + 1 by omega)]; show bs = 0; exact HB.out
              · rw [if_neg e]), hE.trans hEw3⟩
          case round =>
            clear hB hF hE
            obtain ⟨t, cur, hta, rfl, hB, hF, hE⟩ := hrel
            have hgl := hB.lt
            obtain ⟨J, hJ⟩ : ∃ J, J = a + 1 + t := ⟨_, rfl⟩
            have hJi : (a : Int) + 1 + (t : Int) = (J : Int) := by omega
            rw [hJi]
            have HJ := Lib.hid hJ
            by_cases hlt : J < l.length
            · have y0 : ∀ x : XW wr, x.v.cell? ⟨w.heap.size, 0, none⟩ = _ := fun x => x.h.cell (hE.cell x0)
              have y1 : ∀ x : XW wr, x.v.cell? ⟨w.heap.size, 1, none⟩ = _ := fun x => x.h.cell (hE.cell x1)
              have y2 : ∀ x : XW wr, x.v.cell? ⟨w.heap.size, 2, none⟩ = _ := fun x => x.h.cell (hE.cell x2)
              have haJ : a < J := by omega
              have hcF : ¬ c = a := by omega
              have hcut := cutL_len l (i := a) (k := J) (by omega)
              have HC := Lib.hid hcut
              have hRc := (hq.ext hE).cut a J
              have HCM : Hid (∀ x ∈ cutL l a J, 1 ≤ x ∧ x ≤ 600) := fun x hx => HPM.out x (cutL_mem hx)
              have hc1 : 1 ≤ (cutL l a J).length := by omega
              have hc2 : (cutL l a J).length ≤ 24 := by omega
              have HUS : Hid (wup P g bs a (t + 1) = if P.ok a J then wrap64 (wup P g bs a t + g J) else wup P g bs a t) := by show _ = _; rw [hJ]; rfl
              clear hcut hJ hJi
              cases hlo : lineOk (cutL l a J) r m
              · have HLO := Lib.hid hlo; clear hlo
                have HS : Hid (wup P g bs a (t + 1) = wup P g bs a t) := by show _ = _; rw [HUS.out, if_neg (by rw [HOK.out, HLO.out]; decide)]
                go_wp2_with fail
                refine wp_region_xw (w0 := wr) (by kernel_rfl) (by kernel_rfl) (by repeat (first | exact Ext.refl _ | assumption | refine Ext.trans ?_ (Ext.alloc _ _) | refine Ext.trans ?_ (Ext.drew _) | refine Ext.trans ?_ (Ext.drewN _ _) | refine Ext.trans ?_ (by assumption))) ?_; (repeat (go_big_quiet_step ((go_at_call 45; exact XW.call (lineCost_v _ (c - a) (J - a) (cutL l a J) r m _ _ _ false HLO.out HC.out hc1 hc2 HCM.out r1 r2 r3 r4 m1 m2 (hRc.ext (XW.h _))))))); refine wpQuiet_nil ?_; intro w3 hw'; obtain ⟨⟨_, hEw3⟩, hw''⟩ := hw'; subst hw''
                clear y0 y1 y2
                go_wp2_with fail
                go_roundw
                case rel => exact ⟨t + 1, cur, by have := HJ.out; omega, val_int (by have := HJ.out; omega), hB.ext hEw3, hF.congr (fun p _ => by
                    by_cases e : p = a
                    · rw [if_pos e, if_pos e, HS.out]
                    · rw [if_neg e, if_neg e]), hE.trans hEw3⟩
                case measure => (have := HJ.out; simp [intOf]; try omega)
              · have HLO := Lib.hid hlo; clear hlo
                have HS : Hid (wup P g bs a (t + 1) = wrap64 (wup P g bs a t + g J)) := by show _ = _; rw [HUS.out, if_pos (by rw [HOK.out, HLO.out])]
                go_wp2_with fail
                refine wp_region_xw (w0 := wr) (by kernel_rfl) (by kernel_rfl) (by repeat (first | exact Ext.refl _ | assumption | refine Ext.trans ?_ (Ext.alloc _ _) | refine Ext.trans ?_ (Ext.drew _) | refine Ext.trans ?_ (Ext.drewN _ _) | refine Ext.trans ?_ (by assumption))) ?_; (repeat (go_big_quiet_step ((go_at_call 45; exact XW.call (lineCost_v _ (c - a) (J - a) (cutL l a J) r m _ _ _ true HLO.out HC.out hc1 hc2 HCM.out r1 r2 r3 r4 m1 m2 (hRc.ext (XW.h _))))))); refine wpQuiet_nil ?_; intro w3 hw'; obtain ⟨⟨_, hEw3⟩, hw''⟩ := hw'; subst hw''
                clear y0 y1 y2
                have hB3 := hB.ext hEw3
                obtain ⟨q1, q2⟩ := hF.cell hB3 (k := a) hal
                rw [if_pos rfl] at q1
                obtain ⟨q5, _⟩ := hF.cell hB3 (k := J) hlt
                rw [if_neg (by omega), if_neg (by omega), show (bA P J).2 = g J by rw [HGG.out]] at q5
                obtain ⟨v, hv⟩ : ∃ v, v = wup P g bs a t := ⟨_, rfl⟩
                obtain ⟨x, hx⟩ : ∃ x, x = g J := ⟨_, rfl⟩
                rw [← hv] at q1
                rw [← hx] at q5
                have HV := Lib.hid hv; have HX := Lib.hid hx
                have hgl3 := hB3.lt
                have hne : ¬ a = J := by omega
                clear hv hx
                go_wp2_with fail
                go_region
                go_wp2_with fail
                go_roundw
                case rel => exact ⟨t + 1, _, by have := HJ.out; omega, val_int (by have := HJ.out; omega), (hB3.set_ a _).ext (Ext.drew _), (hF.set_ a (wrap64 (v + x))).congr (fun p _ => by
                    by_cases e : p = a
                    · rw [if_pos e, if_pos e, HS.out, HV.out, HX.out]
                    · rw [if_neg e, if_neg e, if_neg e]), (Ext.setCell (hE.trans hEw3) hGw _).trans (Ext.drew _)⟩
                case measure => (have := HJ.out; simp [intOf]; try omega)
            · have hJl : t = l.length - 1 - a := by omega
              go_wp2_with fail
              go_roundw
              case rel => exact ⟨d + 1, a, cur, by omega, rfl, hB, hF.congr (fun p hp => by
                  by_cases e : p = a
                  · rw [if_pos e, if_neg (by omega), e, hJl, HUP.out]
                  · rw [if_neg e]
                    by_cases e2 : p < a
                    · rw [if_pos e2, if_pos (show p < a + 1 by omega)]
                    · rw [if_neg e2, if_neg (show ¬ p < a + 1 by omega)]), hE⟩
              case measure => simp [intOf]
        · have HLO := Lib.hid hlo; clear hlo
          have HB : Hid (bs = 1) := by show _ = _; rw [HBS.out, HFI.out, HLO.out]; rfl
          go_wp2_with fail
          refine wp_region_xw (w0 := wr) (by kernel_rfl) (by kernel_rfl) (by repeat (first | exact Ext.refl _ | assumption | refine Ext.trans ?_ (Ext.alloc _ _) | refine Ext.trans ?_ (Ext.drew _) | refine Ext.trans ?_ (Ext.drewN _ _) | refine Ext.trans ?_ (by assumption))) ?_; (repeat (go_big_quiet_step ((go_at_call 46; exact XW.call (canEnd_v _ (c - a) (l.length - a) (cutL l a l.length) r m _ _ _ true HLO.out HC.out hc1 hc2 HCM.out r1 r2 r3 r4 m1 m2 (hRc.ext (XW.h _))))))); refine wpQuiet_nil ?_; intro w3 hw'; obtain ⟨⟨_, hEw3⟩, hw''⟩ := hw'; subst hw''
          clear y0 y1 y2
          have hB3 := hB.ext hEw3
          obtain ⟨q3, q4⟩ := hF.cell hB3 (k := a) hal
          rw [if_pos (by omega)] at q3
          have hgl3 := hB3.lt
          go_wp2_with fail
          clear q3 q4
          go_loopw [10] (fun j wr => ∃ (t : Nat) (cur : Array Value), a + 1 + t ≤ l.length ∧ j = .int .i64 ((a : Int) + 1 + t) ∧ Blk wr G 3 cur ∧ FillI cur l.length (fun p => if p = a then wup P g bs a t else if p < a + 1 then 0 else (bA P p).2) ∧ Ext w0 wr) (fun j _ => l.length - (intOf j).toNat)
          case atStart => exact ⟨0, _, by omega, by go_num, hB3.set_ a _, (hF.set_ a 1).congr (fun p _ => by
              by_cases e : p = a
              · rw [if_pos e, if_pos e]; show bs = 1; exact HB.out
              · rw [if_neg e, if_neg e]), Ext.setCell (hE.trans hEw3) hGw _⟩
          case round =>
            clear hB hF hE hB3
            obtain ⟨t, cur, hta, rfl, hB, hF, hE⟩ := hrel
            have hgl := hB.lt
            obtain ⟨J, hJ⟩ : ∃ J, J = a + 1 + t := ⟨_, rfl⟩
            have hJi : (a : Int) + 1 + (t : Int) = (J : Int) := by omega
            rw [hJi]
            have HJ := Lib.hid hJ
            by_cases hlt : J < l.length
            · have y0 : ∀ x : XW wr, x.v.cell? ⟨w.heap.size, 0, none⟩ = _ := fun x => x.h.cell (hE.cell x0)
              have y1 : ∀ x : XW wr, x.v.cell? ⟨w.heap.size, 1, none⟩ = _ := fun x => x.h.cell (hE.cell x1)
              have y2 : ∀ x : XW wr, x.v.cell? ⟨w.heap.size, 2, none⟩ = _ := fun x => x.h.cell (hE.cell x2)
              have haJ : a < J := by omega
              have hcF : ¬ c = a := by omega
              have hcut := cutL_len l (i := a) (k := J) (by omega)
              have HC := Lib.hid hcut
              have hRc := (hq.ext hE).cut a J
              have HCM : Hid (∀ x ∈ cutL l a J, 1 ≤ x ∧ x ≤ 600) := fun x hx => HPM.out x (cutL_mem hx)
              have hc1 : 1 ≤ (cutL l a J).length := by omega
              have hc2 : (cutL l a J).length ≤ 24 := by omega
              have HUS : Hid (wup P g bs a (t + 1) = if P.ok a J then wrap64 (wup P g bs a t + g J) else wup P g bs a t) := by show _ = _; rw [hJ]; rfl
              clear hcut hJ hJi
              cases hlo : lineOk (cutL l a J) r m
              · have HLO := Lib.hid hlo; clear hlo
                have HS : Hid (wup P g bs a (t + 1) = wup P g bs a t) := by show _ = _; rw [HUS.out, if_neg (by rw [HOK.out, HLO.out]; decide)]
                go_wp2_with fail
                refine wp_region_xw (w0 := wr) (by kernel_rfl) (by kernel_rfl) (by repeat (first | exact Ext.refl _ | assumption | refine Ext.trans ?_ (Ext.alloc _ _) | refine Ext.trans ?_ (Ext.drew _) | refine Ext.trans ?_ (Ext.drewN _ _) | refine Ext.trans ?_ (by assumption))) ?_; (repeat (go_big_quiet_step ((go_at_call 45; exact XW.call (lineCost_v _ (c - a) (J - a) (cutL l a J) r m _ _ _ false HLO.out HC.out hc1 hc2 HCM.out r1 r2 r3 r4 m1 m2 (hRc.ext (XW.h _))))))); refine wpQuiet_nil ?_; intro w3 hw'; obtain ⟨⟨_, hEw3⟩, hw''⟩ := hw'; subst hw''
                clear y0 y1 y2
                go_wp2_with fail
                go_roundw
                case rel => exact ⟨t + 1, cur, by have := HJ.out; omega, val_int (by have := HJ.out; omega), hB.ext hEw3, hF.congr (fun p _ => by
                    by_cases e : p = a
                    · rw [if_pos e, if_pos e, HS.out]
                    · rw [if_neg e, if_neg e]), hE.trans hEw3⟩
                case measure => (have := HJ.out; simp [intOf]; try omega)
              · have HLO := Lib.hid hlo; clear hlo
                have HS : Hid (wup P g bs a (t + 1) = wrap64 (wup P g bs a t + g J)) := by show _ = _; rw [HUS.out, if_pos (by rw [HOK.out, HLO.out])]
                go_wp2_with fail
                refine wp_region_xw (w0 := wr) (by kernel_rfl) (by kernel_rfl) (by repeat (first | exact Ext.refl _ | assumption | refine Ext.trans ?_ (Ext.alloc _ _) | refine Ext.trans ?_ (Ext.drew _) | refine Ext.trans ?_ (Ext.drewN _ _) | refine Ext.trans ?_ (by assumption))) ?_; (repeat (go_big_quiet_step ((go_at_call 45; exact XW.call (lineCost_v _ (c - a) (J - a) (cutL l a J) r m _ _ _ true HLO.out HC.out hc1 hc2 HCM.out r1 r2 r3 r4 m1 m2 (hRc.ext (XW.h _))))))); refine wpQuiet_nil ?_; intro w3 hw'; obtain ⟨⟨_, hEw3⟩, hw''⟩ := hw'; subst hw''
                clear y0 y1 y2
                have hB3 := hB.ext hEw3
                obtain ⟨q1, q2⟩ := hF.cell hB3 (k := a) hal
                rw [if_pos rfl] at q1
                obtain ⟨q5, _⟩ := hF.cell hB3 (k := J) hlt
                rw [if_neg (by omega), if_neg (by omega), show (bA P J).2 = g J by rw [HGG.out]] at q5
                obtain ⟨v, hv⟩ : ∃ v, v = wup P g bs a t := ⟨_, rfl⟩
                obtain ⟨x, hx⟩ : ∃ x, x = g J := ⟨_, rfl⟩
                rw [← hv] at q1
                rw [← hx] at q5
                have HV := Lib.hid hv; have HX := Lib.hid hx
                have hgl3 := hB3.lt
                have hne : ¬ a = J := by omega
                clear hv hx
                go_wp2_with fail
                go_region
                go_wp2_with fail
                go_roundw
                case rel => exact ⟨t + 1, _, by have := HJ.out; omega, val_int (by have := HJ.out; omega), (hB3.set_ a _).ext (Ext.drew _), (hF.set_ a (wrap64 (v + x))).congr (fun p _ => by
                    by_cases e : p = a
                    · rw [if_pos e, if_pos e, HS.out, HV.out, HX.out]
                    · rw [if_neg e, if_neg e, if_neg e]), (Ext.setCell (hE.trans hEw3) hGw _).trans (Ext.drew _)⟩
                case measure => (have := HJ.out; simp [intOf]; try omega)
            · have hJl : t = l.length - 1 - a := by omega
              go_wp2_with fail
              go_roundw
              case rel => exact ⟨d + 1, a, cur, by omega, rfl, hB, hF.congr (fun p hp => by
                  by_cases e : p = a
                  · rw [if_pos e, if_neg (by omega), e, hJl, HUP.out]
                  · rw [if_neg e]
                    by_cases e2 : p < a
                    · rw [if_pos e2, if_pos (show p < a + 1 by omega)]
                    · rw [if_neg e2, if_neg (show ¬ p < a + 1 by omega)]), hE⟩
              case measure => simp [intOf]
end Go.Proofs.Ytmfoankgfiofdaa
