/- The walk of the reference's CleanPages. -/
import Derived.Test.YtblecbdkpjmfeaaCpB
namespace Go.Proofs.Ytblecbdkpjmfeaa
open Go.RowKit
set_option linter.unusedVariables false
open Clean
theorem Blk.far {w : World} {g : Nat} {t : TypeId} {cs : Array Value} (h : Blk w g t cs) {b o : Nat} (hne : ¬ g = b) (u : Value) : Blk (w.setCell ⟨b, o, none⟩ u) g t cs :=
  (Below.heap_setCell _ _ _ _ (fun e => hne e)).trans h
def cpSt (l : List SetL) (d : Int) (m : Nat) : Nat → Int := stab l.length (cpD l d) (widow l) (orphan l) m
def cpNt (l : List SetL) (d : Int) (m : Nat) : Nat → Nat := ntab l.length (cpD l d) (widow l) (orphan l) m
def cpSf (l : List SetL) (d : Int) (m i q : Nat) : Int × Nat := sf l.length (cpD l d) (widow l) (orphan l) (cpSt l d m) i q
theorem cpSt_ge (l : List SetL) (d : Int) (m : Nat) (hm : m ≤ l.length) (j : Nat) : -1 ≤ cpSt l d m j ∧ cpSt l d m j ≤ m := stab_ge _ _ _ _ m hm j
theorem cpSf_ge (l : List SetL) (d : Int) (m i q : Nat) (hm : m ≤ l.length) (hq : q ≤ l.length) : -1 ≤ (cpSf l d m i q).1 ∧ (cpSf l d m i q).1 ≤ m + 1 := by
  have h := sf_spec l.length (cpD l d) (widow l) (orphan l) (cpSt l d m) i q hq
  by_cases h0 : (cpSf l d m i q).1 < 0
  · have : (cpSf l d m i q).1 = -1 := (h.1 h0).1; omega
  · obtain ⟨_, _, _, h4, _⟩ := h.2 (Int.not_lt.1 h0)
    have e : cpSt l d m (cpSf l d m i q).2 + 1 = (cpSf l d m i q).1 := h4
    have := cpSt_ge l d m hm (cpSf l d m i q).2
    omega
def cpOk (l : List SetL) (d : Int) (i j : Nat) (U : Int) : Bool := (cpD l d i j && decide (0 ≤ U)) && (decide (j = l.length) || (!orphan l j && !widow l j))
theorem cpSf_succ (l : List SetL) (d : Int) (m i q : Nat) : cpSf l d m i (q + 1) = if cpOk l d i (l.length - q) (cpSt l d m (l.length - q)) && (decide ((cpSf l d m i q).1 < 0) || decide (cpSt l d m (l.length - q) + 1 < (cpSf l d m i q).1)) then (cpSt l d m (l.length - q) + 1, l.length - q) else cpSf l d m i q := by
  unfold cpSf; rw [sf]; rfl
theorem cpSt_succ (l : List SetL) (d : Int) (m x : Nat) : cpSt l d (m + 1) x = if x = l.length - 1 - m then (cpSf l d m (l.length - 1 - m) (m + 1)).1 else cpSt l d m x := rfl
theorem cpNt_succ (l : List SetL) (d : Int) (m x : Nat) : cpNt l d (m + 1) x = if x = l.length - 1 - m then (cpSf l d m (l.length - 1 - m) (m + 1)).2 else cpNt l d m x := rfl
theorem cpNt_low (l : List SetL) (d : Int) : ∀ m j, m ≤ l.length → j < l.length - m → cpNt l d m j = 0 := by
  intro m
  induction m with
  | zero => intro j _ _; rfl
  | succ m ih => intro j hm hj; rw [cpNt_succ, if_neg (by omega)]; exact ih j (by omega) (by omega)
set_option maxRecDepth 100000 in
set_option maxHeartbeats 2000000 in
theorem spec_CleanPages (A : Option Addr) (c : Nat) (l : List SetL) (d : Int) (lo hi : Nat) (w : World) (hl : l.length ≤ 1048576) (hcap : l.length ≤ c) (hq : InRS l) (hr : RdS w lo hi A l) :
    Calls Try.prog 36 #[.slice A l.length c, .int .i64 d] w (RetI2 w (cpP l d)) := by
  cases h : paged l d
  · rw [cpP_bad (by simp [h])]
    go_enter Try.func36, Try.ntmps36
    go_wp2_with (go_at_call 42; refine (spec_pgAsked A c l d lo hi _ (by omega) hr).mono ?_; rintro e w1 ⟨rfl, hE1⟩; obtain ⟨hc1, hf1⟩ := bcell hE1; have hs1 := hE1.size; (try simp only [World.size_alloc] at hs1))
    go_ret2
    exact retI2_lit (by repeat (first | exact Ext.refl _ | assumption | refine Ext.trans ?_ (Ext.alloc _ _) | refine Ext.trans ?_ (Ext.drew _) | refine Ext.trans ?_ (Ext.drewN _ _) | refine Ext.trans ?_ (by assumption)))
  obtain ⟨_, ⟨hd1, hd2⟩, hl1, hl2⟩ := paged_parts h
  obtain ⟨_, b, off, _, rfl, _, _, g3, _, _, _⟩ := RdS.get hr (k := 0) (by omega)
  obtain ⟨P, hP⟩ : ∃ P, P = cpP l d := ⟨_, rfl⟩
  rw [← hP]
  have HP := Lib.hid hP; clear hP
  obtain ⟨cs0, hmk, hf0⟩ := make_ints (P := Try.prog) 32 3 Try.underlying32 intInfo (l.length + 1) (by omega)
  have HF0 := Lib.hid hf0; clear hf0
  have hmk' := hmk
  simp only [Int.natCast_add, Int.natCast_one] at hmk'
  go_enter Try.func36, Try.ntmps36
  go_wp2_with (go_at_call 42; refine (spec_pgAsked _ c l d lo hi _ (by omega) hr).mono ?_; rintro e w1 ⟨rfl, hE1⟩; obtain ⟨hc1, hf1⟩ := bcell hE1; have hs1 := hE1.size; (try simp only [World.size_alloc] at hs1))
  have qw : IntKind.i64.wrap ((l.length : Int) + 1) = (l.length : Int) + 1 := IntWalk.i64_in _ (by omega)
  have H := Lib.hid h
  clear h hc1 hf1
  go_region
  focus
    obtain ⟨Gf, Gn, hGf, hGn⟩ : ∃ Gf Gn, Gf = w1.heap.size ∧ Gn = w1.heap.size + 1 := ⟨_, _, rfl, rfl⟩
    obtain ⟨W, hW⟩ : ∃ W, W = ((w1.alloc (.cells cs0 3)).alloc (.cells cs0 3)).drew := ⟨_, rfl⟩
    have hBf : Blk W Gf 3 cs0 := by rw [hW, hGf]; exact ((Blk.new w1 3 cs0).ext (Ext.alloc _ _)).ext (Ext.drew _)
    have hBn : Blk W Gn 3 cs0 := by rw [hW, hGn]; have := Blk.new (w1.alloc (.cells cs0 3)) 3 cs0; rw [World.size_alloc] at this; exact this.ext (Ext.drew _)
    have hEW : Ext w W := by rw [hW]; exact (by repeat (first | exact Ext.refl _ | assumption | refine Ext.trans ?_ (Ext.alloc _ _) | refine Ext.trans ?_ (Ext.drew _) | refine Ext.trans ?_ (Ext.drewN _ _) | refine Ext.trans ?_ (by assumption)))
    rw [← hGn, ← hGf, ← hW]
    have hne : ¬ Gf = Gn := by omega
    have hwf : w.heap.size ≤ Gf := by omega
    have hwn : w.heap.size ≤ Gn := by omega
    clear hGf hGn hW
  rotate_left
  focus
    obtain ⟨Gf, Gn, hGf, hGn⟩ : ∃ Gf Gn, Gf = w1.heap.size + 1 ∧ Gn = w1.heap.size := ⟨_, _, rfl, rfl⟩
    obtain ⟨W, hW⟩ : ∃ W, W = ((w1.alloc (.cells cs0 3)).alloc (.cells cs0 3)).drew := ⟨_, rfl⟩
    have hBn : Blk W Gn 3 cs0 := by rw [hW, hGn]; exact ((Blk.new w1 3 cs0).ext (Ext.alloc _ _)).ext (Ext.drew _)
    have hBf : Blk W Gf 3 cs0 := by rw [hW, hGf]; have := Blk.new (w1.alloc (.cells cs0 3)) 3 cs0; rw [World.size_alloc] at this; exact this.ext (Ext.drew _)
    have hEW : Ext w W := by rw [hW]; exact (by repeat (first | exact Ext.refl _ | assumption | refine Ext.trans ?_ (Ext.alloc _ _) | refine Ext.trans ?_ (Ext.drew _) | refine Ext.trans ?_ (Ext.drewN _ _) | refine Ext.trans ?_ (by assumption)))
    rw [← hGf, ← hGn, ← hW]
    have hne : ¬ Gf = Gn := by omega
    have hwf : w.heap.size ≤ Gf := by omega
    have hwn : w.heap.size ≤ Gn := by omega
    clear hGf hGn hW
  all_goals
    have hne2 : ¬ Gn = Gf := fun e => hne e.symm
    clear hmk hmk' qw hs1 hE1
    go_wp2
    go_loopw [8] (fun f wr => ∃ (m : Nat) (F : Int) (cf cn : Array Value), m ≤ l.length ∧ f = .int .i64 F ∧ F = (l.length : Int) - 1 - m ∧ Blk wr Gf 3 cf ∧ FillI cf (l.length + 1) (cpSt l d m) ∧ Blk wr Gn 3 cn ∧ FillI cn (l.length + 1) (fun x => (cpNt l d m x : Int)) ∧ Ext w wr) (fun f _ => (intOf f + 1).toNat)
    case atStart => exact ⟨0, (l.length : Int) - 1, cs0, cs0, Nat.zero_le _, rfl, by omega, hBf, HF0.out.congr (fun i _ => rfl), hBn, HF0.out.congr (fun i _ => rfl), hEW⟩
    case round =>
      clear hBf hBn hEW
      obtain ⟨m, F, cf, cn, hm, rfl, hF, hBf, hFf, hBn, hFn, hE⟩ := hrel
      obtain ⟨wo, rfl⟩ : ∃ wo : World, wo = wr := ⟨_, rfl⟩
      by_cases hlt : m < l.length
      · obtain ⟨i, rfl⟩ : ∃ i : Nat, F = i := ⟨F.toNat, by omega⟩
        have hi : i = l.length - 1 - m := by omega
        have hi1 : i < l.length := by omega
        have him : i + m + 1 ≤ l.length := by omega
        have him2 : l.length ≤ i + m + 1 := by omega
        have HI := Lib.hid hi; clear hi hF
        have HN0 : Hid (cpNt l d m i = 0) := cpNt_low l d m i (by omega) (by omega)
        obtain ⟨q0, r0⟩ := hFf.cell hBf (k := i) (by omega)
        have hgl := hBf.lt
        go_wp2
        clear q0 r0
        go_loopw [9] (fun t wr => ∃ (q : Nat) (cf cn : Array Value), q ≤ m + 1 ∧ t = .int .i64 ((l.length : Int) - q) ∧ Blk wr Gf 3 cf ∧ FillI cf (l.length + 1) (fun x => if x = i then (cpSf l d m i q).1 else cpSt l d m x) ∧ Blk wr Gn 3 cn ∧ FillI cn (l.length + 1) (fun x => if x = i then ((cpSf l d m i q).2 : Int) else (cpNt l d m x : Int)) ∧ Ext w wr) (fun t _ => (intOf t).toNat)
        case atStart => exact ⟨0, _, cn, Nat.zero_le _, by simp, hBf.set_ i _, (hFf.set_ i (-1)).congr (fun x _ => rfl), hBn.far hne2 _, hFn.congr (fun x _ => by
            by_cases ex : x = i
            · subst ex; rw [if_pos rfl, HN0.out]; rfl
            · rw [if_neg ex]), Ext.setCell hE hwf _⟩
        case round =>
          obtain ⟨q, cf, cn, hq1, rfl, hBf, hFf, hBn, hFn, hE⟩ := hrel
          by_cases hqt : q < m + 1
          · obtain ⟨J, hJ⟩ : ∃ J : Nat, J = l.length - q := ⟨_, rfl⟩
            have hJc : (l.length : Int) - q = J := by omega
            rw [hJc]
            have hst := cpSf_succ l d m i q
            rw [← hJ] at hst
            have hj1 : i < J := by omega
            have hj2 : J ≤ l.length := by omega
            have HJ := Lib.hid hJ
            obtain ⟨q0, r0⟩ := hFf.cell hBf (k := J) (by omega)
            obtain ⟨q1, r1⟩ := hFf.cell hBf (k := i) (by omega)
            obtain ⟨q2, r2⟩ := hFn.cell hBn (k := i) (by omega)
            rw [if_neg (by omega)] at q0
            rw [if_pos rfl] at q1 q2
            have hgl := hBf.lt
            have hgn := hBn.lt
            have b1 := cpSt_ge l d m (by omega) J
            have b2 := cpSf_ge l d m i q (by omega) (by omega)
            obtain ⟨U, hU⟩ : ∃ U, U = cpSt l d m J := ⟨_, rfl⟩
            obtain ⟨V, hV⟩ : ∃ V, V = (cpSf l d m i q).1 := ⟨_, rfl⟩
            rw [← hU] at q0 b1 hst
            rw [← hV] at q1 b2 hst
            have HSU := Lib.hid hst
            have HV := Lib.hid hV
            clear hU hV hst hJ hJc
            have i0 : (0 : Int) ≤ J := by omega
            have i1 : (J : Int) < (l.length : Int) + 1 := by omega
            have i2 : (0 : Int) ≤ i := by omega
            have i3 : (i : Int) < (l.length : Int) + 1 := by omega
            have keepF : cpSf l d m i (q + 1) = cpSf l d m i q → FillI cf (l.length + 1) (fun x => if x = i then (cpSf l d m i (q + 1)).1 else cpSt l d m x) ∧ FillI cn (l.length + 1) (fun x => if x = i then ((cpSf l d m i (q + 1)).2 : Int) else (cpNt l d m x : Int)) := fun e => by rw [e]; exact ⟨hFf, hFn⟩
            have KF := Lib.hid keepF; clear keepF
            have hci : ¬ c = i := by omega
            have hcut := cutL_len l (i := i) (k := J) hj2
            have hD := spec_pgDeep (some ⟨b, off + i * 3, none⟩) (c - i) (J - i) (cutL l i J) lo hi wr hcut (by omega) ((hr.ext hE).cut i J)
            have HD := Lib.hid hD
            clear hD hcut
            by_cases hdp : deep (cutL l i J) ≤ d
            case neg =>
              have HR := Lib.hid (KF.out (by rw [HSU.out]; exact if_neg (by simp [cpOk, cpD, hdp])))
              have hdp' : d < deep (cutL l i J) := by omega
              go_wp2_with (go_at_call 52; refine HD.out.mono ?_; rintro e w7 ⟨rfl, hE7⟩)
              go_roundw
              case rel => exact ⟨q + 1, cf, cn, by omega, val_int (by have := HJ.out; omega), hBf.ext (by repeat (first | exact Ext.refl _ | assumption | refine Ext.trans ?_ (Ext.alloc _ _) | refine Ext.trans ?_ (Ext.drew _) | refine Ext.trans ?_ (Ext.drewN _ _) | refine Ext.trans ?_ (by assumption))), HR.out.1, hBn.ext (by repeat (first | exact Ext.refl _ | assumption | refine Ext.trans ?_ (Ext.alloc _ _) | refine Ext.trans ?_ (Ext.drew _) | refine Ext.trans ?_ (Ext.drewN _ _) | refine Ext.trans ?_ (by assumption))), HR.out.2, (by repeat (first | exact Ext.refl _ | assumption | refine Ext.trans ?_ (Ext.alloc _ _) | refine Ext.trans ?_ (Ext.drew _) | refine Ext.trans ?_ (Ext.drewN _ _) | refine Ext.trans ?_ (by assumption)))⟩
              case measure => simp [intOf]; omega
            by_cases hU0 : 0 ≤ U
            case neg =>
              have HR := Lib.hid (KF.out (by rw [HSU.out]; exact if_neg (by simp [cpOk, hU0])))
              have hU0' : U < 0 := by omega
              go_wp2_with fail
              refine HD.out.mono ?_
              rintro e w7 ⟨rfl, hE7⟩
              have q0' := hE7.cell q0
              have hgl' : Gf < w7.heap.size := by have := hE7.size; omega
              go_wp2
              go_roundw
              case rel => exact ⟨q + 1, cf, cn, by omega, val_int (by have := HJ.out; omega), hBf.ext (by repeat (first | exact Ext.refl _ | assumption | refine Ext.trans ?_ (Ext.alloc _ _) | refine Ext.trans ?_ (Ext.drew _) | refine Ext.trans ?_ (Ext.drewN _ _) | refine Ext.trans ?_ (by assumption))), HR.out.1, hBn.ext (by repeat (first | exact Ext.refl _ | assumption | refine Ext.trans ?_ (Ext.alloc _ _) | refine Ext.trans ?_ (Ext.drew _) | refine Ext.trans ?_ (Ext.drewN _ _) | refine Ext.trans ?_ (by assumption))), HR.out.2, (by repeat (first | exact Ext.refl _ | assumption | refine Ext.trans ?_ (Ext.alloc _ _) | refine Ext.trans ?_ (Ext.drew _) | refine Ext.trans ?_ (Ext.drewN _ _) | refine Ext.trans ?_ (by assumption)))⟩
              case measure => simp [intOf]; omega
            have setF : cpSf l d m i (q + 1) = (U + 1, J) → FillI (cf.setIfInBounds i (.int .i64 (U + 1))) (l.length + 1) (fun x => if x = i then (cpSf l d m i (q + 1)).1 else cpSt l d m x) ∧ FillI (cn.setIfInBounds i (.int .i64 J)) (l.length + 1) (fun x => if x = i then ((cpSf l d m i (q + 1)).2 : Int) else (cpNt l d m x : Int)) := fun e => by
              rw [e]
              exact ⟨(hFf.set_ i (U + 1)).congr (fun x _ => by by_cases ex : x = i <;> simp [ex]), (hFn.set_ i J).congr (fun x _ => by by_cases ex : x = i <;> simp [ex])⟩
            have SF := Lib.hid setF; clear setF
            have qw : IntKind.i64.wrap (U + 1) = U + 1 := IntWalk.i64_in _ (by omega)
            have HDP := Lib.hid hdp
            have HU0 := Lib.hid hU0
            have hJn : J = l.length ∨ J < l.length := by omega
            rcases hJn with hJn | hJn
            · have hnl : ¬ J < l.length := by omega
              have HJN := Lib.hid hJn
              have hok : cpOk l d i J U = true := by rw [cpOk, cpD, decide_eq_true HDP.out, decide_eq_true HU0.out, decide_eq_true HJN.out]; rfl
              have HOK := Lib.hid hok
              clear hJn hok
              by_cases hV0 : V < 0
              case pos =>
                have t2 : decide (V < 0) = true := by simpa using hV0
                have HR := Lib.hid (SF.out (by rw [HSU.out, HOK.out, t2]; rfl))
                go_wp2_with fail
                refine HD.out.mono ?_
                rintro e w7 ⟨rfl, hE7⟩
                have q0' := hE7.cell q0
                have hgl' : Gf < w7.heap.size := by have := hE7.size; omega
                have e0 : ∀ x : XW w7, x.v.cell? ⟨Gf, J, none⟩ = _ := fun x => x.h.cell (hE7.cell q0)
                have e1 : ∀ x : XW w7, x.v.cell? ⟨Gf, i, none⟩ = _ := fun x => x.h.cell (hE7.cell q1)
                have hgf7 : Gf < w7.heap.size := by have := (hE7).size; omega
                go_wp2_with fail
                refine wp_region_xw (w0 := w7) (by kernel_rfl) (by kernel_rfl) (by repeat (first | exact Ext.refl _ | assumption | refine Ext.trans ?_ (Ext.alloc _ _) | refine Ext.trans ?_ (Ext.drew _) | refine Ext.trans ?_ (Ext.drewN _ _) | refine Ext.trans ?_ (by assumption))) ?_; (repeat (go_big_quiet_step (fail))); refine wpQuiet_nil ?_; intro _ hw'; obtain ⟨⟨wq, hEwq⟩, hw''⟩ := hw'; subst hw''
                clear e0 e1
                have hEq := (hE7).trans hEwq
                have q0' := hEq.cell q0
                have q1' := hEq.cell q1
                have q2' := hEq.cell q2
                have r1' := (hBf.ext hEq).frozen i
                have r2' := (hBn.ext hEq).frozen i
                have hgl' := (hBf.ext hEq).lt
                have hgn' := (hBn.ext hEq).lt
                go_wp2
                go_roundw
                case rel => exact ⟨q + 1, _, _, by omega, val_int (by have := HJ.out; omega), ((hBf.ext hEq).set_ i _).far hne _, HR.out.1, ((hBn.ext hEq).far hne2 _).set_ i _, HR.out.2, Ext.setCell (Ext.setCell (hE.trans hEq) hwf _) hwn _⟩
                case measure => simp [intOf]; omega
              have t2 : decide (V < 0) = false := by simpa using hV0
              by_cases hUV : U + 1 < V
              case pos =>
                have t3 : decide (U + 1 < V) = true := by simpa using hUV
                have HR := Lib.hid (SF.out (by rw [HSU.out, HOK.out, t2, t3]; rfl))
                go_wp2_with fail
                refine HD.out.mono ?_
                rintro e w7 ⟨rfl, hE7⟩
                have q0' := hE7.cell q0
                have hgl' : Gf < w7.heap.size := by have := hE7.size; omega
                have e0 : ∀ x : XW w7, x.v.cell? ⟨Gf, J, none⟩ = _ := fun x => x.h.cell (hE7.cell q0)
                have e1 : ∀ x : XW w7, x.v.cell? ⟨Gf, i, none⟩ = _ := fun x => x.h.cell (hE7.cell q1)
                have hgf7 : Gf < w7.heap.size := by have := (hE7).size; omega
                go_wp2_with fail
                refine wp_region_xw (w0 := w7) (by kernel_rfl) (by kernel_rfl) (by repeat (first | exact Ext.refl _ | assumption | refine Ext.trans ?_ (Ext.alloc _ _) | refine Ext.trans ?_ (Ext.drew _) | refine Ext.trans ?_ (Ext.drewN _ _) | refine Ext.trans ?_ (by assumption))) ?_; (repeat (go_big_quiet_step (fail))); refine wpQuiet_nil ?_; intro _ hw'; obtain ⟨⟨wq, hEwq⟩, hw''⟩ := hw'; subst hw''
                clear e0 e1
                have hEq := (hE7).trans hEwq
                have q0' := hEq.cell q0
                have q1' := hEq.cell q1
                have q2' := hEq.cell q2
                have r1' := (hBf.ext hEq).frozen i
                have r2' := (hBn.ext hEq).frozen i
                have hgl' := (hBf.ext hEq).lt
                have hgn' := (hBn.ext hEq).lt
                go_wp2
                go_roundw
                case rel => exact ⟨q + 1, _, _, by omega, val_int (by have := HJ.out; omega), ((hBf.ext hEq).set_ i _).far hne _, HR.out.1, ((hBn.ext hEq).far hne2 _).set_ i _, HR.out.2, Ext.setCell (Ext.setCell (hE.trans hEq) hwf _) hwn _⟩
                case measure => simp [intOf]; omega
              have t3 : decide (U + 1 < V) = false := by simpa using hUV
              have HR := Lib.hid (KF.out (by rw [HSU.out, t2, t3]; simp))
              go_wp2_with fail
              refine HD.out.mono ?_
              rintro e w7 ⟨rfl, hE7⟩
              have q0' := hE7.cell q0
              have hgl' : Gf < w7.heap.size := by have := hE7.size; omega
              have e0 : ∀ x : XW w7, x.v.cell? ⟨Gf, J, none⟩ = _ := fun x => x.h.cell (hE7.cell q0)
              have e1 : ∀ x : XW w7, x.v.cell? ⟨Gf, i, none⟩ = _ := fun x => x.h.cell (hE7.cell q1)
              have hgf7 : Gf < w7.heap.size := by have := (hE7).size; omega
              go_wp2_with fail
              refine wp_region_xw (w0 := w7) (by kernel_rfl) (by kernel_rfl) (by repeat (first | exact Ext.refl _ | assumption | refine Ext.trans ?_ (Ext.alloc _ _) | refine Ext.trans ?_ (Ext.drew _) | refine Ext.trans ?_ (Ext.drewN _ _) | refine Ext.trans ?_ (by assumption))) ?_; (repeat (go_big_quiet_step (fail))); refine wpQuiet_nil ?_; intro _ hw'; obtain ⟨⟨wq, hEwq⟩, hw''⟩ := hw'; subst hw''
              clear e0 e1
              have hEq := (hE7).trans hEwq
              go_wp2
              go_roundw
              case rel => exact ⟨q + 1, cf, cn, by omega, val_int (by have := HJ.out; omega), hBf.ext hEq, HR.out.1, hBn.ext hEq, HR.out.2, hE.trans hEq⟩
              case measure => simp [intOf]; omega
            · have hc1 : ((J : Int) - 1) = ((J - 1 : Nat) : Int) := by omega
              have HC1 := Lib.hid hc1; clear hc1
              cases hpf : pgF l (J - 1)
              case true =>
                have HR := Lib.hid (KF.out (by rw [HSU.out]; exact if_neg (by simp [cpOk, orphan_pgF hJn, hpf]; intro _ _ e; omega)))
                go_wp2_with fail
                refine HD.out.mono ?_
                rintro e w7 ⟨rfl, hE7⟩
                have q0' := hE7.cell q0
                have hgl' : Gf < w7.heap.size := by have := hE7.size; omega
                go_wp2_with fail
                rw [HC1.out]
                refine (spec_pgFirst _ c l (J - 1) lo hi _ (by omega) (by omega) (hr.ext (hE.trans hE7))).mono ?_
                rintro e w8 ⟨rfl, hE8⟩
                go_wp2
                go_roundw
                case rel => exact ⟨q + 1, cf, cn, by omega, val_int (by have := HJ.out; omega), hBf.ext (by repeat (first | exact Ext.refl _ | assumption | refine Ext.trans ?_ (Ext.alloc _ _) | refine Ext.trans ?_ (Ext.drew _) | refine Ext.trans ?_ (Ext.drewN _ _) | refine Ext.trans ?_ (by assumption))), HR.out.1, hBn.ext (by repeat (first | exact Ext.refl _ | assumption | refine Ext.trans ?_ (Ext.alloc _ _) | refine Ext.trans ?_ (Ext.drew _) | refine Ext.trans ?_ (Ext.drewN _ _) | refine Ext.trans ?_ (by assumption))), HR.out.2, (by repeat (first | exact Ext.refl _ | assumption | refine Ext.trans ?_ (Ext.alloc _ _) | refine Ext.trans ?_ (Ext.drew _) | refine Ext.trans ?_ (Ext.drewN _ _) | refine Ext.trans ?_ (by assumption)))⟩
                case measure => simp [intOf]; omega
              cases hpl : pgL l J
              case true =>
                have HR := Lib.hid (KF.out (by rw [HSU.out]; exact if_neg (by simp [cpOk, widow_pgL, hpl]; intro _ _ e; omega)))
                go_wp2_with fail
                refine HD.out.mono ?_
                rintro e w7 ⟨rfl, hE7⟩
                have q0' := hE7.cell q0
                have hgl' : Gf < w7.heap.size := by have := hE7.size; omega
                go_wp2_with fail
                rw [HC1.out]
                refine (spec_pgFirst _ c l (J - 1) lo hi _ (by omega) (by omega) (hr.ext (hE.trans hE7))).mono ?_
                rintro e w8 ⟨rfl, hE8⟩
                go_wp2_with fail
                refine (spec_pgLast _ c l J lo hi _ (by omega) (by omega) (hr.ext (hE.trans (hE7.trans hE8)))).mono ?_
                rintro e w9 ⟨rfl, hE9⟩
                go_wp2
                go_roundw
                case rel => exact ⟨q + 1, cf, cn, by omega, val_int (by have := HJ.out; omega), hBf.ext (by repeat (first | exact Ext.refl _ | assumption | refine Ext.trans ?_ (Ext.alloc _ _) | refine Ext.trans ?_ (Ext.drew _) | refine Ext.trans ?_ (Ext.drewN _ _) | refine Ext.trans ?_ (by assumption))), HR.out.1, hBn.ext (by repeat (first | exact Ext.refl _ | assumption | refine Ext.trans ?_ (Ext.alloc _ _) | refine Ext.trans ?_ (Ext.drew _) | refine Ext.trans ?_ (Ext.drewN _ _) | refine Ext.trans ?_ (by assumption))), HR.out.2, (by repeat (first | exact Ext.refl _ | assumption | refine Ext.trans ?_ (Ext.alloc _ _) | refine Ext.trans ?_ (Ext.drew _) | refine Ext.trans ?_ (Ext.drewN _ _) | refine Ext.trans ?_ (by assumption)))⟩
                case measure => simp [intOf]; omega
              have hok : cpOk l d i J U = true := by simp [cpOk, cpD, HDP.out, HU0.out, orphan_pgF hJn, widow_pgL, hpf, hpl]
              have HOK := Lib.hid hok
              clear hok
              by_cases hV0 : V < 0
              case pos =>
                have t2 : decide (V < 0) = true := by simpa using hV0
                have HR := Lib.hid (SF.out (by rw [HSU.out, HOK.out, t2]; rfl))
                go_wp2_with fail
                refine HD.out.mono ?_
                rintro e w7 ⟨rfl, hE7⟩
                have q0' := hE7.cell q0
                have hgl' : Gf < w7.heap.size := by have := hE7.size; omega
                go_wp2_with fail
                rw [HC1.out]
                refine (spec_pgFirst _ c l (J - 1) lo hi _ (by omega) (by omega) (hr.ext (hE.trans hE7))).mono ?_
                rintro e w8 ⟨rfl, hE8⟩
                go_wp2_with fail
                refine (spec_pgLast _ c l J lo hi _ (by omega) (by omega) (hr.ext (hE.trans (hE7.trans hE8)))).mono ?_
                rintro e w9 ⟨rfl, hE9⟩
                clear q0' hgl'
                have e0 : ∀ x : XW w9, x.v.cell? ⟨Gf, J, none⟩ = _ := fun x => x.h.cell ((hE7.trans (hE8.trans hE9)).cell q0)
                have e1 : ∀ x : XW w9, x.v.cell? ⟨Gf, i, none⟩ = _ := fun x => x.h.cell ((hE7.trans (hE8.trans hE9)).cell q1)
                have hgf7 : Gf < w9.heap.size := by have := ((hE7.trans (hE8.trans hE9))).size; omega
                go_wp2_with fail
                refine wp_region_xw (w0 := w9) (by kernel_rfl) (by kernel_rfl) (by repeat (first | exact Ext.refl _ | assumption | refine Ext.trans ?_ (Ext.alloc _ _) | refine Ext.trans ?_ (Ext.drew _) | refine Ext.trans ?_ (Ext.drewN _ _) | refine Ext.trans ?_ (by assumption))) ?_; (repeat (go_big_quiet_step (fail))); refine wpQuiet_nil ?_; intro _ hw'; obtain ⟨⟨wq, hEwq⟩, hw''⟩ := hw'; subst hw''
                clear e0 e1
                have hEq := ((hE7.trans (hE8.trans hE9))).trans hEwq
                have q0' := hEq.cell q0
                have q1' := hEq.cell q1
                have q2' := hEq.cell q2
                have r1' := (hBf.ext hEq).frozen i
                have r2' := (hBn.ext hEq).frozen i
                have hgl' := (hBf.ext hEq).lt
                have hgn' := (hBn.ext hEq).lt
                go_wp2
                go_roundw
                case rel => exact ⟨q + 1, _, _, by omega, val_int (by have := HJ.out; omega), ((hBf.ext hEq).set_ i _).far hne _, HR.out.1, ((hBn.ext hEq).far hne2 _).set_ i _, HR.out.2, Ext.setCell (Ext.setCell (hE.trans hEq) hwf _) hwn _⟩
                case measure => simp [intOf]; omega
              have t2 : decide (V < 0) = false := by simpa using hV0
              by_cases hUV : U + 1 < V
              case pos =>
                have t3 : decide (U + 1 < V) = true := by simpa using hUV
                have HR := Lib.hid (SF.out (by rw [HSU.out, HOK.out, t2, t3]; rfl))
                go_wp2_with fail
                refine HD.out.mono ?_
                rintro e w7 ⟨rfl, hE7⟩
                have q0' := hE7.cell q0
                have hgl' : Gf < w7.heap.size := by have := hE7.size; omega
                go_wp2_with fail
                rw [HC1.out]
                refine (spec_pgFirst _ c l (J - 1) lo hi _ (by omega) (by omega) (hr.ext (hE.trans hE7))).mono ?_
                rintro e w8 ⟨rfl, hE8⟩
                go_wp2_with fail
                refine (spec_pgLast _ c l J lo hi _ (by omega) (by omega) (hr.ext (hE.trans (hE7.trans hE8)))).mono ?_
                rintro e w9 ⟨rfl, hE9⟩
                clear q0' hgl'
                have e0 : ∀ x : XW w9, x.v.cell? ⟨Gf, J, none⟩ = _ := fun x => x.h.cell ((hE7.trans (hE8.trans hE9)).cell q0)
                have e1 : ∀ x : XW w9, x.v.cell? ⟨Gf, i, none⟩ = _ := fun x => x.h.cell ((hE7.trans (hE8.trans hE9)).cell q1)
                have hgf7 : Gf < w9.heap.size := by have := ((hE7.trans (hE8.trans hE9))).size; omega
                go_wp2_with fail
                refine wp_region_xw (w0 := w9) (by kernel_rfl) (by kernel_rfl) (by repeat (first | exact Ext.refl _ | assumption | refine Ext.trans ?_ (Ext.alloc _ _) | refine Ext.trans ?_ (Ext.drew _) | refine Ext.trans ?_ (Ext.drewN _ _) | refine Ext.trans ?_ (by assumption))) ?_; (repeat (go_big_quiet_step (fail))); refine wpQuiet_nil ?_; intro _ hw'; obtain ⟨⟨wq, hEwq⟩, hw''⟩ := hw'; subst hw''
                clear e0 e1
                have hEq := ((hE7.trans (hE8.trans hE9))).trans hEwq
                have q0' := hEq.cell q0
                have q1' := hEq.cell q1
                have q2' := hEq.cell q2
                have r1' := (hBf.ext hEq).frozen i
                have r2' := (hBn.ext hEq).frozen i
                have hgl' := (hBf.ext hEq).lt
                have hgn' := (hBn.ext hEq).lt
                go_wp2
                go_roundw
                case rel => exact ⟨q + 1, _, _, by omega, val_int (by have := HJ.out; omega), ((hBf.ext hEq).set_ i _).far hne _, HR.out.1, ((hBn.ext hEq).far hne2 _).set_ i _, HR.out.2, Ext.setCell (Ext.setCell (hE.trans hEq) hwf _) hwn _⟩
                case measure => simp [intOf]; omega
              have t3 : decide (U + 1 < V) = false := by simpa using hUV
              have HR := Lib.hid (KF.out (by rw [HSU.out, t2, t3]; simp))
              go_wp2_with fail
              refine HD.out.mono ?_
              rintro e w7 ⟨rfl, hE7⟩
              have q0' := hE7.cell q0
              have hgl' : Gf < w7.heap.size := by have := hE7.size; omega
              go_wp2_with fail
              rw [HC1.out]
              refine (spec_pgFirst _ c l (J - 1) lo hi _ (by omega) (by omega) (hr.ext (hE.trans hE7))).mono ?_
              rintro e w8 ⟨rfl, hE8⟩
              go_wp2_with fail
              refine (spec_pgLast _ c l J lo hi _ (by omega) (by omega) (hr.ext (hE.trans (hE7.trans hE8)))).mono ?_
              rintro e w9 ⟨rfl, hE9⟩
              clear q0' hgl'
              have e0 : ∀ x : XW w9, x.v.cell? ⟨Gf, J, none⟩ = _ := fun x => x.h.cell ((hE7.trans (hE8.trans hE9)).cell q0)
              have e1 : ∀ x : XW w9, x.v.cell? ⟨Gf, i, none⟩ = _ := fun x => x.h.cell ((hE7.trans (hE8.trans hE9)).cell q1)
              have hgf7 : Gf < w9.heap.size := by have := ((hE7.trans (hE8.trans hE9))).size; omega
              go_wp2_with fail
              refine wp_region_xw (w0 := w9) (by kernel_rfl) (by kernel_rfl) (by repeat (first | exact Ext.refl _ | assumption | refine Ext.trans ?_ (Ext.alloc _ _) | refine Ext.trans ?_ (Ext.drew _) | refine Ext.trans ?_ (Ext.drewN _ _) | refine Ext.trans ?_ (by assumption))) ?_; (repeat (go_big_quiet_step (fail))); refine wpQuiet_nil ?_; intro _ hw'; obtain ⟨⟨wq, hEwq⟩, hw''⟩ := hw'; subst hw''
              clear e0 e1
              have hEq := ((hE7.trans (hE8.trans hE9))).trans hEwq
              go_wp2
              go_roundw
              case rel => exact ⟨q + 1, cf, cn, by omega, val_int (by have := HJ.out; omega), hBf.ext hEq, HR.out.1, hBn.ext hEq, HR.out.2, hE.trans hEq⟩
              case measure => simp [intOf]; omega
          · have hqm : q = m + 1 := by omega
            subst hqm
            clear hqt
            have hli : ¬ i < l.length - (m + 1) := by omega
            go_wp2
            go_roundw
            case rel => exact ⟨m + 1, (i : Int) - 1, cf, cn, by omega, rfl, by omega, hBf, hFf.congr (fun x _ => by rw [cpSt_succ, ← HI.out]), hBn, hFn.congr (fun x _ => by rw [cpNt_succ, ← HI.out]; split <;> rfl), hE⟩
            case measure => first | (simp [intOf]; done) | (simp [intOf]; omega)
      · have hml : m = l.length := by omega
        subst hml
        clear hlt
        obtain rfl : F = -1 := by omega
        clear hF
        have hRf := hFf.rd1 hBf
        obtain ⟨q0, hgl⟩ := rdF hRf (k := 0) (by omega)
        have hq0 : cpSt l d l.length 0 = cpS l d 0 := rfl
        rw [hq0] at q0
        clear hq0
        have hRn := hFn.rd1 hBn
        by_cases h0 : 0 ≤ cpS l d 0
        case neg =>
          have HPB : Hid (P = ([], false)) := by show _ = _; rw [HP.out]; exact cpP_bad (by simp [h0])
          go_wp2
          go_ret2
          rw [HPB.out]
          exact retI2_lit (by repeat (first | exact Ext.refl _ | assumption | refine Ext.trans ?_ (Ext.alloc _ _) | refine Ext.trans ?_ (Ext.drew _) | refine Ext.trans ?_ (Ext.drewN _ _) | refine Ext.trans ?_ (by assumption)))
        have HPG : Hid (P = (cpL l d (cpM l d), true)) := by show _ = _; rw [HP.out]; exact cpP_good H.out h0
        have hM := cpM_le l d
        have HS0 := Lib.hid h0
        go_wp2
        clear q0
        go_loopw [10, 11] (fun v f wr => ∃ (m F : Nat), m ≤ cpM l d ∧ f = .int .i64 F ∧ F = cpIt l d m ∧ wr.ownsRow w.heap.size 3 1 v m ((cpL l d m).map (Value.int .i64)) ∧ RdI wr Gn (Gn + 1) (some ⟨Gn, 0, none⟩) ((List.range (l.length + 1)).map fun x => (cpNt l d l.length x : Int)) ∧ Apart v Gn (Gn + 1) ∧ Ext w wr) (fun _ f _ => l.length - (intOf f).toNat)
        case atStart => exact ⟨0, 0, Nat.zero_le _, rfl, rfl, own_nil _ _ _ _, hRn, Apart.nil _ _, hE⟩
        case round =>
          obtain ⟨m, F, hm, rfl, hF, hown, hRn, hap, hE⟩ := hrel
          have hprop := it_prop l.length (cpD l d) (widow l) (orphan l) HS0.out (widow_0 l) m hm
          by_cases hlt : F < l.length
          · have hmM : m < cpM l d := it_more l.length (cpD l d) (widow l) (orphan l) HS0.out (widow_0 l) hm (by show cpIt l d m < l.length; rw [← hF]; exact hlt)
            have hS' : 0 ≤ cpS l d F := by
              have e1 := hprop.2.1
              have e2 : cpS l d F = (cpM l d : Int) - m := by rw [hF]; exact e1
              omega
            obtain ⟨s1, s2, _⟩ := nx_prop l.length (cpD l d) (widow l) (orphan l) hlt hS'
            have HNS : Hid (cpL l d (m + 1) = cpL l d m ++ [(cpNx l d F : Int)]) := by show _ = _; rw [hF]; exact endsL_succ _ _ _ _ _
            have HIT : Hid (cpIt l d (m + 1) = cpNx l d F) := by show _ = _; rw [hF]; rfl
            obtain ⟨qF, hgl⟩ := rdF hRn (k := F) (by omega)
            obtain ⟨X, hX⟩ : ∃ X, X = cpNx l d F := ⟨_, rfl⟩
            have hX2 : cpNt l d l.length F = X := by rw [hX]; rfl
            rw [hX2] at qF
            have s1' : F < X := by rw [hX]; exact s1
            have s2' : X ≤ l.length := by rw [hX]; exact s2
            rw [← hX] at HNS HIT
            have qF' := fun (v : World) (o : Obj) (h : v = wr.alloc o) => (h ▸ Ext.alloc wr o : Ext wr v).cell qF
            have HF := Lib.hid hF
            clear hX hX2 s1 s2 hF hS' hprop qF'
            go_wp2_with (first | (at_builtin; refine wp_app _ w rfl (.tmp 113) (.tmp 118) 32 rfl 3 _ 1 8 Try.underlying32 intInfo rfl (by omega) _ m _ rfl (ownsRow_ext hown (Ext.alloc _ _)) (hE.trans (Ext.alloc _ _)) _ _ _ 1 1 [.int .i64 X] rfl rfl (rdA_new rfl (Ext.refl _)) (by simp [Value.oneCell']) (by omega) (by simp) ?_; intro v3 w3 hown3 hE3 hg3 hat3; have hRn3 : RdI w3 Gn (Gn + 1) (some ⟨Gn, 0, none⟩) ((List.range (l.length + 1)).map fun x => (cpNt l d l.length x : Int)) := Rd.app hRn hg3 hap; have hap3 : Apart v3 Gn (Gn + 1) := hap.app hRn hat3; have qF3 : w3.cell? ⟨Gn, F, none⟩ = some (.int .i64 X) := hg3.cell (a := ⟨Gn, F, none⟩) ((Ext.alloc wr _).cell qF) (fun e => by have := hap Gn e.symm; omega); have hgl3 : Gn < w3.heap.size := hRn3.1; clear hg3 hat3))
            go_roundw
            case rel => exact ⟨m + 1, X, by omega, rfl, HIT.out.symm, by rw [HNS.out, List.map_append]; exact hown3, hRn3, hap3, hE3⟩
            case measure => simp [intOf]; omega
          · have hmM : m = cpM l d := it_done l.length (cpD l d) (widow l) (orphan l) HS0.out (widow_0 l) hm (by show ¬ cpIt l d m < l.length; rw [← hF]; exact hlt)
            have HMM := Lib.hid hmM
            obtain ⟨A', c', rfl, hc', _⟩ := own_form hown
            clear hmM hprop hF
            go_wp2
            go_ret2
            rw [HPG.out, ← HMM.out]
            exact ⟨A', c', by rw [cpL_len]; rfl, by rw [cpL_len]; exact hc', Rd.of_own hown, hE⟩
end Go.Proofs.Ytblecbdkpjmfeaa
