/- The walk of the program's CleanPages. -/
import Derived.Test.YtblecbdkpjmfeaaCpA
import Derived.Test.YtblecbdkpjmfeaaXw
namespace Go.Proofs.Ytblecbdkpjmfeaa
open Go.RowKit
set_option linter.unusedVariables false
open Clean
theorem cp_scan {l : List SetL} {d : Int} {f : Nat} (hf : f < l.length) (hw : widow l f = false) (h0 : 0 ≤ cpS l d f) : f < cpNx l d f ∧ cpNx l d f ≤ l.length ∧ cpT l d l.length (cpNx l d f) = cpT l d l.length f - 1 ∧ cpC l d f (cpNx l d f) = true ∧
    ∀ t, cpNx l d f < t → t ≤ l.length → cpT l d l.length t = cpT l d l.length f - 1 → cpC l d f t = false := by
  obtain ⟨h1, h2, _⟩ := nx_prop l.length (cpD l d) (widow l) (orphan l) hf h0
  obtain ⟨s1, s2, s3⟩ := scan_stop l.length (cpD l d) (widow l) (orphan l) (orphan_top l) hf hw h0
  refine ⟨h1, h2, s1, ?_, fun t t1 t2 t3 => ?_⟩
  · show ((cpD l d f (nx l.length (cpD l d) (widow l) (orphan l) f) && !widow l f) && !orphan l (nx l.length (cpD l d) (widow l) (orphan l) f)) = true
    rw [s2, s3, hw]; rfl
  · have := scan_go l.length (cpD l d) (widow l) (orphan l) (orphan_top l) hf hw h0 t1 t2 t3
    rw [cpC, hw, Bool.not_false, Bool.and_true]; exact this
theorem isClean_v (v : Bool) (b off c : Nat) (l : List SetL) (d : Int) (i j : Nat) (lo hi : Nat) (w : World) (hv : cpC l d i j = v) (hl : l.length ≤ 1048577) (hcap : l.length ≤ c) (hij : i < j) (hjl : j ≤ l.length) (hr : RdS w lo hi (some ⟨b, off, none⟩) l) :
    Calls Try.prog 55 #[.slice (some ⟨b, off, none⟩) l.length c, .int .i64 d, .int .i64 i, .int .i64 j] w fun e w' => e = .returned (.bool v) ∧ Ext w w' := by
  subst hv; exact impl_isCleanPage b off c l d i j lo hi w hl hcap hij hjl hr
set_option maxRecDepth 100000 in
set_option maxHeartbeats 2000000 in
theorem impl_CleanPages (A : Option Addr) (c : Nat) (l : List SetL) (d : Int) (lo hi : Nat) (w : World) (hl : l.length ≤ 1048576) (hcap : l.length ≤ c) (hq : InRS l) (hr : RdS w lo hi A l) :
    Calls Try.prog 37 #[.slice A l.length c, .int .i64 d] w (RetI2 w (cpP l d)) := by
  cases h : paged l d
  · rw [cpP_bad (by simp [h])]
    go_enter Try.func37, Try.ntmps37
    go_wp2_with (go_at_call 44; refine (impl_isPaged A c l d lo hi _ (by omega) hq hr).mono ?_; rintro e w1 ⟨rfl, hE1⟩; obtain ⟨hc1, hf1⟩ := bcell hE1; have hs1 := hE1.size; (try simp only [World.size_alloc] at hs1))
    go_ret2
    exact retI2_lit (by repeat (first | exact Ext.refl _ | assumption | refine Ext.trans ?_ (Ext.alloc _ _) | refine Ext.trans ?_ (Ext.drew _) | refine Ext.trans ?_ (Ext.drewN _ _) | refine Ext.trans ?_ (by assumption)))
  obtain ⟨_, ⟨hd1, hd2⟩, hl1, hl2⟩ := paged_parts h
  obtain ⟨_, b, off, _, rfl, _, _, g3, _, _, _⟩ := RdS.get hr (k := 0) (by omega)
  obtain ⟨P, hP⟩ : ∃ P, P = cpP l d := ⟨_, rfl⟩
  rw [← hP]
  have HP := Lib.hid hP; clear hP
  obtain ⟨cs0, hmk, hf0⟩ := make_ints (P := Try.prog) 32 3 Try.underlying32 intInfo (l.length + 1) (by omega)
  have HF0 := Lib.hid hf0; clear hf0
  have hmk' := hmk
  simp only [Int.natCast_add, Int.natCast_one] at hmk'
  go_enter Try.func37, Try.ntmps37
  go_wp2_with (go_at_call 44; refine (impl_isPaged _ c l d lo hi _ (by omega) hq hr).mono ?_; rintro e w1 ⟨rfl, hE1⟩; obtain ⟨hc1, hf1⟩ := bcell hE1; have hs1 := hE1.size; (try simp only [World.size_alloc] at hs1))
  have H := Lib.hid h
  clear h hc1 hf1 hmk hmk'
  obtain ⟨G, hG⟩ : ∃ G, G = w1.heap.size := ⟨_, rfl⟩
  rw [← hG]
  have hB0 : Blk (w1.alloc (.cells cs0 3)) G 3 cs0 := by rw [hG]; exact Blk.new _ _ _
  have hwG : w.heap.size ≤ G := by omega
  clear hG
  go_loopw [7] (fun f wr => ∃ (m : Nat) (F : Int) (cur : Array Value), m ≤ l.length ∧ f = .int .i64 F ∧ F = (l.length : Int) - 1 - m ∧ Blk wr G 3 cur ∧ FillI cur (l.length + 1) (cpT l d m) ∧ Ext w wr) (fun f _ => (intOf f + 1).toNat)
  case atStart => exact ⟨0, (l.length : Int) - 1, cs0, Nat.zero_le _, rfl, by omega, hB0, HF0.out.congr (fun i _ => rfl), (by repeat (first | exact Ext.refl _ | assumption | refine Ext.trans ?_ (Ext.alloc _ _) | refine Ext.trans ?_ (Ext.drew _) | refine Ext.trans ?_ (Ext.drewN _ _) | refine Ext.trans ?_ (by assumption)))⟩
  case round =>
    obtain ⟨m, F, cur, hm, rfl, hF, hB, hFl, hE⟩ := hrel
    obtain ⟨wo, rfl⟩ : ∃ wo : World, wo = wr := ⟨_, rfl⟩
    by_cases hlt : m < l.length
    · obtain ⟨i, rfl⟩ : ∃ i : Nat, F = i := ⟨F.toNat, by omega⟩
      have hi : i = l.length - 1 - m := by omega
      have hi1 : i < l.length := by omega
      have him : i + m + 1 ≤ l.length := by omega
      have him2 : l.length ≤ i + m + 1 := by omega
      have HI := Lib.hid hi; clear hi hF
      obtain ⟨q0, r0⟩ := hFl.cell hB (k := i) (by omega)
      have hgl := hB.lt
      go_wp2
      clear q0 r0
      go_loopw [8] (fun t wr => ∃ (q : Nat) (cur : Array Value), q ≤ m + 1 ∧ t = .int .i64 ((i : Int) + 1 + q) ∧ Blk wr G 3 cur ∧ FillI cur (l.length + 1) (fun x => if x = i then cpAf l d m i q else cpT l d m x) ∧ Ext w wr) (fun t _ => l.length + 1 - (intOf t).toNat)
      case atStart => exact ⟨0, _, Nat.zero_le _, by simp, hB.set_ i _, (hFl.set_ i (-1)).congr (fun x _ => rfl), Ext.setCell hE hwG _⟩
      case round =>
        obtain ⟨q, cur, hq1, rfl, hB, hFl, hE⟩ := hrel
        by_cases hqt : q < m + 1
        · obtain ⟨t, ht⟩ : ∃ t : Nat, t = i + 1 + q := ⟨_, rfl⟩
          have htc : (i : Int) + 1 + q = t := by omega
          rw [htc]
          have hst := cpAf_succ l d m i q
          rw [← ht] at hst
          have ht1 : i < t := by omega
          have ht2 : t ≤ l.length := by omega
          have HST := Lib.hid hst
          have HT := Lib.hid ht
          clear hst ht htc
          obtain ⟨q0, r0⟩ := hFl.cell hB (k := t) (by omega)
          obtain ⟨q1, r1⟩ := hFl.cell hB (k := i) (by omega)
          rw [if_neg (by omega)] at q0
          rw [if_pos rfl] at q1
          have hgl := hB.lt
          have b1 := cpT_ge l d m (by omega) t
          have b2 := cpAf_ge l d m i q (by omega)
          obtain ⟨U, hU⟩ : ∃ U, U = cpT l d m t := ⟨_, rfl⟩
          obtain ⟨V, hV⟩ : ∃ V, V = cpAf l d m i q := ⟨_, rfl⟩
          rw [← hU] at q0 b1
          rw [← hV] at q1 b2
          have HSU : Hid (cpAf l d m i (q + 1) = if (decide (0 ≤ U) && cpC l d i t) && (decide (V < 0) || decide (U + 1 < V)) then U + 1 else V) := by show _ = _; rw [hU, hV]; exact HST.out
          have HV := Lib.hid hV
          clear hU hV HST
          have i0 : (0 : Int) ≤ t := by omega
          have i1 : (t : Int) < (l.length : Int) + 1 := by omega
          have i2 : (0 : Int) ≤ i := by omega
          have i3 : (i : Int) < (l.length : Int) + 1 := by omega
          have qw : IntKind.i64.wrap (U + 1) = U + 1 := IntWalk.i64_in _ (by omega)
          have keepF : cpAf l d m i (q + 1) = V → FillI cur (l.length + 1) (fun x => if x = i then cpAf l d m i (q + 1) else cpT l d m x) := fun e => hFl.congr (fun x _ => by rw [e, HV.out])
          have KF := Lib.hid keepF; clear keepF
          by_cases hU0 : 0 ≤ U
          case neg =>
            have t1 : decide (0 ≤ U) = false := by simpa using hU0
            have HR := Lib.hid (KF.out (by rw [HSU.out, t1]; rfl))
            go_wp2_with fail
            go_quiet (fail)
            go_wp2
            go_roundw
            case rel => exact ⟨q + 1, cur, by omega, val_int (by have := HT.out; omega), hB.ext (by repeat (first | exact Ext.refl _ | assumption | refine Ext.trans ?_ (Ext.alloc _ _) | refine Ext.trans ?_ (Ext.drew _) | refine Ext.trans ?_ (Ext.drewN _ _) | refine Ext.trans ?_ (by assumption))), HR.out, (by repeat (first | exact Ext.refl _ | assumption | refine Ext.trans ?_ (Ext.alloc _ _) | refine Ext.trans ?_ (Ext.drew _) | refine Ext.trans ?_ (Ext.drewN _ _) | refine Ext.trans ?_ (by assumption)))⟩
            case measure => simp [intOf]; omega
          have t1 : decide (0 ≤ U) = true := by simpa using hU0
          cases hcl : cpC l d i t
          · have HR := Lib.hid (KF.out (by rw [HSU.out, hcl]; simp))
            have HCL := Lib.hid hcl; clear hcl
            go_wp2_with fail
            have e0 : ∀ x : XW wr, x.v.cell? ⟨G, t, none⟩ = _ := fun x => x.h.cell q0
            have e1 : ∀ x : XW wr, x.v.cell? ⟨G, i, none⟩ = _ := fun x => x.h.cell q1
            refine wp_region_xw (w0 := wr) (by kernel_rfl) (by kernel_rfl) (by repeat (first | exact Ext.refl _ | assumption | refine Ext.trans ?_ (Ext.alloc _ _) | refine Ext.trans ?_ (Ext.drew _) | refine Ext.trans ?_ (Ext.drewN _ _) | refine Ext.trans ?_ (by assumption))) ?_; (repeat (go_big_quiet_step ((go_at_call 55; exact XW.call (isClean_v false b off c l d i t lo hi _ HCL.out (by omega) hcap ht1 ht2 (hr.ext (hE.trans (XW.h _)))))))); refine wpQuiet_nil ?_; intro _ hw'; obtain ⟨⟨w7, hEw7⟩, hw''⟩ := hw'; subst hw''
            clear e0 e1
            go_wp2
            go_roundw
            case rel => exact ⟨q + 1, cur, by omega, val_int (by have := HT.out; omega), hB.ext (by repeat (first | exact Ext.refl _ | assumption | refine Ext.trans ?_ (Ext.alloc _ _) | refine Ext.trans ?_ (Ext.drew _) | refine Ext.trans ?_ (Ext.drewN _ _) | refine Ext.trans ?_ (by assumption))), HR.out, (by repeat (first | exact Ext.refl _ | assumption | refine Ext.trans ?_ (Ext.alloc _ _) | refine Ext.trans ?_ (Ext.drew _) | refine Ext.trans ?_ (Ext.drewN _ _) | refine Ext.trans ?_ (by assumption)))⟩
            case measure => simp [intOf]; omega
          have HCL := Lib.hid hcl; clear hcl
          have e0 : ∀ x : XW wr, x.v.cell? ⟨G, t, none⟩ = _ := fun x => x.h.cell q0
          have e1 : ∀ x : XW wr, x.v.cell? ⟨G, i, none⟩ = _ := fun x => x.h.cell q1
          have setF : cpAf l d m i (q + 1) = U + 1 → FillI (cur.setIfInBounds i (.int .i64 (U + 1))) (l.length + 1) (fun x => if x = i then cpAf l d m i (q + 1) else cpT l d m x) := fun e => (hFl.set_ i (U + 1)).congr (fun x _ => by
            by_cases ex : x = i
            · subst ex; simp [e]
            · simp [ex])
          have SF := Lib.hid setF; clear setF
          by_cases hV0 : V < 0
          · have t2 : decide (V < 0) = true := by simpa using hV0
            have HR := Lib.hid (SF.out (by rw [HSU.out, t1, HCL.out, t2]; rfl))
            go_wp2_with fail
            refine wp_region_xw (w0 := wr) (by kernel_rfl) (by kernel_rfl) (by repeat (first | exact Ext.refl _ | assumption | refine Ext.trans ?_ (Ext.alloc _ _) | refine Ext.trans ?_ (Ext.drew _) | refine Ext.trans ?_ (Ext.drewN _ _) | refine Ext.trans ?_ (by assumption))) ?_; (repeat (go_big_quiet_step ((go_at_call 55; exact XW.call (isClean_v true b off c l d i t lo hi _ HCL.out (by omega) hcap ht1 ht2 (hr.ext (hE.trans (XW.h _)))))))); refine wpQuiet_nil ?_; intro _ hw'; obtain ⟨⟨w7, hEw7⟩, hw''⟩ := hw'; subst hw''
            clear e0 e1
            have q0' := hEw7.cell q0
            have q1' := hEw7.cell q1
            have r1' := (hB.ext hEw7).frozen i
            have hgl' := (hB.ext hEw7).lt
            go_wp2
            go_roundw
            case rel => exact ⟨q + 1, _, by omega, val_int (by have := HT.out; omega), (hB.ext hEw7).set_ i _, HR.out, Ext.setCell (hE.trans hEw7) hwG _⟩
            case measure => simp [intOf]; omega
          have t2 : decide (V < 0) = false := by simpa using hV0
          by_cases hUV : U + 1 < V
          · have t3 : decide (U + 1 < V) = true := by simpa using hUV
            have HR := Lib.hid (SF.out (by rw [HSU.out, t1, HCL.out, t2, t3]; rfl))
            go_wp2_with fail
            refine wp_region_xw (w0 := wr) (by kernel_rfl) (by kernel_rfl) (by repeat (first | exact Ext.refl _ | assumption | refine Ext.trans ?_ (Ext.alloc _ _) | refine Ext.trans ?_ (Ext.drew _) | refine Ext.trans ?_ (Ext.drewN _ _) | refine Ext.trans ?_ (by assumption))) ?_; (repeat (go_big_quiet_step ((go_at_call 55; exact XW.call (isClean_v true b off c l d i t lo hi _ HCL.out (by omega) hcap ht1 ht2 (hr.ext (hE.trans (XW.h _)))))))); refine wpQuiet_nil ?_; intro _ hw'; obtain ⟨⟨w7, hEw7⟩, hw''⟩ := hw'; subst hw''
            clear e0 e1
            have q0' := hEw7.cell q0
            have q1' := hEw7.cell q1
            have r1' := (hB.ext hEw7).frozen i
            have hgl' := (hB.ext hEw7).lt
            go_wp2
            go_roundw
            case rel => exact ⟨q + 1, _, by omega, val_int (by have := HT.out; omega), (hB.ext hEw7).set_ i _, HR.out, Ext.setCell (hE.trans hEw7) hwG _⟩
            case measure => simp [intOf]; omega
          · have t3 : decide (U + 1 < V) = false := by simpa using hUV
            have HR := Lib.hid (KF.out (by rw [HSU.out, t2, t3]; simp))
            go_wp2_with fail
            refine wp_region_xw (w0 := wr) (by kernel_rfl) (by kernel_rfl) (by repeat (first | exact Ext.refl _ | assumption | refine Ext.trans ?_ (Ext.alloc _ _) | refine Ext.trans ?_ (Ext.drew _) | refine Ext.trans ?_ (Ext.drewN _ _) | refine Ext.trans ?_ (by assumption))) ?_; (repeat (go_big_quiet_step ((go_at_call 55; exact XW.call (isClean_v true b off c l d i t lo hi _ HCL.out (by omega) hcap ht1 ht2 (hr.ext (hE.trans (XW.h _)))))))); refine wpQuiet_nil ?_; intro _ hw'; obtain ⟨⟨w7, hEw7⟩, hw''⟩ := hw'; subst hw''
            clear e0 e1
            go_wp2
            go_roundw
            case rel => exact ⟨q + 1, cur, by omega, val_int (by have := HT.out; omega), hB.ext (by repeat (first | exact Ext.refl _ | assumption | refine Ext.trans ?_ (Ext.alloc _ _) | refine Ext.trans ?_ (Ext.drew _) | refine Ext.trans ?_ (Ext.drewN _ _) | refine Ext.trans ?_ (by assumption))), HR.out, (by repeat (first | exact Ext.refl _ | assumption | refine Ext.trans ?_ (Ext.alloc _ _) | refine Ext.trans ?_ (Ext.drew _) | refine Ext.trans ?_ (Ext.drewN _ _) | refine Ext.trans ?_ (by assumption)))⟩
            case measure => simp [intOf]; omega
        · have hqm : q = m + 1 := by omega
          subst hqm
          clear hqt
          go_wp2
          go_roundw
          case rel => exact ⟨m + 1, (i : Int) - 1, cur, by omega, rfl, by omega, hB, hFl.congr (fun x _ => by rw [cpT_succ, ← HI.out]), hE⟩
          case measure => first | (simp [intOf]; done) | (simp [intOf]; omega)
    · have hml : m = l.length := by omega
      subst hml
      clear hlt
      obtain rfl : F = -1 := by omega
      clear hF
      have hF0 := cpT_final l d (by omega)
      have hRF := hFl.rd1 hB
      obtain ⟨q0, hgl⟩ := rdF hRF (k := 0) (by omega)
      rw [hF0] at q0
      have HF0' := Lib.hid hF0
      have hs0 := (stab_ge l.length (cpD l d) (widow l) (orphan l) l.length (Nat.le_refl _) 0)
      clear hF0
      by_cases h0 : 0 ≤ cpS l d 0
      case neg =>
        have HPB : Hid (P = ([], false)) := by show _ = _; rw [HP.out]; exact cpP_bad (by simp [h0])
        clear hs0
        go_wp2
        go_ret2
        rw [HPB.out]
        exact retI2_lit (by repeat (first | exact Ext.refl _ | assumption | refine Ext.trans ?_ (Ext.alloc _ _) | refine Ext.trans ?_ (Ext.drew _) | refine Ext.trans ?_ (Ext.drewN _ _) | refine Ext.trans ?_ (by assumption)))
      have HPG : Hid (P = (cpL l d (cpM l d), true)) := by show _ = _; rw [HP.out]; exact cpP_good H.out h0
      have hM := cpM_le l d
      have HS0 := Lib.hid h0
      clear hs0
      go_wp2
      clear q0
      go_loopw [9, 10] (fun v f wr => ∃ (m F : Nat), m ≤ cpM l d ∧ f = .int .i64 F ∧ F = cpIt l d m ∧ wr.ownsRow w.heap.size 3 1 v m ((cpL l d m).map (Value.int .i64)) ∧ RdI wr G (G + 1) (some ⟨G, 0, none⟩) ((List.range (l.length + 1)).map (cpT l d l.length)) ∧ Apart v G (G + 1) ∧ Ext w wr) (fun _ f _ => l.length - (intOf f).toNat)
      case atStart => exact ⟨0, 0, Nat.zero_le _, rfl, rfl, own_lit0 _ _ hE.size (Ext.refl _), hRF.ext (Ext.alloc _ _), Apart.at_ (.inr (by omega)), (by repeat (first | exact Ext.refl _ | assumption | refine Ext.trans ?_ (Ext.alloc _ _) | refine Ext.trans ?_ (Ext.drew _) | refine Ext.trans ?_ (Ext.drewN _ _) | refine Ext.trans ?_ (by assumption)))⟩
      case round =>
        obtain ⟨m, F, hm, rfl, hF, hown, hRF, hap, hE⟩ := hrel
        obtain ⟨wo, rfl⟩ : ∃ wo : World, wo = wr := ⟨_, rfl⟩
        have hprop := it_prop l.length (cpD l d) (widow l) (orphan l) HS0.out (widow_0 l) m hm
        by_cases hlt : F < l.length
        · have hmM : m < cpM l d := it_more l.length (cpD l d) (widow l) (orphan l) HS0.out (widow_0 l) hm (by show cpIt l d m < l.length; rw [← hF]; exact hlt)
          have hw' : widow l F = false := by rw [hF]; exact hprop.2.2.1 (by show cpIt l d m < l.length; rw [← hF]; exact hlt)
          have hS' : 0 ≤ cpS l d F := by
            have e1 := hprop.2.1
            have e2 : cpS l d F = (cpM l d : Int) - m := by rw [hF]; exact e1
            omega
          obtain ⟨s1, s2, s3, s4, s5⟩ := cp_scan hlt hw' hS'
          have HNS : Hid (cpL l d (m + 1) = cpL l d m ++ [(cpNx l d F : Int)]) := by show _ = _; rw [hF]; exact endsL_succ _ _ _ _ _
          have HIT : Hid (cpIt l d (m + 1) = cpNx l d F) := by show _ = _; rw [hF]; rfl
          obtain ⟨X, hX⟩ : ∃ X, X = cpNx l d F := ⟨_, rfl⟩
          rw [← hX] at s1 s2 s3 s4 s5 HNS HIT
          have S3 := Lib.hid s3; have S4 := Lib.hid s4; have S5 := Lib.hid s5
          have HF := Lib.hid hF
          clear hX s3 s4 s5 hF hw' hS' hprop
          obtain ⟨qF, hgl⟩ := rdF hRF (k := F) (by omega)
          have bF := cpT_ge l d l.length (Nat.le_refl _) F
          obtain ⟨UF, hUF⟩ : ∃ U, U = cpT l d l.length F := ⟨_, rfl⟩
          rw [← hUF] at qF bF
          rw [← hUF] at S3
          have S5' : Hid (∀ t, X < t → t ≤ l.length → cpT l d l.length t = UF - 1 → cpC l d F t = false) := by show ∀ t, _; rw [hUF]; exact S5
          clear hUF S5
          go_wp2
          go_loopw [11] (fun t wr => ∃ T : Nat, X ≤ T ∧ T ≤ l.length ∧ t = .int .i64 T ∧ Ext wo wr) (fun t _ => (intOf t).toNat)
          case atStart => exact ⟨l.length, s2, Nat.le_refl _, rfl, Ext.refl _⟩
          case round =>
            obtain ⟨T, hT1, hT2, rfl, hEo⟩ := hrel
            obtain ⟨qT, hgl'⟩ := rdF (hRF.ext hEo) (k := T) (by omega)
            have qF' := hEo.cell qF
            have hst := S5'.out T
            have bT := cpT_ge l d l.length (Nat.le_refl _) T
            have hxT : T = X → cpT l d l.length T = UF - 1 := fun e => by rw [e]; exact S3.out
            obtain ⟨UT, hUT⟩ : ∃ U, U = cpT l d l.length T := ⟨_, rfl⟩
            rw [← hUT] at qT hst bT hxT
            have HST := Lib.hid hst; have HXT := Lib.hid hxT
            clear hUT hst hxT
            have i0 : (0 : Int) ≤ T := by omega
            have i1 : (T : Int) < (l.length : Int) + 1 := by omega
            have i2 : (0 : Int) ≤ F := by omega
            have i3 : (F : Int) < (l.length : Int) + 1 := by omega
            have qw : IntKind.i64.wrap (UF - 1) = UF - 1 := IntWalk.i64_in _ (by omega)
            have e0 : ∀ x : XW wr, x.v.cell? ⟨G, T, none⟩ = _ := fun x => x.h.cell qT
            have e1 : ∀ x : XW wr, x.v.cell? ⟨G, F, none⟩ = _ := fun x => x.h.cell qF'
            by_cases hne : UT = UF - 1
            case neg =>
              have t1 : (UT != UF - 1) = true := by simpa using hne
              have hTX : X < T := by
                rcases Nat.lt_or_ge X T with h | h
                · exact h
                · exact absurd (HXT.out (by omega)) hne
              clear hne
              go_wp2_with fail
              refine wp_region_xw (w0 := wr) (by kernel_rfl) (by kernel_rfl) (by repeat (first | exact Ext.refl _ | assumption | refine Ext.trans ?_ (Ext.alloc _ _) | refine Ext.trans ?_ (Ext.drew _) | refine Ext.trans ?_ (Ext.drewN _ _) | refine Ext.trans ?_ (by assumption))) ?_; (repeat (go_big_quiet_step (fail))); refine wpQuiet_nil ?_; intro _ hw'; obtain ⟨⟨w7, hEw7⟩, hw''⟩ := hw'; subst hw''
              clear e0 e1
              go_wp2
              go_roundw
              case rel => exact ⟨T - 1, by omega, by omega, val_int (by omega), (by repeat (first | exact Ext.refl _ | assumption | refine Ext.trans ?_ (Ext.alloc _ _) | refine Ext.trans ?_ (Ext.drew _) | refine Ext.trans ?_ (Ext.drewN _ _) | refine Ext.trans ?_ (by assumption)))⟩
              case measure => simp [intOf]; omega
            have t1 : (UT != UF - 1) = false := by simpa using hne
            have HNE := Lib.hid hne; clear hne
            by_cases hTX : X < T
            · have hcl := HST.out hTX hT2 HNE.out
              have HCL := Lib.hid hcl; clear hcl
              go_wp2_with fail
              refine wp_region_xw (w0 := wr) (by kernel_rfl) (by kernel_rfl) (by repeat (first | exact Ext.refl _ | assumption | refine Ext.trans ?_ (Ext.alloc _ _) | refine Ext.trans ?_ (Ext.drew _) | refine Ext.trans ?_ (Ext.drewN _ _) | refine Ext.trans ?_ (by assumption))) ?_; (repeat (go_big_quiet_step ((go_at_call 55; exact XW.call (isClean_v false b off c l d F T lo hi _ HCL.out (by omega) hcap (by omega) hT2 (hr.ext (hE.trans (hEo.trans (XW.h _))))))))); refine wpQuiet_nil ?_; intro _ hw'; obtain ⟨⟨w7, hEw7⟩, hw''⟩ := hw'; subst hw''
              clear e0 e1
              go_wp2
              go_roundw
              case rel => exact ⟨T - 1, by omega, by omega, val_int (by omega), (by repeat (first | exact Ext.refl _ | assumption | refine Ext.trans ?_ (Ext.alloc _ _) | refine Ext.trans ?_ (Ext.drew _) | refine Ext.trans ?_ (Ext.drewN _ _) | refine Ext.trans ?_ (by assumption)))⟩
              case measure => simp [intOf]; omega
            · obtain rfl : X = T := by omega
              clear hTX
              have hEw : ∀ w7, Ext wr w7 → Ext w w7 := fun w7 h => hE.trans (hEo.trans h)
              have HEW := Lib.hid hEw; clear hEw
              go_wp2_with fail
              refine wp_region_xw (w0 := wr) (by kernel_rfl) (by kernel_rfl) (by repeat (first | exact Ext.refl _ | assumption | refine Ext.trans ?_ (Ext.alloc _ _) | refine Ext.trans ?_ (Ext.drew _) | refine Ext.trans ?_ (Ext.drewN _ _) | refine Ext.trans ?_ (by assumption))) ?_; (repeat (go_big_quiet_step ((go_at_call 55; exact XW.call (isClean_v true b off c l d F X lo hi _ S4.out (by omega) hcap (by omega) hT2 (hr.ext (hE.trans (hEo.trans (XW.h _))))))))); refine wpQuiet_nil ?_; intro _ hw'; obtain ⟨⟨w7, hEw7⟩, hw''⟩ := hw'; subst hw''
              clear e0 e1
              have hE7 := HEW.out _ hEw7
              have hEo7 := hEo.trans hEw7
              go_wp2_with (first | (at_builtin; refine wp_app _ w rfl (.tmp 110) (.tmp 112) 32 rfl 3 _ 1 8 Try.underlying32 intInfo rfl (by omega) _ m _ rfl (ownsRow_ext hown (hEo7.trans (Ext.alloc _ _))) (hE7.trans (Ext.alloc _ _)) _ _ _ 1 1 [.int .i64 X] rfl rfl (rdA_new rfl (Ext.refl _)) (by simp [Value.oneCell']) (by omega) (by simp) ?_; intro v3 w3 hown3 hE3 hg3 hat3))
              go_roundw
              case rel => exact ⟨m + 1, X, by omega, rfl, HIT.out.symm, by rw [HNS.out, List.map_append]; exact hown3, Rd.app (hRF.ext hEo7) hg3 hap, hap.app (hRF.ext hEo7) hat3, hE3⟩
              case measure => simp [intOf]; omega
        · have hmM : m = cpM l d := it_done l.length (cpD l d) (widow l) (orphan l) HS0.out (widow_0 l) hm (by show ¬ cpIt l d m < l.length; rw [← hF]; exact hlt)
          have HMM := Lib.hid hmM
          obtain ⟨A', c', rfl, hc', _⟩ := own_form hown
          clear hmM hprop hF
          go_wp2
          go_ret2
          rw [HPG.out, ← HMM.out]
          exact ⟨A', c', by rw [cpL_len]; rfl, by rw [cpL_len]; exact hc', Rd.of_own hown, hE⟩
end Go.Proofs.Ytblecbdkpjmfeaa
