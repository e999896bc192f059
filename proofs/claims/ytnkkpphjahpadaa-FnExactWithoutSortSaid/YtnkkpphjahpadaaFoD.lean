/- The walks of WithSort and WithoutSort: the program's and the reference's. -/
import Derived.Test.YtnkkpphjahpadaaFoB
import Derived.Test.YtnkkpphjahpadaaFoC
namespace Go.Proofs.Ytnkkpphjahpadaa
open Go.RowKit
set_option linter.unusedVariables false
/-- A fresh []Sort and a bool. -/
def RetS2 (w : World) (p : List Srt × Bool) (e : Ending) (w' : World) : Prop := ∃ A c, e = .returned (.tuple #[.slice A p.1.length c, .bool p.2]) ∧ p.1.length ≤ c ∧ RdS w' w.heap.size w'.heap.size A p.1 ∧ Ext w w'
theorem retS2_lit {w w' : World} {a : Option Addr} {c : Nat} (hE : Ext w w') : RetS2 w ([], false) (.returned (.tuple #[.slice a 0 c, .bool false])) w' := ⟨a, c, rfl, Nat.zero_le _, Rd.nil (Nat.le_refl _), hE⟩
theorem sorts_one (l : List Srt) : ∀ u ∈ l.flatMap Srt.enc, u.oneCell' = true := by
  intro u hu
  obtain ⟨x, _, hx⟩ := List.mem_flatMap.1 hu
  simp [Srt.enc] at hx
  rcases hx with rfl | rfl <;> rfl
theorem RdS.takeA {w : World} {lo hi : Nat} {A : Option Addr} {f : List Srt} (h : RdS w lo hi A f) (k : Nat) : RdA w lo hi A ((f.take k).flatMap Srt.enc) := by
  rw [flat_takeN Srt.enc 2 Srt.enc_len]
  exact Rd.toA (Rd.take h _)
theorem RdS.dropA {w : World} {lo hi b off : Nat} {f : List Srt} (h : RdS w lo hi (some ⟨b, off, none⟩) f) (k : Nat) : RdA w lo hi (some ⟨b, off + k * 2, none⟩) ((f.drop k).flatMap Srt.enc) := by
  rw [flat_dropN Srt.enc 2 Srt.enc_len]
  exact Rd.toA (Rd.drop h _)
theorem rdA_none {w : World} {lo hi : Nat} {A : Option Addr} (h : hi ≤ w.heap.size) : RdA w lo hi A [] := ⟨h, fun h => absurd rfl h⟩
set_option maxRecDepth 20000 in
set_option maxHeartbeats 4000000 in
theorem impl_WithSort (A : Option Addr) (c : Nat) (f : List Srt) (x : Srt) (lo hi : Nat) (w : World) (hl : f.length ≤ 1048577) (hb : ∀ s ∈ f, s.code.size ≤ 1048577) (hx : x.code.size ≤ 1048577) (hcap : f.length ≤ c) (hr : RdS w lo hi A f) :
    Calls Try.prog 34 #[.slice A f.length c, .agg #[.string x.code, .int .i64 x.set]] w (RetS2 w (wsP f x)) := by
  have hr0 := fun o => hr.ext (Ext.alloc w o)
  cases h1 : font f
  · rw [wsP_bad (by simp [h1])]
    go_enter Try.func34, Try.ntmps34
    go_wp2_with (go_at_call 67; refine (impl_IsFont A c f lo hi _ hl hb (hr0 _)).mono ?_; rintro e w1 ⟨rfl, hE1⟩; obtain ⟨hc1, hf1⟩ := bcell hE1; have hs1 := hE1.size; (try simp only [World.size_alloc] at hs1))
    go_ret2
    exact retS2_lit (by repeat (first | exact Ext.refl _ | assumption | refine Ext.trans ?_ (Ext.alloc _ _) | refine Ext.trans ?_ (Ext.drew _) | refine Ext.trans ?_ (Ext.drewN _ _) | refine Ext.trans ?_ (by assumption)))
  cases h2 : srtOk x
  · rw [wsP_bad (by simp [h2])]
    go_enter Try.func34, Try.ntmps34
    go_wp2_with (first | (go_at_call 67; refine (impl_IsFont A c f lo hi _ hl hb (hr0 _)).mono ?_; rintro e w1 ⟨rfl, hE1⟩; obtain ⟨hc1, hf1⟩ := bcell hE1; have hs1 := hE1.size; (try simp only [World.size_alloc] at hs1)) | (go_at_call 75; refine (impl_IsSort x _ hx).mono ?_; rintro e w2 ⟨rfl, hE2⟩; obtain ⟨hc2, hf2⟩ := bcell hE2; have hs2 := hE2.size; (try simp only [World.size_alloc] at hs2)))
    go_ret2
    exact retS2_lit (by repeat (first | exact Ext.refl _ | assumption | refine Ext.trans ?_ (Ext.alloc _ _) | refine Ext.trans ?_ (Ext.drew _) | refine Ext.trans ?_ (Ext.drewN _ _) | refine Ext.trans ?_ (by assumption)))
  obtain ⟨hf1, hf2⟩ := font_len h1
  obtain ⟨_, b0, off0, _, eA, _, _, _⟩ := RdS.get hr (k := 0) (by omega)
  subst eA
  obtain ⟨P, hP⟩ : ∃ P, P = wsP f x := ⟨_, rfl⟩
  rw [← hP]
  have HP := Lib.hid hP; clear hP
  have HB := Lib.hid hb
  have H1 := Lib.hid h1; have H2 := Lib.hid h2
  go_enter Try.func34, Try.ntmps34
  go_wp2_with (first | (go_at_call 67; refine (impl_IsFont _ c f lo hi _ hl hb (hr0 _)).mono ?_; rintro e w1 ⟨rfl, hE1⟩; obtain ⟨hc1, hf1⟩ := bcell hE1; have hs1 := hE1.size; (try simp only [World.size_alloc] at hs1)) | ((go_at_call 75; refine (impl_IsSort x _ hx).mono ?_; rintro e w2 ⟨rfl, hE2⟩; obtain ⟨hc2, hf2⟩ := bcell hE2; have hs2 := hE2.size; (try simp only [World.size_alloc] at hs2))))
  have hAl : Ext (w.alloc (.cells #[.string x.code, .int .i64 x.set] 46)) w2 := (by repeat (first | exact Ext.refl _ | assumption | refine Ext.trans ?_ (Ext.alloc _ _) | refine Ext.trans ?_ (Ext.drew _) | refine Ext.trans ?_ (Ext.drewN _ _) | refine Ext.trans ?_ (by assumption)))
  have x0 : w2.cell? ⟨w.heap.size, 0, none⟩ = some (.string x.code) := box_new hAl rfl
  have x1 : w2.cell? ⟨w.heap.size, 1, none⟩ = some (.int .i64 x.set) := box_new hAl rfl
  have hEw : Ext w w2 := (Ext.alloc _ _).trans hAl
  clear hAl
  replace hr := hr.ext hEw
  have hzl : w.heap.size ≤ w2.heap.size := hEw.size
  have hzx := World.block_lt_of_cell? w2 _ x0
  clear h1 h2 hb hr0 hc1 hf1 hc2 hf2  
  generalize w2 = wl at *
  go_loopw [6] (fun j wr => ∃ k : Nat, k ≤ f.length ∧ j = .int .i64 k ∧ insTo f x k = true ∧ Ext wl wr) (fun j _ => f.length - (intOf j).toNat)
  case atStart => exact ⟨0, Nat.zero_le _, rfl, rfl, Ext.refl _⟩
  case round =>
    obtain ⟨k, hk, rfl, hi0, hE⟩ := hrel
    have HI := Lib.hid hi0; clear hi0
    have i0 : (0 : Int) ≤ k := by omega
    have e0 : ∀ y : XW wr, y.v.cell? ⟨w.heap.size, 0, none⟩ = _ := fun y => y.h.cell (hE.cell x0)
    have more : k = f.length ∨ k < f.length := by omega
    have STOP : (¬ (k < f.length) ∨ True) := .inr trivial
    by_cases hlt : k < f.length
    · obtain ⟨a, b', off', HX, eA, h3, c0, _⟩ := RdS.get (hr.ext hE) hlt
      injection eA with eA; injection eA with eb eo _; subst eb; subst eo
      have e1 : ∀ y : XW wr, y.v.cell? ⟨b0, off0 + k * 2, none⟩ = _ := fun y => y.h.cell c0
      have i1 : (k : Int) < f.length := by omega
      clear more STOP
      cases t1 : lessB a x
      · have q2 : Op.bytesLess a.code.toList x.code.toList = false := t1
        have HK : Hid (insP f x = k) := insP_at HI.out HX.out t1
        clear t1
        go_wp2_with fail
        refine wp_region_xw (w0 := wr) (by kernel_rfl) (by kernel_rfl) (by repeat (first | exact Ext.refl _ | assumption | refine Ext.trans ?_ (Ext.alloc _ _) | refine Ext.trans ?_ (Ext.drew _) | refine Ext.trans ?_ (Ext.drewN _ _) | refine Ext.trans ?_ (by assumption))) ?_; (repeat (go_big_quiet_step ((fail)))); refine wpQuiet_nil ?_; intro w1 hw'; obtain ⟨⟨_, hEw1⟩, hw''⟩ := hw'; subst hw''
        clear e0 e1 q2
        have hE1 : Ext wl w1 := hE.trans hEw1
        clear hE hEw1 h3 c0 HX
        go_wp2_with fail
        have X0 := hE1.cell x0
        have X1 := hE1.cell x1
        have e0 : ∀ w', Ext w1 w' → w'.cell? ⟨w.heap.size, 0, none⟩ = _ := fun _ h => h.cell X0
        have e1 : ∀ w', Ext w1 w' → w'.cell? ⟨w.heap.size, 1, none⟩ = _ := fun _ h => h.cell X1
        have hrW := hr.ext hE1
        have hrT := hrW.takeA k
        have hrD := hrW.dropA k
        have HT1 : Hid (((f.take k).flatMap Srt.enc).length = k * 2) := by show _ = _; rw [lenS, List.length_take]; omega
        have HT3 : Hid (((f.drop k).flatMap Srt.enc).length = (f.length - k) * 2) := by show _ = _; rw [lenS, List.length_drop]
        have HO1 := Lib.hid (sorts_one (f.take k))
        have HO3 := Lib.hid (sorts_one (f.drop k))
        have j1 : (k : Int) ≤ f.length := by omega
        have j2 : (k : Int) ≤ c := by omega
        have hz1 : wl.heap.size ≤ w1.heap.size := hE1.size
        have hzb : b0 < w1.heap.size := by have := hE1.size; omega
        have hzx1 : w.heap.size < w1.heap.size := by omega
        obtain ⟨B, hB⟩ : ∃ B, B = (if c = k then (some ⟨b0, off0, none⟩ : Option Addr) else some ⟨b0, off0 + k * 2, none⟩) := ⟨_, rfl⟩
        have hrB : RdA w1 lo hi (if c = k then (some ⟨b0, off0, none⟩ : Option Addr) else some ⟨b0, off0 + k * 2, none⟩) ((f.drop k).flatMap Srt.enc) := by
          by_cases hci : c = k
          · rw [show f.drop k = [] from List.drop_eq_nil_of_le (by omega)]
            exact ⟨hrD.1, fun h => absurd rfl h⟩
          · rw [if_neg hci]; exact hrD
        have hBN : (if c = k then (some ⟨b0, off0, none⟩ : Option Addr) else some ⟨b0, off0 + k * 2, none⟩) = none → f.length - k = 0 := by
          intro h; split at h <;> cases h
        have HBN := Lib.hid hBN
        clear hB hrD hBN
        go_region_held3 (fun w' => Ext w1 w') (exact (by repeat (first | exact Ext.refl _ | assumption | refine Ext.trans ?_ (Ext.alloc _ _) | refine Ext.trans ?_ (Ext.drew _) | refine Ext.trans ?_ (Ext.drewN _ _) | refine Ext.trans ?_ (by assumption)))) (first | (refine step_app _ w1 rfl (.tmp 33) (.tmp 36) 27 rfl 46 _ 2 24 Try.underlying27 infoS rfl (by omega) (.slice (some ⟨_, 0, none⟩) 0 0) 0 [] rfl (own_at (by (first | (simp only [hp_alloc, hp_drew, hp_drewN, Array.getElem?_push, Array.size_push]; simp; done) | (rw [hgA.block _ (by simp only [hp_alloc, hp_drew, hp_drewN, Array.size_push]; omega) (by simp [Value.ownBlock])]; (simp only [hp_alloc, hp_drew, hp_drewN, Array.getElem?_push, Array.size_push]; simp; done)))) (by omega)) (by first | assumption | exact hHeld) _ _ _ k _ ((f.take k).flatMap Srt.enc) rfl HT1.out (RdA.ext hrT (by first | assumption | exact hHeld)) HO1.out (by omega) (by simp) ?_; intro vA wA hownA hEA hgA hatA) | (refine step_app _ w1 rfl (.tmp 37) (.tmp 39) 27 rfl 46 _ 2 24 Try.underlying27 infoS rfl (by omega) vA (0 + k) ([] ++ (f.take k).flatMap Srt.enc) rfl (by first | exact hownA | exact ownsRow_ext hownA (Ext.alloc _ _)) (by first | assumption | exact hHeld) _ _ _ 1 1 [.string x.code, .int .i64 x.set] rfl rfl (rdA_at (cs := #[.string x.code, .int .i64 x.set]) (t := 46) (by (first | (simp only [hp_alloc, hp_drew, hp_drewN, Array.getElem?_push, Array.size_push]; simp; done) | (rw [hgA.block _ (by simp only [hp_alloc, hp_drew, hp_drewN, Array.size_push]; omega) (by simp [Value.ownBlock])]; (simp only [hp_alloc, hp_drew, hp_drewN, Array.getElem?_push, Array.size_push]; simp; done)))) rfl) (by simp [Value.oneCell']) (by omega) (by simp) ?_; intro vB wB hownB hEB hgB hatB) | (refine step_app _ w1 rfl (.tmp 40) (.tmp 43) 27 rfl 46 _ 2 24 Try.underlying27 infoS rfl (by omega) vB (0 + k + 1) ([] ++ (f.take k).flatMap Srt.enc ++ [.string x.code, .int .i64 x.set]) rfl hownB (by first | assumption | exact hHeld) _ _ _ (f.length - k) _ ((f.drop k).flatMap Srt.enc) rfl HT3.out (RdA.ext hrB (by first | assumption | exact hHeld)) HO3.out (by omega) HBN.out ?_; intro vC wC hownC hEC hgC hatC))
        all_goals
          clear e0 e1 X0 X1
          obtain ⟨A', c', rfl, hc', _⟩ := own_form hownC
          obtain ⟨ns, hns⟩ : ∃ ns, ns = ins f x := ⟨_, rfl⟩
          have hns' : ns = f.take k ++ [x] ++ f.drop k := by rw [hns, ins, HK.out]
          have hlen : ns.length = 0 + k + 1 + (f.length - k) := by rw [hns, ins_len]; omega
          have hRC0 := Rd.of_own hownC
          rw [show [] ++ (f.take k).flatMap Srt.enc ++ [.string x.code, .int .i64 x.set] ++ (f.drop k).flatMap Srt.enc = ns.flatMap Srt.enc by rw [hns', List.flatMap_append, List.flatMap_append]; simp [Srt.enc]] at hRC0
          have hRC : RdS wC w.heap.size wC.heap.size A' ns := Rd.wide hRC0 (by omega) (Nat.le_refl _) (Nat.le_refl _)
          have hbn : ∀ s ∈ ns, s.code.size ≤ 1048577 := fun s hs => by
            rw [hns] at hs
            rcases ins_mem hs with h | h
            · exact HB.out s h
            · rw [h]; exact hx
          rw [← hlen] at hc' ⊢
          have hln : ns.length ≤ 1048577 := by omega
          have hEwC : Ext w wC := (hEw.trans hE1).trans hEC
          have HNS := Lib.hid hns
          clear hns hns' hlen hRC0 hownC hgC hatC
          go_wp2_with fail
          all_goals
            cases h4 : font ns
            · have HV : Hid (P = ([], false)) := by show _ = _; rw [HP.out]; exact wsP_bad (by rw [← HNS.out, h4]; simp)
              refine (impl_IsFont A' c' ns _ _ _ hln hbn (RdS.ext hRC (by repeat (first | exact Ext.refl _ | assumption | refine Ext.trans ?_ (Ext.alloc _ _) | refine Ext.trans ?_ (Ext.drew _) | refine Ext.trans ?_ (Ext.drewN _ _) | refine Ext.trans ?_ (by assumption))))).mono ?_
              rw [h4]
              rintro e w5 ⟨rfl, hE5⟩
              go_wp2_with fail
              go_ret2
              rw [HV.out]
              exact retS2_lit (by repeat (first | exact Ext.refl _ | assumption | refine Ext.trans ?_ (Ext.alloc _ _) | refine Ext.trans ?_ (Ext.drew _) | refine Ext.trans ?_ (Ext.drewN _ _) | refine Ext.trans ?_ (by assumption)))
            · have HV : Hid (P = (ns, true)) := by show _ = _; rw [HP.out, HNS.out]; exact wsP_good H1.out H2.out (by rw [← HNS.out]; exact h4)
              refine (impl_IsFont A' c' ns _ _ _ hln hbn (RdS.ext hRC (by repeat (first | exact Ext.refl _ | assumption | refine Ext.trans ?_ (Ext.alloc _ _) | refine Ext.trans ?_ (Ext.drew _) | refine Ext.trans ?_ (Ext.drewN _ _) | refine Ext.trans ?_ (by assumption))))).mono ?_
              rw [h4]
              rintro e w5 ⟨rfl, hE5⟩
              go_wp2_with fail
              go_ret2
              rw [HV.out]
              exact ⟨A', c', rfl, hc', (Rd.ext hRC (by repeat (first | exact Ext.refl _ | assumption | refine Ext.trans ?_ (Ext.alloc _ _) | refine Ext.trans ?_ (Ext.drew _) | refine Ext.trans ?_ (Ext.drewN _ _) | refine Ext.trans ?_ (by assumption)))).wide (Nat.le_refl _) hE5.size (Nat.le_refl _), (by repeat (first | exact Ext.refl _ | assumption | refine Ext.trans ?_ (Ext.alloc _ _) | refine Ext.trans ?_ (Ext.drew _) | refine Ext.trans ?_ (Ext.drewN _ _) | refine Ext.trans ?_ (by assumption)))⟩
      · have q2 : Op.bytesLess a.code.toList x.code.toList = true := t1
        have HS : Hid (insTo f x (k + 1) = true) := by show _ = _; rw [insTo_succ HX.out, HI.out, t1]; rfl
        clear t1
        go_wp2_with fail
        refine wp_region_xw (w0 := wr) (by kernel_rfl) (by kernel_rfl) (by repeat (first | exact Ext.refl _ | assumption | refine Ext.trans ?_ (Ext.alloc _ _) | refine Ext.trans ?_ (Ext.drew _) | refine Ext.trans ?_ (Ext.drewN _ _) | refine Ext.trans ?_ (by assumption))) ?_; (repeat (go_big_quiet_step ((fail)))); refine wpQuiet_nil ?_; intro w1 hw'; obtain ⟨⟨_, hEw1⟩, hw''⟩ := hw'; subst hw''
        clear e0 e1 q2
        go_wp2
        go_roundw
        case rel => exact ⟨k + 1, by omega, by go_num, HS.out, hE.trans hEw1⟩
        case measure => simp [intOf]; omega
    · have HK : Hid (insP f x = k) := by show _ = _; rw [insP_end (by have := HI.out; rwa [show k = f.length by omega] at this)]; omega
      have hkl : f.length ≤ k := by omega
      clear hlt more STOP
      have i1 : decide ((k : Int) < f.length) = false := by simp; omega
      have i2 : decide (k < f.length) = false := by simp; omega
      go_wp2_with fail
      refine wp_region_xw (w0 := wr) (by kernel_rfl) (by kernel_rfl) (by repeat (first | exact Ext.refl _ | assumption | refine Ext.trans ?_ (Ext.alloc _ _) | refine Ext.trans ?_ (Ext.drew _) | refine Ext.trans ?_ (Ext.drewN _ _) | refine Ext.trans ?_ (by assumption))) ?_; (repeat (go_big_quiet_step ((fail)))); refine wpQuiet_nil ?_; intro w1 hw'; obtain ⟨⟨_, hEw1⟩, hw''⟩ := hw'; subst hw''
      clear e0 i1 i2 hkl
      have hE1 : Ext wl w1 := hE.trans hEw1
      clear hE hEw1
      go_wp2_with fail
      have X0 := hE1.cell x0
      have X1 := hE1.cell x1
      have e0 : ∀ w', Ext w1 w' → w'.cell? ⟨w.heap.size, 0, none⟩ = _ := fun _ h => h.cell X0
      have e1 : ∀ w', Ext w1 w' → w'.cell? ⟨w.heap.size, 1, none⟩ = _ := fun _ h => h.cell X1
      have hrW := hr.ext hE1
      have hrT := hrW.takeA k
      have hrD := hrW.dropA k
      have HT1 : Hid (((f.take k).flatMap Srt.enc).length = k * 2) := by show _ = _; rw [lenS, List.length_take]; omega
      have HT3 : Hid (((f.drop k).flatMap Srt.enc).length = (f.length - k) * 2) := by show _ = _; rw [lenS, List.length_drop]
      have HO1 := Lib.hid (sorts_one (f.take k))
      have HO3 := Lib.hid (sorts_one (f.drop k))
      have j1 : (k : Int) ≤ f.length := by omega
      have j2 : (k : Int) ≤ c := by omega
      have hz1 : wl.heap.size ≤ w1.heap.size := hE1.size
      have hzb : b0 < w1.heap.size := by have := hE1.size; omega
      have hzx1 : w.heap.size < w1.heap.size := by omega
      obtain ⟨B, hB⟩ : ∃ B, B = (if c = k then (some ⟨b0, off0, none⟩ : Option Addr) else some ⟨b0, off0 + k * 2, none⟩) := ⟨_, rfl⟩
      have hrB : RdA w1 lo hi (if c = k then (some ⟨b0, off0, none⟩ : Option Addr) else some ⟨b0, off0 + k * 2, none⟩) ((f.drop k).flatMap Srt.enc) := by
        by_cases hci : c = k
        · rw [show f.drop k = [] from List.drop_eq_nil_of_le (by omega)]
          exact ⟨hrD.1, fun h => absurd rfl h⟩
        · rw [if_neg hci]; exact hrD
      have hBN : (if c = k then (some ⟨b0, off0, none⟩ : Option Addr) else some ⟨b0, off0 + k * 2, none⟩) = none → f.length - k = 0 := by
        intro h; split at h <;> cases h
      have HBN := Lib.hid hBN
      clear hB hrD hBN
      go_region_held3 (fun w' => Ext w1 w') (exact (by repeat (first | exact Ext.refl _ | assumption | refine Ext.trans ?_ (Ext.alloc _ _) | refine Ext.trans ?_ (Ext.drew _) | refine Ext.trans ?_ (Ext.drewN _ _) | refine Ext.trans ?_ (by assumption)))) (first | (refine step_app _ w1 rfl (.tmp 33) (.tmp 36) 27 rfl 46 _ 2 24 Try.underlying27 infoS rfl (by omega) (.slice (some ⟨_, 0, none⟩) 0 0) 0 [] rfl (own_at (by (first | (simp only [hp_alloc, hp_drew, hp_drewN, Array.getElem?_push, Array.size_push]; simp; done) | (rw [hgA.block _ (by simp only [hp_alloc, hp_drew, hp_drewN, Array.size_push]; omega) (by simp [Value.ownBlock])]; (simp only [hp_alloc, hp_drew, hp_drewN, Array.getElem?_push, Array.size_push]; simp; done)))) (by omega)) (by first | assumption | exact hHeld) _ _ _ k _ ((f.take k).flatMap Srt.enc) rfl HT1.out (RdA.ext hrT (by first | assumption | exact hHeld)) HO1.out (by omega) (by simp) ?_; intro vA wA hownA hEA hgA hatA) | (refine step_app _ w1 rfl (.tmp 37) (.tmp 39) 27 rfl 46 _ 2 24 Try.underlying27 infoS rfl (by omega) vA (0 + k) ([] ++ (f.take k).flatMap Srt.enc) rfl (by first | exact hownA | exact ownsRow_ext hownA (Ext.alloc _ _)) (by first | assumption | exact hHeld) _ _ _ 1 1 [.string x.code, .int .i64 x.set] rfl rfl (rdA_at (cs := #[.string x.code, .int .i64 x.set]) (t := 46) (by (first | (simp only [hp_alloc, hp_drew, hp_drewN, Array.getElem?_push, Array.size_push]; simp; done) | (rw [hgA.block _ (by simp only [hp_alloc, hp_drew, hp_drewN, Array.size_push]; omega) (by simp [Value.ownBlock])]; (simp only [hp_alloc, hp_drew, hp_drewN, Array.getElem?_push, Array.size_push]; simp; done)))) rfl) (by simp [Value.oneCell']) (by omega) (by simp) ?_; intro vB wB hownB hEB hgB hatB) | (refine step_app _ w1 rfl (.tmp 40) (.tmp 43) 27 rfl 46 _ 2 24 Try.underlying27 infoS rfl (by omega) vB (0 + k + 1) ([] ++ (f.take k).flatMap Srt.enc ++ [.string x.code, .int .i64 x.set]) rfl hownB (by first | assumption | exact hHeld) _ _ _ (f.length - k) _ ((f.drop k).flatMap Srt.enc) rfl HT3.out (RdA.ext hrB (by first | assumption | exact hHeld)) HO3.out (by omega) HBN.out ?_; intro vC wC hownC hEC hgC hatC))
      all_goals
        clear e0 e1 X0 X1
        obtain ⟨A', c', rfl, hc', _⟩ := own_form hownC
        obtain ⟨ns, hns⟩ : ∃ ns, ns = ins f x := ⟨_, rfl⟩
        have hns' : ns = f.take k ++ [x] ++ f.drop k := by rw [hns, ins, HK.out]
        have hlen : ns.length = 0 + k + 1 + (f.length - k) := by rw [hns, ins_len]; omega
        have hRC0 := Rd.of_own hownC
        rw [show [] ++ (f.take k).flatMap Srt.enc ++ [.string x.code, .int .i64 x.set] ++ (f.drop k).flatMap Srt.enc = ns.flatMap Srt.enc by rw [hns', List.flatMap_append, List.flatMap_append]; simp [Srt.enc]] at hRC0
        have hRC : RdS wC w.heap.size wC.heap.size A' ns := Rd.wide hRC0 (by omega) (Nat.le_refl _) (Nat.le_refl _)
        have hbn : ∀ s ∈ ns, s.code.size ≤ 1048577 := fun s hs => by
          rw [hns] at hs
          rcases ins_mem hs with h | h
          · exact HB.out s h
          · rw [h]; exact hx
        rw [← hlen] at hc' ⊢
        have hln : ns.length ≤ 1048577 := by omega
        have hEwC : Ext w wC := (hEw.trans hE1).trans hEC
        have HNS := Lib.hid hns
        clear hns hns' hlen hRC0 hownC hgC hatC
        go_wp2_with fail
        all_goals
          cases h4 : font ns
          · have HV : Hid (P = ([], false)) := by show _ = _; rw [HP.out]; exact wsP_bad (by rw [← HNS.out, h4]; simp)
            refine (impl_IsFont A' c' ns _ _ _ hln hbn (RdS.ext hRC (by repeat (first | exact Ext.refl _ | assumption | refine Ext.trans ?_ (Ext.alloc _ _) | refine Ext.trans ?_ (Ext.drew _) | refine Ext.trans ?_ (Ext.drewN _ _) | refine Ext.trans ?_ (by assumption))))).mono ?_
            rw [h4]
            rintro e w5 ⟨rfl, hE5⟩
            go_wp2_with fail
            go_ret2
            rw [HV.out]
            exact retS2_lit (by repeat (first | exact Ext.refl _ | assumption | refine Ext.trans ?_ (Ext.alloc _ _) | refine Ext.trans ?_ (Ext.drew _) | refine Ext.trans ?_ (Ext.drewN _ _) | refine Ext.trans ?_ (by assumption)))
          · have HV : Hid (P = (ns, true)) := by show _ = _; rw [HP.out, HNS.out]; exact wsP_good H1.out H2.out (by rw [← HNS.out]; exact h4)
            refine (impl_IsFont A' c' ns _ _ _ hln hbn (RdS.ext hRC (by repeat (first | exact Ext.refl _ | assumption | refine Ext.trans ?_ (Ext.alloc _ _) | refine Ext.trans ?_ (Ext.drew _) | refine Ext.trans ?_ (Ext.drewN _ _) | refine Ext.trans ?_ (by assumption))))).mono ?_
            rw [h4]
            rintro e w5 ⟨rfl, hE5⟩
            go_wp2_with fail
            go_ret2
            rw [HV.out]
            exact ⟨A', c', rfl, hc', (Rd.ext hRC (by repeat (first | exact Ext.refl _ | assumption | refine Ext.trans ?_ (Ext.alloc _ _) | refine Ext.trans ?_ (Ext.drew _) | refine Ext.trans ?_ (Ext.drewN _ _) | refine Ext.trans ?_ (by assumption)))).wide (Nat.le_refl _) hE5.size (Nat.le_refl _), (by repeat (first | exact Ext.refl _ | assumption | refine Ext.trans ?_ (Ext.alloc _ _) | refine Ext.trans ?_ (Ext.drew _) | refine Ext.trans ?_ (Ext.drewN _ _) | refine Ext.trans ?_ (by assumption)))⟩
set_option maxRecDepth 20000 in
set_option maxHeartbeats 4000000 in
theorem spec_WithSort (A : Option Addr) (c : Nat) (f : List Srt) (x : Srt) (lo hi : Nat) (w : World) (hl : f.length ≤ 1048577) (hb : ∀ s ∈ f, s.code.size ≤ 1048577) (hx : x.code.size ≤ 1048577) (hcap : f.length ≤ c) (hr : RdS w lo hi A f) :
    Calls Try.prog 32 #[.slice A f.length c, .agg #[.string x.code, .int .i64 x.set]] w (RetS2 w (wsP f x)) := by
  have hr0 := fun o => hr.ext (Ext.alloc w o)
  cases h1 : font f
  · rw [wsP_bad (by simp [h1])]
    go_enter Try.func32, Try.ntmps32
    go_wp2_with (go_at_call 72; refine (spec_tyFont A c f lo hi _ hl hb (hr0 _)).mono ?_; rintro e w1 ⟨rfl, hE1⟩; obtain ⟨hc1, hf1⟩ := bcell hE1; have hs1 := hE1.size; (try simp only [World.size_alloc] at hs1))
    go_ret2
    exact retS2_lit (by repeat (first | exact Ext.refl _ | assumption | refine Ext.trans ?_ (Ext.alloc _ _) | refine Ext.trans ?_ (Ext.drew _) | refine Ext.trans ?_ (Ext.drewN _ _) | refine Ext.trans ?_ (by assumption)))
  cases h2 : srtOk x
  · rw [wsP_bad (by simp [h2])]
    go_enter Try.func32, Try.ntmps32
    go_wp2_with (first | (go_at_call 72; refine (spec_tyFont A c f lo hi _ hl hb (hr0 _)).mono ?_; rintro e w1 ⟨rfl, hE1⟩; obtain ⟨hc1, hf1⟩ := bcell hE1; have hs1 := hE1.size; (try simp only [World.size_alloc] at hs1)) | (go_at_call 73; refine (spec_tySort x _ hx).mono ?_; rintro e w2 ⟨rfl, hE2⟩; obtain ⟨hc2, hf2⟩ := bcell hE2; have hs2 := hE2.size; (try simp only [World.size_alloc] at hs2)))
    go_ret2
    exact retS2_lit (by repeat (first | exact Ext.refl _ | assumption | refine Ext.trans ?_ (Ext.alloc _ _) | refine Ext.trans ?_ (Ext.drew _) | refine Ext.trans ?_ (Ext.drewN _ _) | refine Ext.trans ?_ (by assumption)))
  obtain ⟨hf1, hf2⟩ := font_len h1
  by_cases h3 : 0 ≤ findP f x.code
  · rw [wsP_bad (by rw [ins_double h1 h3]; simp)]
    go_enter Try.func32, Try.ntmps32
    go_wp2_with (first | (go_at_call 72; refine (spec_tyFont A c f lo hi _ hl hb (hr0 _)).mono ?_; rintro e w1 ⟨rfl, hE1⟩; obtain ⟨hc1, hf1⟩ := bcell hE1; have hs1 := hE1.size; (try simp only [World.size_alloc] at hs1)) | ((go_at_call 73; refine (spec_tySort x _ hx).mono ?_; rintro e w2 ⟨rfl, hE2⟩; obtain ⟨hc2, hf2⟩ := bcell hE2; have hs2 := hE2.size; (try simp only [World.size_alloc] at hs2)); have q0 := box_new (j := 0) (v := .string x.code) (cs := #[.string x.code, .int .i64 x.set]) (t := 46) (hE1.trans hE2) rfl))
    have hAl2 : Ext (w.alloc (.cells #[.string x.code, .int .i64 x.set] 46)) w2 := (by repeat (first | exact Ext.refl _ | assumption | refine Ext.trans ?_ (Ext.alloc _ _) | refine Ext.trans ?_ (Ext.drew _) | refine Ext.trans ?_ (Ext.drewN _ _) | refine Ext.trans ?_ (by assumption)))
    have hrF := (hr0 (.cells #[.string x.code, .int .i64 x.set] 46)).ext hAl2
    refine (spec_tyFind _ c f x.code lo hi _ hl hrF).mono ?_
    rintro e w3 ⟨rfl, hE3⟩
    obtain ⟨hc3, hf3⟩ := bcell hE3
    have hs3 := hE3.size
    clear hrF hAl2
    go_wp2_with fail
    go_ret2
    exact retS2_lit (by repeat (first | exact Ext.refl _ | assumption | refine Ext.trans ?_ (Ext.alloc _ _) | refine Ext.trans ?_ (Ext.drew _) | refine Ext.trans ?_ (Ext.drewN _ _) | refine Ext.trans ?_ (by assumption)))
  have h3' : findP f x.code < 0 := by omega
  obtain ⟨_, b0, off0, _, eA, _, _, _⟩ := RdS.get hr (k := 0) (by omega)
  subst eA
  obtain ⟨P, hP⟩ : ∃ P, P = wsP f x := ⟨_, rfl⟩
  rw [← hP]
  have HP := Lib.hid hP; clear hP
  have HB := Lib.hid hb
  have H1 := Lib.hid h1; have H2 := Lib.hid h2
  go_enter Try.func32, Try.ntmps32
  go_wp2_with (first | (go_at_call 72; refine (spec_tyFont _ c f lo hi _ hl hb (hr0 _)).mono ?_; rintro e w1 ⟨rfl, hE1⟩; obtain ⟨hc1, hf1⟩ := bcell hE1; have hs1 := hE1.size; (try simp only [World.size_alloc] at hs1)) | ((go_at_call 73; refine (spec_tySort x _ hx).mono ?_; rintro e w2 ⟨rfl, hE2⟩; obtain ⟨hc2, hf2⟩ := bcell hE2; have hs2 := hE2.size; (try simp only [World.size_alloc] at hs2)); have q0 := box_new (j := 0) (v := .string x.code) (cs := #[.string x.code, .int .i64 x.set]) (t := 46) (hE1.trans hE2) rfl))
  have hAl2 : Ext (w.alloc (.cells #[.string x.code, .int .i64 x.set] 46)) w2 := (by repeat (first | exact Ext.refl _ | assumption | refine Ext.trans ?_ (Ext.alloc _ _) | refine Ext.trans ?_ (Ext.drew _) | refine Ext.trans ?_ (Ext.drewN _ _) | refine Ext.trans ?_ (by assumption)))
  have hrF := (hr0 (.cells #[.string x.code, .int .i64 x.set] 46)).ext hAl2
  refine (spec_tyFind _ c f x.code lo hi _ hl hrF).mono ?_
  rintro e w3 ⟨rfl, hE3⟩
  obtain ⟨hc3, hf3⟩ := bcell hE3
  have hs3 := hE3.size
  clear hrF hAl2
  go_wp2_with fail
  have hAl : Ext (w.alloc (.cells #[.string x.code, .int .i64 x.set] 46)) w3 := (by repeat (first | exact Ext.refl _ | assumption | refine Ext.trans ?_ (Ext.alloc _ _) | refine Ext.trans ?_ (Ext.drew _) | refine Ext.trans ?_ (Ext.drewN _ _) | refine Ext.trans ?_ (by assumption)))
  have x0 : w3.cell? ⟨w.heap.size, 0, none⟩ = some (.string x.code) := box_new hAl rfl
  have x1 : w3.cell? ⟨w.heap.size, 1, none⟩ = some (.int .i64 x.set) := box_new hAl rfl
  have hEw : Ext w w3 := (Ext.alloc _ _).trans hAl
  clear hAl
  replace hr := hr.ext hEw
  have hzl : w.heap.size ≤ w3.heap.size := hEw.size
  have hzx := World.block_lt_of_cell? w3 _ x0
  clear h1 h2 hb hr0 hc1 hf1 hc2 hf2 h3 hc3 hf3 q0 
  generalize w3 = wl at *
  go_loopw [6] (fun j wr => ∃ k : Nat, k ≤ f.length ∧ j = .int .i64 k ∧ insTo f x k = true ∧ Ext wl wr) (fun j _ => f.length - (intOf j).toNat)
  case atStart => exact ⟨0, Nat.zero_le _, rfl, rfl, Ext.refl _⟩
  case round =>
    obtain ⟨k, hk, rfl, hi0, hE⟩ := hrel
    have HI := Lib.hid hi0; clear hi0
    have i0 : (0 : Int) ≤ k := by omega
    have e0 : ∀ y : XW wr, y.v.cell? ⟨w.heap.size, 0, none⟩ = _ := fun y => y.h.cell (hE.cell x0)
    have more : k = f.length ∨ k < f.length := by omega
    have STOP : (¬ (k < f.length) ∨ True) := .inr trivial
    by_cases hlt : k < f.length
    · obtain ⟨a, b', off', HX, eA, h3, c0, _⟩ := RdS.get (hr.ext hE) hlt
      injection eA with eA; injection eA with eb eo _; subst eb; subst eo
      have e1 : ∀ y : XW wr, y.v.cell? ⟨b0, off0 + k * 2, none⟩ = _ := fun y => y.h.cell c0
      have i1 : (k : Int) < f.length := by omega
      clear more STOP
      cases t1 : lessB a x
      · have q2 : Op.bytesLess a.code.toList x.code.toList = false := t1
        have HK : Hid (insP f x = k) := insP_at HI.out HX.out t1
        clear t1
        go_wp2_with fail
        refine wp_region_xw (w0 := wr) (by kernel_rfl) (by kernel_rfl) (by repeat (first | exact Ext.refl _ | assumption | refine Ext.trans ?_ (Ext.alloc _ _) | refine Ext.trans ?_ (Ext.drew _) | refine Ext.trans ?_ (Ext.drewN _ _) | refine Ext.trans ?_ (by assumption))) ?_; (repeat (go_big_quiet_step ((fail)))); refine wpQuiet_nil ?_; intro w1 hw'; obtain ⟨⟨_, hEw1⟩, hw''⟩ := hw'; subst hw''
        clear e0 e1 q2
        have hE1 : Ext wl w1 := hE.trans hEw1
        clear hE hEw1 h3 c0 HX
        go_wp2_with fail
        have X0 := hE1.cell x0
        have X1 := hE1.cell x1
        have e0 : ∀ w', Ext w1 w' → w'.cell? ⟨w.heap.size, 0, none⟩ = _ := fun _ h => h.cell X0
        have e1 : ∀ w', Ext w1 w' → w'.cell? ⟨w.heap.size, 1, none⟩ = _ := fun _ h => h.cell X1
        have hrW := hr.ext hE1
        have hrT := hrW.takeA k
        have hrD := hrW.dropA k
        have HT1 : Hid (((f.take k).flatMap Srt.enc).length = k * 2) := by show _ = _; rw [lenS, List.length_take]; omega
        have HT3 : Hid (((f.drop k).flatMap Srt.enc).length = (f.length - k) * 2) := by show _ = _; rw [lenS, List.length_drop]
        have HO1 := Lib.hid (sorts_one (f.take k))
        have HO3 := Lib.hid (sorts_one (f.drop k))
        have j1 : (k : Int) ≤ f.length := by omega
        have j2 : (k : Int) ≤ c := by omega
        have hz1 : wl.heap.size ≤ w1.heap.size := hE1.size
        have hzb : b0 < w1.heap.size := by have := hE1.size; omega
        have hzx1 : w.heap.size < w1.heap.size := by omega
        obtain ⟨B, hB⟩ : ∃ B, B = (if c = k then (some ⟨b0, off0, none⟩ : Option Addr) else some ⟨b0, off0 + k * 2, none⟩) := ⟨_, rfl⟩
        have hrB : RdA w1 lo hi (if c = k then (some ⟨b0, off0, none⟩ : Option Addr) else some ⟨b0, off0 + k * 2, none⟩) ((f.drop k).flatMap Srt.enc) := by
          by_cases hci : c = k
          · rw [show f.drop k = [] from List.drop_eq_nil_of_le (by omega)]
            exact ⟨hrD.1, fun h => absurd rfl h⟩
          · rw [if_neg hci]; exact hrD
        have hBN : (if c = k then (some ⟨b0, off0, none⟩ : Option Addr) else some ⟨b0, off0 + k * 2, none⟩) = none → f.length - k = 0 := by
          intro h; split at h <;> cases h
        have HBN := Lib.hid hBN
        clear hB hrD hBN
        go_region_held3 (fun w' => Ext w1 w') (exact (by repeat (first | exact Ext.refl _ | assumption | refine Ext.trans ?_ (Ext.alloc _ _) | refine Ext.trans ?_ (Ext.drew _) | refine Ext.trans ?_ (Ext.drewN _ _) | refine Ext.trans ?_ (by assumption)))) (first | (refine step_app _ w1 rfl (.tmp 39) (.tmp 42) 27 rfl 46 _ 2 24 Try.underlying27 infoS rfl (by omega) (.slice (some ⟨_, 0, none⟩) 0 0) 0 [] rfl (own_at (by (first | (simp only [hp_alloc, hp_drew, hp_drewN, Array.getElem?_push, Array.size_push]; simp; done) | (rw [hgA.block _ (by simp only [hp_alloc, hp_drew, hp_drewN, Array.size_push]; omega) (by simp [Value.ownBlock])]; (simp only [hp_alloc, hp_drew, hp_drewN, Array.getElem?_push, Array.size_push]; simp; done)))) (by omega)) (by first | assumption | exact hHeld) _ _ _ k _ ((f.take k).flatMap Srt.enc) rfl HT1.out (RdA.ext hrT (by first | assumption | exact hHeld)) HO1.out (by omega) (by simp) ?_; intro vA wA hownA hEA hgA hatA) | (refine step_app _ w1 rfl (.tmp 43) (.tmp 45) 27 rfl 46 _ 2 24 Try.underlying27 infoS rfl (by omega) vA (0 + k) ([] ++ (f.take k).flatMap Srt.enc) rfl (by first | exact hownA | exact ownsRow_ext hownA (Ext.alloc _ _)) (by first | assumption | exact hHeld) _ _ _ 1 1 [.string x.code, .int .i64 x.set] rfl rfl (rdA_at (cs := #[.string x.code, .int .i64 x.set]) (t := 46) (by (first | (simp only [hp_alloc, hp_drew, hp_drewN, Array.getElem?_push, Array.size_push]; simp; done) | (rw [hgA.block _ (by simp only [hp_alloc, hp_drew, hp_drewN, Array.size_push]; omega) (by simp [Value.ownBlock])]; (simp only [hp_alloc, hp_drew, hp_drewN, Array.getElem?_push, Array.size_push]; simp; done)))) rfl) (by simp [Value.oneCell']) (by omega) (by simp) ?_; intro vB wB hownB hEB hgB hatB) | (refine step_app _ w1 rfl (.tmp 46) (.tmp 49) 27 rfl 46 _ 2 24 Try.underlying27 infoS rfl (by omega) vB (0 + k + 1) ([] ++ (f.take k).flatMap Srt.enc ++ [.string x.code, .int .i64 x.set]) rfl hownB (by first | assumption | exact hHeld) _ _ _ (f.length - k) _ ((f.drop k).flatMap Srt.enc) rfl HT3.out (RdA.ext hrB (by first | assumption | exact hHeld)) HO3.out (by omega) HBN.out ?_; intro vC wC hownC hEC hgC hatC))
        all_goals
          clear e0 e1 X0 X1
          obtain ⟨A', c', rfl, hc', _⟩ := own_form hownC
          obtain ⟨ns, hns⟩ : ∃ ns, ns = ins f x := ⟨_, rfl⟩
          have hns' : ns = f.take k ++ [x] ++ f.drop k := by rw [hns, ins, HK.out]
          have hlen : ns.length = 0 + k + 1 + (f.length - k) := by rw [hns, ins_len]; omega
          have hRC0 := Rd.of_own hownC
          rw [show [] ++ (f.take k).flatMap Srt.enc ++ [.string x.code, .int .i64 x.set] ++ (f.drop k).flatMap Srt.enc = ns.flatMap Srt.enc by rw [hns', List.flatMap_append, List.flatMap_append]; simp [Srt.enc]] at hRC0
          have hRC : RdS wC w.heap.size wC.heap.size A' ns := Rd.wide hRC0 (by omega) (Nat.le_refl _) (Nat.le_refl _)
          have hbn : ∀ s ∈ ns, s.code.size ≤ 1048577 := fun s hs => by
            rw [hns] at hs
            rcases ins_mem hs with h | h
            · exact HB.out s h
            · rw [h]; exact hx
          rw [← hlen] at hc' ⊢
          have hln : ns.length ≤ 1048577 := by omega
          have hEwC : Ext w wC := (hEw.trans hE1).trans hEC
          have HNS := Lib.hid hns
          clear hns hns' hlen hRC0 hownC hgC hatC
          go_wp2_with fail
          all_goals
            cases h4 : font ns
            · have HV : Hid (P = ([], false)) := by show _ = _; rw [HP.out]; exact wsP_bad (by rw [← HNS.out, h4]; simp)
              refine (spec_tyFont A' c' ns _ _ _ hln hbn (RdS.ext hRC (by repeat (first | exact Ext.refl _ | assumption | refine Ext.trans ?_ (Ext.alloc _ _) | refine Ext.trans ?_ (Ext.drew _) | refine Ext.trans ?_ (Ext.drewN _ _) | refine Ext.trans ?_ (by assumption))))).mono ?_
              rw [h4]
              rintro e w5 ⟨rfl, hE5⟩
              go_wp2_with fail
              go_ret2
              rw [HV.out]
              exact retS2_lit (by repeat (first | exact Ext.refl _ | assumption | refine Ext.trans ?_ (Ext.alloc _ _) | refine Ext.trans ?_ (Ext.drew _) | refine Ext.trans ?_ (Ext.drewN _ _) | refine Ext.trans ?_ (by assumption)))
            · have HV : Hid (P = (ns, true)) := by show _ = _; rw [HP.out, HNS.out]; exact wsP_good H1.out H2.out (by rw [← HNS.out]; exact h4)
              refine (spec_tyFont A' c' ns _ _ _ hln hbn (RdS.ext hRC (by repeat (first | exact Ext.refl _ | assumption | refine Ext.trans ?_ (Ext.alloc _ _) | refine Ext.trans ?_ (Ext.drew _) | refine Ext.trans ?_ (Ext.drewN _ _) | refine Ext.trans ?_ (by assumption))))).mono ?_
              rw [h4]
              rintro e w5 ⟨rfl, hE5⟩
              go_wp2_with fail
              go_ret2
              rw [HV.out]
              exact ⟨A', c', rfl, hc', (Rd.ext hRC (by repeat (first | exact Ext.refl _ | assumption | refine Ext.trans ?_ (Ext.alloc _ _) | refine Ext.trans ?_ (Ext.drew _) | refine Ext.trans ?_ (Ext.drewN _ _) | refine Ext.trans ?_ (by assumption)))).wide (Nat.le_refl _) hE5.size (Nat.le_refl _), (by repeat (first | exact Ext.refl _ | assumption | refine Ext.trans ?_ (Ext.alloc _ _) | refine Ext.trans ?_ (Ext.drew _) | refine Ext.trans ?_ (Ext.drewN _ _) | refine Ext.trans ?_ (by assumption)))⟩
      · have q2 : Op.bytesLess a.code.toList x.code.toList = true := t1
        have HS : Hid (insTo f x (k + 1) = true) := by show _ = _; rw [insTo_succ HX.out, HI.out, t1]; rfl
        clear t1
        go_wp2_with fail
        refine wp_region_xw (w0 := wr) (by kernel_rfl) (by kernel_rfl) (by repeat (first | exact Ext.refl _ | assumption | refine Ext.trans ?_ (Ext.alloc _ _) | refine Ext.trans ?_ (Ext.drew _) | refine Ext.trans ?_ (Ext.drewN _ _) | refine Ext.trans ?_ (by assumption))) ?_; (repeat (go_big_quiet_step ((fail)))); refine wpQuiet_nil ?_; intro w1 hw'; obtain ⟨⟨_, hEw1⟩, hw''⟩ := hw'; subst hw''
        clear e0 e1 q2
        go_wp2
        go_roundw
        case rel => exact ⟨k + 1, by omega, by go_num, HS.out, hE.trans hEw1⟩
        case measure => simp [intOf]; omega
    · have HK : Hid (insP f x = k) := by show _ = _; rw [insP_end (by have := HI.out; rwa [show k = f.length by omega] at this)]; omega
      have hkl : f.length ≤ k := by omega
      clear hlt more STOP
      have i1 : decide ((k : Int) < f.length) = false := by simp; omega
      have i2 : decide (k < f.length) = false := by simp; omega
      go_wp2_with fail
      refine wp_region_xw (w0 := wr) (by kernel_rfl) (by kernel_rfl) (by repeat (first | exact Ext.refl _ | assumption | refine Ext.trans ?_ (Ext.alloc _ _) | refine Ext.trans ?_ (Ext.drew _) | refine Ext.trans ?_ (Ext.drewN _ _) | refine Ext.trans ?_ (by assumption))) ?_; (repeat (go_big_quiet_step ((fail)))); refine wpQuiet_nil ?_; intro w1 hw'; obtain ⟨⟨_, hEw1⟩, hw''⟩ := hw'; subst hw''
      clear e0 i1 i2 hkl
      have hE1 : Ext wl w1 := hE.trans hEw1
      clear hE hEw1
      go_wp2_with fail
      have X0 := hE1.cell x0
      have X1 := hE1.cell x1
      have e0 : ∀ w', Ext w1 w' → w'.cell? ⟨w.heap.size, 0, none⟩ = _ := fun _ h => h.cell X0
      have e1 : ∀ w', Ext w1 w' → w'.cell? ⟨w.heap.size, 1, none⟩ = _ := fun _ h => h.cell X1
      have hrW := hr.ext hE1
      have hrT := hrW.takeA k
      have hrD := hrW.dropA k
      have HT1 : Hid (((f.take k).flatMap Srt.enc).length = k * 2) := by show _ = _; rw [lenS, List.length_take]; omega
      have HT3 : Hid (((f.drop k).flatMap Srt.enc).length = (f.length - k) * 2) := by show _ = _; rw [lenS, List.length_drop]
      have HO1 := Lib.hid (sorts_one (f.take k))
      have HO3 := Lib.hid (sorts_one (f.drop k))
      have j1 : (k : Int) ≤ f.length := by omega
      have j2 : (k : Int) ≤ c := by omega
      have hz1 : wl.heap.size ≤ w1.heap.size := hE1.size
      have hzb : b0 < w1.heap.size := by have := hE1.size; omega
      have hzx1 : w.heap.size < w1.heap.size := by omega
      obtain ⟨B, hB⟩ : ∃ B, B = (if c = k then (some ⟨b0, off0, none⟩ : Option Addr) else some ⟨b0, off0 + k * 2, none⟩) := ⟨_, rfl⟩
      have hrB : RdA w1 lo hi (if c = k then (some ⟨b0, off0, none⟩ : Option Addr) else some ⟨b0, off0 + k * 2, none⟩) ((f.drop k).flatMap Srt.enc) := by
        by_cases hci : c = k
        · rw [show f.drop k = [] from List.drop_eq_nil_of_le (by omega)]
          exact ⟨hrD.1, fun h => absurd rfl h⟩
        · rw [if_neg hci]; exact hrD
      have hBN : (if c = k then (some ⟨b0, off0, none⟩ : Option Addr) else some ⟨b0, off0 + k * 2, none⟩) = none → f.length - k = 0 := by
        intro h; split at h <;> cases h
      have HBN := Lib.hid hBN
      clear hB hrD hBN
      go_region_held3 (fun w' => Ext w1 w') (exact (by repeat (first | exact Ext.refl _ | assumption | refine Ext.trans ?_ (Ext.alloc _ _) | refine Ext.trans ?_ (Ext.drew _) | refine Ext.trans ?_ (Ext.drewN _ _) | refine Ext.trans ?_ (by assumption)))) (first | (refine step_app _ w1 rfl (.tmp 39) (.tmp 42) 27 rfl 46 _ 2 24 Try.underlying27 infoS rfl (by omega) (.slice (some ⟨_, 0, none⟩) 0 0) 0 [] rfl (own_at (by (first | (simp only [hp_alloc, hp_drew, hp_drewN, Array.getElem?_push, Array.size_push]; simp; done) | (rw [hgA.block _ (by simp only [hp_alloc, hp_drew, hp_drewN, Array.size_push]; omega) (by simp [Value.ownBlock])]; (simp only [hp_alloc, hp_drew, hp_drewN, Array.getElem?_push, Array.size_push]; simp; done)))) (by omega)) (by first | assumption | exact hHeld) _ _ _ k _ ((f.take k).flatMap Srt.enc) rfl HT1.out (RdA.ext hrT (by first | assumption | exact hHeld)) HO1.out (by omega) (by simp) ?_; intro vA wA hownA hEA hgA hatA) | (refine step_app _ w1 rfl (.tmp 43) (.tmp 45) 27 rfl 46 _ 2 24 Try.underlying27 infoS rfl (by omega) vA (0 + k) ([] ++ (f.take k).flatMap Srt.enc) rfl (by first | exact hownA | exact ownsRow_ext hownA (Ext.alloc _ _)) (by first | assumption | exact hHeld) _ _ _ 1 1 [.string x.code, .int .i64 x.set] rfl rfl (rdA_at (cs := #[.string x.code, .int .i64 x.set]) (t := 46) (by (first | (simp only [hp_alloc, hp_drew, hp_drewN, Array.getElem?_push, Array.size_push]; simp; done) | (rw [hgA.block _ (by simp only [hp_alloc, hp_drew, hp_drewN, Array.size_push]; omega) (by simp [Value.ownBlock])]; (simp only [hp_alloc, hp_drew, hp_drewN, Array.getElem?_push, Array.size_push]; simp; done)))) rfl) (by simp [Value.oneCell']) (by omega) (by simp) ?_; intro vB wB hownB hEB hgB hatB) | (refine step_app _ w1 rfl (.tmp 46) (.tmp 49) 27 rfl 46 _ 2 24 Try.underlying27 infoS rfl (by omega) vB (0 + k + 1) ([] ++ (f.take k).flatMap Srt.enc ++ [.string x.code, .int .i64 x.set]) rfl hownB (by first | assumption | exact hHeld) _ _ _ (f.length - k) _ ((f.drop k).flatMap Srt.enc) rfl HT3.out (RdA.ext hrB (by first | assumption | exact hHeld)) HO3.out (by omega) HBN.out ?_; intro vC wC hownC hEC hgC hatC))
      all_goals
        clear e0 e1 X0 X1
        obtain ⟨A', c', rfl, hc', _⟩ := own_form hownC
        obtain ⟨ns, hns⟩ : ∃ ns, ns = ins f x := ⟨_, rfl⟩
        have hns' : ns = f.take k ++ [x] ++ f.drop k := by rw [hns, ins, HK.out]
        have hlen : ns.length = 0 + k + 1 + (f.length - k) := by rw [hns, ins_len]; omega
        have hRC0 := Rd.of_own hownC
        rw [show [] ++ (f.take k).flatMap Srt.enc ++ [.string x.code, .int .i64 x.set] ++ (f.drop k).flatMap Srt.enc = ns.flatMap Srt.enc by rw [hns', List.flatMap_append, List.flatMap_append]; simp [Srt.enc]] at hRC0
        have hRC : RdS wC w.heap.size wC.heap.size A' ns := Rd.wide hRC0 (by omega) (Nat.le_refl _) (Nat.le_refl _)
        have hbn : ∀ s ∈ ns, s.code.size ≤ 1048577 := fun s hs => by
          rw [hns] at hs
          rcases ins_mem hs with h | h
          · exact HB.out s h
          · rw [h]; exact hx
        rw [← hlen] at hc' ⊢
        have hln : ns.length ≤ 1048577 := by omega
        have hEwC : Ext w wC := (hEw.trans hE1).trans hEC
        have HNS := Lib.hid hns
        clear hns hns' hlen hRC0 hownC hgC hatC
        go_wp2_with fail
        all_goals
          cases h4 : font ns
          · have HV : Hid (P = ([], false)) := by show _ = _; rw [HP.out]; exact wsP_bad (by rw [← HNS.out, h4]; simp)
            refine (spec_tyFont A' c' ns _ _ _ hln hbn (RdS.ext hRC (by repeat (first | exact Ext.refl _ | assumption | refine Ext.trans ?_ (Ext.alloc _ _) | refine Ext.trans ?_ (Ext.drew _) | refine Ext.trans ?_ (Ext.drewN _ _) | refine Ext.trans ?_ (by assumption))))).mono ?_
            rw [h4]
            rintro e w5 ⟨rfl, hE5⟩
            go_wp2_with fail
            go_ret2
            rw [HV.out]
            exact retS2_lit (by repeat (first | exact Ext.refl _ | assumption | refine Ext.trans ?_ (Ext.alloc _ _) | refine Ext.trans ?_ (Ext.drew _) | refine Ext.trans ?_ (Ext.drewN _ _) | refine Ext.trans ?_ (by assumption)))
          · have HV : Hid (P = (ns, true)) := by show _ = _; rw [HP.out, HNS.out]; exact wsP_good H1.out H2.out (by rw [← HNS.out]; exact h4)
            refine (spec_tyFont A' c' ns _ _ _ hln hbn (RdS.ext hRC (by repeat (first | exact Ext.refl _ | assumption | refine Ext.trans ?_ (Ext.alloc _ _) | refine Ext.trans ?_ (Ext.drew _) | refine Ext.trans ?_ (Ext.drewN _ _) | refine Ext.trans ?_ (by assumption))))).mono ?_
            rw [h4]
            rintro e w5 ⟨rfl, hE5⟩
            go_wp2_with fail
            go_ret2
            rw [HV.out]
            exact ⟨A', c', rfl, hc', (Rd.ext hRC (by repeat (first | exact Ext.refl _ | assumption | refine Ext.trans ?_ (Ext.alloc _ _) | refine Ext.trans ?_ (Ext.drew _) | refine Ext.trans ?_ (Ext.drewN _ _) | refine Ext.trans ?_ (by assumption)))).wide (Nat.le_refl _) hE5.size (Nat.le_refl _), (by repeat (first | exact Ext.refl _ | assumption | refine Ext.trans ?_ (Ext.alloc _ _) | refine Ext.trans ?_ (Ext.drew _) | refine Ext.trans ?_ (Ext.drewN _ _) | refine Ext.trans ?_ (by assumption)))⟩
end Go.Proofs.Ytnkkpphjahpadaa
