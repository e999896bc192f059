/- The walks of WithoutSort: the program's and the reference's. -/
import Derived.Test.YtnkkpphjahpadaaFoD
namespace Go.Proofs.Ytnkkpphjahpadaa
open Go.RowKit
set_option linter.unusedVariables false
set_option maxRecDepth 20000 in
set_option maxHeartbeats 4000000 in
theorem impl_WithoutSort (A : Option Addr) (c : Nat) (f : List Srt) (code : ByteArray) (lo hi : Nat) (w : World) (hl : f.length ≤ 1048577) (hb : ∀ s ∈ f, s.code.size ≤ 1048577) (hcap : f.length ≤ c) (hr : RdS w lo hi A f) :
    Calls Try.prog 37 #[.slice A f.length c, .string code] w (RetS2 w (woP f code)) := by
  cases h1 : font f
  · rw [woP_bad (by simp [woB, h1])]
    go_enter Try.func37, Try.ntmps37
    go_wp2_with fail
    refine (impl_sortAt A c f code lo hi _ hl hr).mono ?_
    rintro e w1 ⟨rfl, hE1⟩
    go_wp2_with fail
    refine (impl_IsFont A c f lo hi _ hl hb (hr.ext hE1)).mono ?_
    rw [h1]
    rintro e w2 ⟨rfl, hE2⟩
    go_wp2_with fail
    go_ret2
    exact retS2_lit (by repeat (first | exact Ext.refl _ | assumption | refine Ext.trans ?_ (Ext.alloc _ _) | refine Ext.trans ?_ (Ext.drew _) | refine Ext.trans ?_ (Ext.drewN _ _) | refine Ext.trans ?_ (by assumption)))
  obtain ⟨hf1, hf2⟩ := font_len h1
  by_cases h2 : findP f code < 0
  · rw [woP_bad (by simp [woB, h1]; omega)]
    go_enter Try.func37, Try.ntmps37
    go_wp2_with fail
    refine (impl_sortAt A c f code lo hi _ hl hr).mono ?_
    rintro e w1 ⟨rfl, hE1⟩
    go_wp2_with fail
    refine (impl_IsFont A c f lo hi _ hl hb (hr.ext hE1)).mono ?_
    rw [h1]
    rintro e w2 ⟨rfl, hE2⟩
    go_wp2_with fail
    go_ret2
    exact retS2_lit (by repeat (first | exact Ext.refl _ | assumption | refine Ext.trans ?_ (Ext.alloc _ _) | refine Ext.trans ?_ (Ext.drew _) | refine Ext.trans ?_ (Ext.drewN _ _) | refine Ext.trans ?_ (by assumption)))
  obtain ⟨i, hi0⟩ : ∃ i : Nat, findP f code = i := ⟨(findP f code).toNat, by omega⟩
  have hil : i < f.length := by have := findP_lt f code; omega
  have HI0 := Lib.hid hi0
  by_cases h3 : f.length ≤ 1
  · rw [woP_bad (by simp [woB, h1]; omega)]
    have t1 : ((f.length : Int) == 1) = true := by simp; omega
    have p3 : decide ((i : Int) < 0) = false := by simp
    go_enter Try.func37, Try.ntmps37
    go_wp2_with fail
    refine (impl_sortAt A c f code lo hi _ hl hr).mono ?_
    rintro e w1 ⟨rfl, hE1⟩
    go_wp2_with fail
    refine (impl_IsFont A c f lo hi _ hl hb (hr.ext hE1)).mono ?_
    rw [h1]
    rintro e w2 ⟨rfl, hE2⟩
    clear h2
    go_wp2_with fail
    go_ret2
    exact retS2_lit (by repeat (first | exact Ext.refl _ | assumption | refine Ext.trans ?_ (Ext.alloc _ _) | refine Ext.trans ?_ (Ext.drew _) | refine Ext.trans ?_ (Ext.drewN _ _) | refine Ext.trans ?_ (by assumption)))
  have t1 : ((f.length : Int) == 1) = false := by simp; omega
  have p3 : decide ((i : Int) < 0) = false := by simp
  obtain ⟨_, b0, off0, _, eA, _, _, _⟩ := RdS.get hr (k := 0) (by omega)
  subst eA
  rw [woP_good (by simp [woB, h1]; omega), hi0, Int.toNat_natCast]
  have hdl := del_len hil
  obtain ⟨ns, hns⟩ : ∃ ns, ns = del f i := ⟨_, rfl⟩
  rw [← hns] at hdl ⊢
  have HDL := Lib.hid hdl
  have HNS := Lib.hid hns
  clear hns hdl hi0 h2
  · go_enter Try.func37, Try.ntmps37
    go_wp2_with fail
    refine (impl_sortAt _ c f code lo hi _ hl hr).mono ?_
    rw [HI0.out]
    rintro e wa ⟨rfl, hEa⟩
    go_wp2_with fail
    refine (impl_IsFont _ c f lo hi _ hl hb (hr.ext hEa)).mono ?_
    rw [h1]
    rintro e w1 ⟨rfl, hEb⟩
    go_wp2_with fail
    have hE1 : Ext w w1 := hEa.trans hEb
    clear hb h1 hEa hEb t1
    have hrW := hr.ext hE1
    have hrT := hrW.takeA i
    have hrD := hrW.dropA (i + 1)
    have HT1 : Hid (((f.take i).flatMap Srt.enc).length = i * 2) := by show _ = _; rw [lenS, List.length_take]; omega
    have HT3 : Hid (((f.drop (i + 1)).flatMap Srt.enc).length = (f.length - (i + 1)) * 2) := by show _ = _; rw [lenS, List.length_drop]
    have HO1 := Lib.hid (sorts_one (f.take i))
    have HO3 := Lib.hid (sorts_one (f.drop (i + 1)))
    have j0 : (0 : Int) ≤ i := by omega
    have j1 : (i : Int) ≤ f.length := by omega
    have j2 : (i : Int) ≤ c := by omega
    have j3 : IntKind.i64.wrap ((i : Int) + 1) = (i : Int) + 1 := IntWalk.i64_in _ (by omega)
    have j4 : (0 : Int) ≤ (i : Int) + 1 := by omega
    have j5 : (i : Int) + 1 ≤ f.length := by omega
    have j6 : ((i : Int) + 1).toNat = i + 1 := by omega
    have hz1 : w.heap.size ≤ w1.heap.size := hE1.size
    have hrB : RdA w1 lo hi (if c = i + 1 then (some ⟨b0, off0, none⟩ : Option Addr) else some ⟨b0, off0 + (i + 1) * 2, none⟩) ((f.drop (i + 1)).flatMap Srt.enc) := by
      by_cases hci : c = i + 1
      · rw [show f.drop (i + 1) = [] from List.drop_eq_nil_of_le (by omega)]
        exact ⟨hrD.1, fun h => absurd rfl h⟩
      · rw [if_neg hci]; exact hrD
    have HBN : Hid ((if c = i + 1 then (some ⟨b0, off0, none⟩ : Option Addr) else some ⟨b0, off0 + (i + 1) * 2, none⟩) = none → f.length - (i + 1) = 0) := by
      intro h; split at h <;> cases h
    clear hrD
    go_region_held3 (fun w' => Ext w1 w') (exact (by repeat (first | exact Ext.refl _ | assumption | refine Ext.trans ?_ (Ext.alloc _ _) | refine Ext.trans ?_ (Ext.drew _) | refine Ext.trans ?_ (Ext.drewN _ _) | refine Ext.trans ?_ (by assumption)))) (first | (refine step_app _ w1 rfl (.tmp 23) (.tmp 26) 27 rfl 46 _ 2 24 Try.underlying27 infoS rfl (by omega) (.slice (some ⟨_, 0, none⟩) 0 0) 0 [] rfl (own_at (by (first | (simp only [hp_alloc, hp_drew, hp_drewN, Array.getElem?_push, Array.size_push]; simp; done) | (rw [hgA.block _ (by simp only [hp_alloc, hp_drew, hp_drewN, Array.size_push]; omega) (by simp [Value.ownBlock])]; (simp only [hp_alloc, hp_drew, hp_drewN, Array.getElem?_push, Array.size_push]; simp; done)))) (by omega)) (by first | assumption | exact hHeld) _ _ _ i _ ((f.take i).flatMap Srt.enc) rfl HT1.out (RdA.ext hrT (by first | assumption | exact hHeld)) HO1.out (by omega) (by simp) ?_; intro vA wA hownA hEA hgA hatA) | (refine step_app _ w1 rfl (.tmp 27) (.tmp 31) 27 rfl 46 _ 2 24 Try.underlying27 infoS rfl (by omega) vA (0 + i) ([] ++ (f.take i).flatMap Srt.enc) rfl hownA (by first | assumption | exact hHeld) _ _ _ (f.length - (i + 1)) _ ((f.drop (i + 1)).flatMap Srt.enc) rfl HT3.out (RdA.ext hrB (by first | assumption | exact hHeld)) HO3.out (by omega) HBN.out ?_; intro vC wC hownC hEC hgC hatC))
    all_goals
      clear j3 j4 j5 j6
      obtain ⟨A', c', rfl, hc', _⟩ := own_form hownC
      have hlen : ns.length = 0 + i + (f.length - (i + 1)) := by rw [HDL.out]; omega
      have hRC0 := Rd.of_own hownC
      rw [show [] ++ (f.take i).flatMap Srt.enc ++ (f.drop (i + 1)).flatMap Srt.enc = ns.flatMap Srt.enc by rw [HNS.out, del, List.flatMap_append]; simp] at hRC0
      have hRC : RdS wC w.heap.size wC.heap.size A' ns := Rd.wide hRC0 (by omega) (Nat.le_refl _) (Nat.le_refl _)
      rw [← hlen] at hc' ⊢
      clear hlen hRC0 hownC hgC hatC
      go_wp2_with fail
      all_goals
        go_ret2
        exact ⟨A', c', rfl, hc', hRC, hE1.trans hEC⟩
set_option maxRecDepth 20000 in
set_option maxHeartbeats 4000000 in
theorem spec_WithoutSort (A : Option Addr) (c : Nat) (f : List Srt) (code : ByteArray) (lo hi : Nat) (w : World) (hl : f.length ≤ 1048577) (hb : ∀ s ∈ f, s.code.size ≤ 1048577) (hcap : f.length ≤ c) (hr : RdS w lo hi A f) :
    Calls Try.prog 36 #[.slice A f.length c, .string code] w (RetS2 w (woP f code)) := by
  cases h1 : font f
  · rw [woP_bad (by simp [woB, h1])]
    go_enter Try.func36, Try.ntmps36
    go_wp2_with fail
    refine (spec_tyFind A c f code lo hi _ hl hr).mono ?_
    rintro e w1 ⟨rfl, hE1⟩
    go_wp2_with fail
    refine (spec_tyFont A c f lo hi _ hl hb (hr.ext hE1)).mono ?_
    rw [h1]
    rintro e w2 ⟨rfl, hE2⟩
    go_wp2_with fail
    go_ret2
    exact retS2_lit (by repeat (first | exact Ext.refl _ | assumption | refine Ext.trans ?_ (Ext.alloc _ _) | refine Ext.trans ?_ (Ext.drew _) | refine Ext.trans ?_ (Ext.drewN _ _) | refine Ext.trans ?_ (by assumption)))
  obtain ⟨hf1, hf2⟩ := font_len h1
  by_cases h2 : findP f code < 0
  · rw [woP_bad (by simp [woB, h1]; omega)]
    go_enter Try.func36, Try.ntmps36
    go_wp2_with fail
    refine (spec_tyFind A c f code lo hi _ hl hr).mono ?_
    rintro e w1 ⟨rfl, hE1⟩
    go_wp2_with fail
    refine (spec_tyFont A c f lo hi _ hl hb (hr.ext hE1)).mono ?_
    rw [h1]
    rintro e w2 ⟨rfl, hE2⟩
    go_wp2_with fail
    go_ret2
    exact retS2_lit (by repeat (first | exact Ext.refl _ | assumption | refine Ext.trans ?_ (Ext.alloc _ _) | refine Ext.trans ?_ (Ext.drew _) | refine Ext.trans ?_ (Ext.drewN _ _) | refine Ext.trans ?_ (by assumption)))
  obtain ⟨i, hi0⟩ : ∃ i : Nat, findP f code = i := ⟨(findP f code).toNat, by omega⟩
  have hil : i < f.length := by have := findP_lt f code; omega
  have HI0 := Lib.hid hi0
  by_cases h3 : f.length ≤ 1
  · rw [woP_bad (by simp [woB, h1]; omega)]
    have t1 : ((f.length : Int) == 1) = true := by simp; omega
    have p3 : decide ((i : Int) < 0) = false := by simp
    go_enter Try.func36, Try.ntmps36
    go_wp2_with fail
    refine (spec_tyFind A c f code lo hi _ hl hr).mono ?_
    rintro e w1 ⟨rfl, hE1⟩
    go_wp2_with fail
    refine (spec_tyFont A c f lo hi _ hl hb (hr.ext hE1)).mono ?_
    rw [h1]
    rintro e w2 ⟨rfl, hE2⟩
    clear h2
    go_wp2_with fail
    go_ret2
    exact retS2_lit (by repeat (first | exact Ext.refl _ | assumption | refine Ext.trans ?_ (Ext.alloc _ _) | refine Ext.trans ?_ (Ext.drew _) | refine Ext.trans ?_ (Ext.drewN _ _) | refine Ext.trans ?_ (by assumption)))
  have t1 : ((f.length : Int) == 1) = false := by simp; omega
  have p3 : decide ((i : Int) < 0) = false := by simp
  obtain ⟨_, b0, off0, _, eA, _, _, _⟩ := RdS.get hr (k := 0) (by omega)
  subst eA
  rw [woP_good (by simp [woB, h1]; omega), hi0, Int.toNat_natCast]
  have hdl := del_len hil
  obtain ⟨ns, hns⟩ : ∃ ns, ns = del f i := ⟨_, rfl⟩
  rw [← hns] at hdl ⊢
  have HDL := Lib.hid hdl
  have HNS := Lib.hid hns
  clear hns hdl hi0 h2
  · go_enter Try.func36, Try.ntmps36
    go_wp2_with fail
    refine (spec_tyFind _ c f code lo hi _ hl hr).mono ?_
    rw [HI0.out]
    rintro e wa ⟨rfl, hEa⟩
    go_wp2_with fail
    refine (spec_tyFont _ c f lo hi _ hl hb (hr.ext hEa)).mono ?_
    rw [h1]
    rintro e w1 ⟨rfl, hEb⟩
    go_wp2_with fail
    have hE1 : Ext w w1 := hEa.trans hEb
    clear hb h1 hEa hEb t1
    have hrW := hr.ext hE1
    have hrT := hrW.takeA i
    have hrD := hrW.dropA (i + 1)
    have HT1 : Hid (((f.take i).flatMap Srt.enc).length = i * 2) := by show _ = _; rw [lenS, List.length_take]; omega
    have HT3 : Hid (((f.drop (i + 1)).flatMap Srt.enc).length = (f.length - (i + 1)) * 2) := by show _ = _; rw [lenS, List.length_drop]
    have HO1 := Lib.hid (sorts_one (f.take i))
    have HO3 := Lib.hid (sorts_one (f.drop (i + 1)))
    have j0 : (0 : Int) ≤ i := by omega
    have j1 : (i : Int) ≤ f.length := by omega
    have j2 : (i : Int) ≤ c := by omega
    have j3 : IntKind.i64.wrap ((i : Int) + 1) = (i : Int) + 1 := IntWalk.i64_in _ (by omega)
    have j4 : (0 : Int) ≤ (i : Int) + 1 := by omega
    have j5 : (i : Int) + 1 ≤ f.length := by omega
    have j6 : ((i : Int) + 1).toNat = i + 1 := by omega
    have hz1 : w.heap.size ≤ w1.heap.size := hE1.size
    have hrB : RdA w1 lo hi (if c = i + 1 then (some ⟨b0, off0, none⟩ : Option Addr) else some ⟨b0, off0 + (i + 1) * 2, none⟩) ((f.drop (i + 1)).flatMap Srt.enc) := by
      by_cases hci : c = i + 1
      · rw [show f.drop (i + 1) = [] from List.drop_eq_nil_of_le (by omega)]
        exact ⟨hrD.1, fun h => absurd rfl h⟩
      · rw [if_neg hci]; exact hrD
    have HBN : Hid ((if c = i + 1 then (some ⟨b0, off0, none⟩ : Option Addr) else some ⟨b0, off0 + (i + 1) * 2, none⟩) = none → f.length - (i + 1) = 0) := by
      intro h; split at h <;> cases h
    clear hrD
    go_region_held3 (fun w' => Ext w1 w') (exact (by repeat (first | exact Ext.refl _ | assumption | refine Ext.trans ?_ (Ext.alloc _ _) | refine Ext.trans ?_ (Ext.drew _) | refine Ext.trans ?_ (Ext.drewN _ _) | refine Ext.trans ?_ (by assumption)))) (first | (refine step_app _ w1 rfl (.tmp 22) (.tmp 25) 27 rfl 46 _ 2 24 Try.underlying27 infoS rfl (by omega) (.slice (some ⟨_, 0, none⟩) 0 0) 0 [] rfl (own_at (by (first | (simp only [hp_alloc, hp_drew, hp_drewN, Array.getElem?_push, Array.size_push]; simp; done) | (rw [hgA.block _ (by simp only [hp_alloc, hp_drew, hp_drewN, Array.size_push]; omega) (by simp [Value.ownBlock])]; (simp only [hp_alloc, hp_drew, hp_drewN, Array.getElem?_push, Array.size_push]; simp; done)))) (by omega)) (by first | assumption | exact hHeld) _ _ _ i _ ((f.take i).flatMap Srt.enc) rfl HT1.out (RdA.ext hrT (by first | assumption | exact hHeld)) HO1.out (by omega) (by simp) ?_; intro vA wA hownA hEA hgA hatA) | (refine step_app _ w1 rfl (.tmp 26) (.tmp 30) 27 rfl 46 _ 2 24 Try.underlying27 infoS rfl (by omega) vA (0 + i) ([] ++ (f.take i).flatMap Srt.enc) rfl hownA (by first | assumption | exact hHeld) _ _ _ (f.length - (i + 1)) _ ((f.drop (i + 1)).flatMap Srt.enc) rfl HT3.out (RdA.ext hrB (by first | assumption | exact hHeld)) HO3.out (by omega) HBN.out ?_; intro vC wC hownC hEC hgC hatC))
    all_goals
      clear j3 j4 j5 j6
      obtain ⟨A', c', rfl, hc', _⟩ := own_form hownC
      have hlen : ns.length = 0 + i + (f.length - (i + 1)) := by rw [HDL.out]; omega
      have hRC0 := Rd.of_own hownC
      rw [show [] ++ (f.take i).flatMap Srt.enc ++ (f.drop (i + 1)).flatMap Srt.enc = ns.flatMap Srt.enc by rw [HNS.out, del, List.flatMap_append]; simp] at hRC0
      have hRC : RdS wC w.heap.size wC.heap.size A' ns := Rd.wide hRC0 (by omega) (Nat.le_refl _) (Nat.le_refl _)
      rw [← hlen] at hc' ⊢
      clear hlen hRC0 hownC hgC hatC
      go_wp2_with fail
      all_goals
        go_ret2
        exact ⟨A', c', rfl, hc', hRC, hE1.trans hEC⟩
end Go.Proofs.Ytnkkpphjahpadaa
