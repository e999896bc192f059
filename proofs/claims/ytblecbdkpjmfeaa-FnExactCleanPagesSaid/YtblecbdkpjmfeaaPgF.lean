/- The walks of WidowsOf and OrphansOf. -/
import Derived.Test.YtblecbdkpjmfeaaPgE
namespace Go.Proofs.Ytblecbdkpjmfeaa
open Go.RowKit
theorem widP_bad {l : List SetL} {ends : List Int} (h : areE l ends = false) : widP l ends = ([], false) := by simp only [widP, h]; rfl
theorem widP_good {l : List SetL} {ends : List Int} (h : areE l ends = true) : widP l ends = (widTo l ends (ends.length - 1), true) := by simp only [widP, h]; rfl
theorem orpP_bad {l : List SetL} {ends : List Int} (h : areE l ends = false) : orpP l ends = ([], false) := by simp only [orpP, h]; rfl
theorem orpP_good {l : List SetL} {ends : List Int} (h : areE l ends = true) : orpP l ends = (orpTo l ends (ends.length - 1), true) := by simp only [orpP, h]; rfl
theorem areE_le {l : List SetL} {ends : List Int} (h : areE l ends = true) {k : Nat} {x : Int} (hx : ends[k]? = some x) : ∃ X : Nat, x = X ∧ 1 ≤ X ∧ X ≤ l.length := by
  obtain ⟨_, _, h3, _, _, _⟩ := areE_parts h
  have := (rise_at h3 hx).1
  exact ⟨x.toNat, by omega, by omega, by omega⟩
theorem areE_mid {l : List SetL} {ends : List Int} (h : areE l ends = true) {k : Nat} (hk : k + 1 < ends.length) {x : Int} (hx : ends[k]? = some x) : ∃ X : Nat, x = X ∧ 1 ≤ X ∧ X < l.length := by
  obtain ⟨_, h2, h3, h4, _, _⟩ := areE_parts h
  have h5 := (rise_at h3 hx).1
  have := rise_lt h3 (ends.length - 1 - k) k x _ hx (by rw [show k + (ends.length - 1 - k) = ends.length - 1 by omega]; exact h4)
  exact ⟨x.toNat, by omega, by omega, by omega⟩
theorem impl_WidowsOf (A B : Option Addr) (c d : Nat) (l : List SetL) (ends : List Int) (lo hi lo' hi' : Nat) (w : World) (hl : l.length ≤ 1048577) (hl' : ends.length ≤ 1048577) (hq : InRS l) (hr : RdS w lo hi A l) (hr' : RdI w lo' hi' B ends) :
    Calls Try.prog 27 #[.slice A l.length c, .slice B ends.length d] w (RetI2 w (widP l ends)) := by
  cases h : areE l ends
  · rw [widP_bad h]
    go_enter Try.func27, Try.ntmps27
    go_wp2_with (go_at_call 48; refine (impl_areEnds A B c d l ends lo hi lo' hi' _ hl hl' hq hr hr').mono ?_; rintro e w1 ⟨rfl, hE1⟩; obtain ⟨hc1, hf1⟩ := bcell hE1; have hs1 := hE1.size; (try simp only [World.size_alloc] at hs1))
    go_ret2
    exact retI2_lit (by repeat (first | exact Ext.refl _ | assumption | refine Ext.trans ?_ (Ext.alloc _ _) | refine Ext.trans ?_ (Ext.drew _) | refine Ext.trans ?_ (Ext.drewN _ _) | refine Ext.trans ?_ (by assumption)))
  rw [widP_good h]
  obtain ⟨_, hn0, _, _, hl40, he40⟩ := areE_parts h
  go_enter Try.func27, Try.ntmps27
  go_wp2_with (go_at_call 48; refine (impl_areEnds A B c d l ends lo hi lo' hi' _ hl hl' hq hr hr').mono ?_; rintro e w1 ⟨rfl, hE1⟩; obtain ⟨hc1, hf1⟩ := bcell hE1; have hs1 := hE1.size; (try simp only [World.size_alloc] at hs1))
  have H := Lib.hid h; clear h hc1 hf1
  go_loopw [6, 7] (fun v i wr => ∃ (k n : Nat) (E : List Int), k + 1 ≤ ends.length ∧ i = .int .i64 (k + 1) ∧ widTo l ends k = E ∧ E.length = n ∧ n ≤ k ∧ wr.ownsRow w.heap.size 3 1 v n (E.map (Value.int .i64)) ∧ Ext w wr) (fun _ i _ => ends.length - (intOf i).toNat)
  case atStart => exact ⟨0, 0, [], by omega, rfl, rfl, rfl, Nat.le_refl _, own_lit0 _ _ hs1 (Ext.refl _), (by repeat (first | exact Ext.refl _ | assumption | refine Ext.trans ?_ (Ext.alloc _ _) | refine Ext.trans ?_ (Ext.drew _) | refine Ext.trans ?_ (Ext.drewN _ _) | refine Ext.trans ?_ (by assumption)))⟩
  case round =>
    obtain ⟨k, n, E, hk, rfl, hE1', hn, hnk, hown, hE⟩ := hrel
    have HF := Lib.hid hE1'; clear hE1'
    have HN := Lib.hid hn; clear hn
    by_cases hlt : k + 1 < ends.length
    · obtain ⟨x, b, off, HX, rfl, _, _, h3, c0, _⟩ := RdI.get (hr'.ext hE) (k := k) (by omega)
      obtain ⟨X, hX, hx1, hx2⟩ := areE_mid H.out hlt HX.out
      subst hX
      have hat : endAt ends k = X := by rw [endAt_at HX.out]; rfl
      have HAT := Lib.hid hat; clear hat
      cases t : widow l X
      · have HS : Hid (widTo l ends (k + 1) = E) := by show _ = _; rw [widTo, HAT.out, HF.out]; rw [t]; simp
        go_wp2_with (go_at_call 51; refine (impl_isWidow A c l X lo hi _ hl hx2 (hr.ext hE)).mono ?_; rintro e w2 ⟨rfl, hE2⟩; obtain ⟨hc2, hf2⟩ := bcell hE2; have hs2 := hE2.size; (try simp only [World.size_alloc] at hs2))
        go_roundw
        case rel => exact ⟨k + 1, n, E, by omega, by go_num, HS.out, HN.out, by omega, ownsRow_ext hown hE2, (by repeat (first | exact Ext.refl _ | assumption | refine Ext.trans ?_ (Ext.alloc _ _) | refine Ext.trans ?_ (Ext.drew _) | refine Ext.trans ?_ (Ext.drewN _ _) | refine Ext.trans ?_ (by assumption)))⟩
        case measure => simp [intOf]; omega
      · have HS : Hid (widTo l ends (k + 1) = E ++ [(k : Int) + 1]) := by show _ = _; rw [widTo, HAT.out, HF.out]; rw [t]; simp
        go_wp2_with (first | (go_at_call 51; refine (impl_isWidow A c l X lo hi _ hl hx2 (hr.ext hE)).mono ?_; rintro e w2 ⟨rfl, hE2⟩; obtain ⟨hc2, hf2⟩ := bcell hE2; have hs2 := hE2.size; (try simp only [World.size_alloc] at hs2)) | (at_builtin; refine wp_app _ w rfl (.tmp 27) (.tmp 29) 32 rfl 3 _ 1 8 Try.underlying32 intInfo rfl (by omega) _ n _ rfl (ownsRow_ext hown (hE2.trans (Ext.alloc _ _))) (hE.trans (hE2.trans (Ext.alloc _ _))) _ _ _ 1 1 [.int .i64 (k + 1)] rfl rfl (rdA_new rfl (Ext.refl _)) (by simp [Value.oneCell']) (by omega) (by simp) ?_; intro v3 w3 hown3 hE3 hg3 hat3))
        go_roundw
        case rel => exact ⟨k + 1, n + 1, E ++ [(k : Int) + 1], by omega, by go_num, HS.out, by rw [List.length_append, HN.out]; rfl, by omega, by rw [List.map_append]; exact hown3, hE3⟩
        case measure => simp [intOf]; omega
    · have hkl : ends.length - 1 = k := by omega
      have HKL := Lib.hid hkl; clear hkl
      obtain ⟨A', c', rfl, hc', _⟩ := own_form hown
      go_wp2
      go_ret2
      exact ⟨A', c', by simp only [HKL.out, HF.out, HN.out]; rfl, by simp only [HKL.out, HF.out, HN.out]; exact hc', by simp only [HKL.out, HF.out]; exact Rd.of_own hown, hE⟩
theorem spec_WidowsOf (A B : Option Addr) (c d : Nat) (l : List SetL) (ends : List Int) (lo hi lo' hi' : Nat) (w : World) (hl : l.length ≤ 1048577) (hl' : ends.length ≤ 1048577) (hq : InRS l) (hr : RdS w lo hi A l) (hr' : RdI w lo' hi' B ends) :
    Calls Try.prog 26 #[.slice A l.length c, .slice B ends.length d] w (RetI2 w (widP l ends)) := by
  cases h : areE l ends
  · rw [widP_bad h]
    go_enter Try.func26, Try.ntmps26
    go_wp2_with (go_at_call 46; refine (spec_pgEnds A B c d l ends lo hi lo' hi' _ hl hl' hr hr').mono ?_; rintro e w1 ⟨rfl, hE1⟩; obtain ⟨hc1, hf1⟩ := bcell hE1; have hs1 := hE1.size; (try simp only [World.size_alloc] at hs1))
    go_ret2
    exact retI2_lit (by repeat (first | exact Ext.refl _ | assumption | refine Ext.trans ?_ (Ext.alloc _ _) | refine Ext.trans ?_ (Ext.drew _) | refine Ext.trans ?_ (Ext.drewN _ _) | refine Ext.trans ?_ (by assumption)))
  rw [widP_good h]
  obtain ⟨_, hn0, _, _, hl40, he40⟩ := areE_parts h
  go_enter Try.func26, Try.ntmps26
  go_wp2_with (go_at_call 46; refine (spec_pgEnds A B c d l ends lo hi lo' hi' _ hl hl' hr hr').mono ?_; rintro e w1 ⟨rfl, hE1⟩; obtain ⟨hc1, hf1⟩ := bcell hE1; have hs1 := hE1.size; (try simp only [World.size_alloc] at hs1))
  have H := Lib.hid h; clear h hc1 hf1
  go_loopw [6, 7] (fun v i wr => ∃ (k n : Nat) (E : List Int), k + 1 ≤ ends.length ∧ i = .int .i64 (k + 1) ∧ widTo l ends k = E ∧ E.length = n ∧ n ≤ k ∧ wr.ownsRow w.heap.size 3 1 v n (E.map (Value.int .i64)) ∧ Ext w wr) (fun _ i _ => ends.length - (intOf i).toNat)
  case atStart => exact ⟨0, 0, [], by omega, rfl, rfl, rfl, Nat.le_refl _, own_nil _ _ _ _, (by repeat (first | exact Ext.refl _ | assumption | refine Ext.trans ?_ (Ext.alloc _ _) | refine Ext.trans ?_ (Ext.drew _) | refine Ext.trans ?_ (Ext.drewN _ _) | refine Ext.trans ?_ (by assumption)))⟩
  case round =>
    obtain ⟨k, n, E, hk, rfl, hE1', hn, hnk, hown, hE⟩ := hrel
    have HF := Lib.hid hE1'; clear hE1'
    have HN := Lib.hid hn; clear hn
    by_cases hlt : k + 1 < ends.length
    · obtain ⟨x, b, off, HX, rfl, _, _, h3, c0, _⟩ := RdI.get (hr'.ext hE) (k := k) (by omega)
      obtain ⟨X, hX, hx1, hx2⟩ := areE_mid H.out hlt HX.out
      subst hX
      have hat : endAt ends k = X := by rw [endAt_at HX.out]; rfl
      have HAT := Lib.hid hat; clear hat
      cases t : pgL l X
      · have HS : Hid (widTo l ends (k + 1) = E) := by show _ = _; rw [widTo, HAT.out, HF.out]; rw [widow_pgL]; rw [t]; simp
        go_wp2_with (go_at_call 50; refine (spec_pgLast A c l X lo hi _ hl hx2 (hr.ext hE)).mono ?_; rintro e w2 ⟨rfl, hE2⟩; obtain ⟨hc2, hf2⟩ := bcell hE2; have hs2 := hE2.size; (try simp only [World.size_alloc] at hs2))
        go_roundw
        case rel => exact ⟨k + 1, n, E, by omega, by go_num, HS.out, HN.out, by omega, ownsRow_ext hown hE2, (by repeat (first | exact Ext.refl _ | assumption | refine Ext.trans ?_ (Ext.alloc _ _) | refine Ext.trans ?_ (Ext.drew _) | refine Ext.trans ?_ (Ext.drewN _ _) | refine Ext.trans ?_ (by assumption)))⟩
        case measure => simp [intOf]; omega
      · have HS : Hid (widTo l ends (k + 1) = E ++ [(k : Int) + 1]) := by show _ = _; rw [widTo, HAT.out, HF.out]; rw [widow_pgL]; rw [t]; simp
        go_wp2_with (first | (go_at_call 50; refine (spec_pgLast A c l X lo hi _ hl hx2 (hr.ext hE)).mono ?_; rintro e w2 ⟨rfl, hE2⟩; obtain ⟨hc2, hf2⟩ := bcell hE2; have hs2 := hE2.size; (try simp only [World.size_alloc] at hs2)) | (at_builtin; refine wp_app _ w rfl (.tmp 25) (.tmp 27) 32 rfl 3 _ 1 8 Try.underlying32 intInfo rfl (by omega) _ n _ rfl (ownsRow_ext hown (hE2.trans (Ext.alloc _ _))) (hE.trans (hE2.trans (Ext.alloc _ _))) _ _ _ 1 1 [.int .i64 (k + 1)] rfl rfl (rdA_new rfl (Ext.refl _)) (by simp [Value.oneCell']) (by omega) (by simp) ?_; intro v3 w3 hown3 hE3 hg3 hat3))
        go_roundw
        case rel => exact ⟨k + 1, n + 1, E ++ [(k : Int) + 1], by omega, by go_num, HS.out, by rw [List.length_append, HN.out]; rfl, by omega, by rw [List.map_append]; exact hown3, hE3⟩
        case measure => simp [intOf]; omega
    · have hkl : ends.length - 1 = k := by omega
      have HKL := Lib.hid hkl; clear hkl
      obtain ⟨A', c', rfl, hc', _⟩ := own_form hown
      go_wp2
      go_ret2
      exact ⟨A', c', by simp only [HKL.out, HF.out, HN.out]; rfl, by simp only [HKL.out, HF.out, HN.out]; exact hc', by simp only [HKL.out, HF.out]; exact Rd.of_own hown, hE⟩
theorem impl_OrphansOf (A B : Option Addr) (c d : Nat) (l : List SetL) (ends : List Int) (lo hi lo' hi' : Nat) (w : World) (hl : l.length ≤ 1048577) (hl' : ends.length ≤ 1048577) (hq : InRS l) (hr : RdS w lo hi A l) (hr' : RdI w lo' hi' B ends) :
    Calls Try.prog 21 #[.slice A l.length c, .slice B ends.length d] w (RetI2 w (orpP l ends)) := by
  cases h : areE l ends
  · rw [orpP_bad h]
    go_enter Try.func21, Try.ntmps21
    go_wp2_with (go_at_call 48; refine (impl_areEnds A B c d l ends lo hi lo' hi' _ hl hl' hq hr hr').mono ?_; rintro e w1 ⟨rfl, hE1⟩; obtain ⟨hc1, hf1⟩ := bcell hE1; have hs1 := hE1.size; (try simp only [World.size_alloc] at hs1))
    go_ret2
    exact retI2_lit (by repeat (first | exact Ext.refl _ | assumption | refine Ext.trans ?_ (Ext.alloc _ _) | refine Ext.trans ?_ (Ext.drew _) | refine Ext.trans ?_ (Ext.drewN _ _) | refine Ext.trans ?_ (by assumption)))
  rw [orpP_good h]
  obtain ⟨_, hn0, _, _, hl40, he40⟩ := areE_parts h
  rw [← orp_last h]
  go_enter Try.func21, Try.ntmps21
  go_wp2_with (go_at_call 48; refine (impl_areEnds A B c d l ends lo hi lo' hi' _ hl hl' hq hr hr').mono ?_; rintro e w1 ⟨rfl, hE1⟩; obtain ⟨hc1, hf1⟩ := bcell hE1; have hs1 := hE1.size; (try simp only [World.size_alloc] at hs1))
  have H := Lib.hid h; clear h hc1 hf1
  go_loopw [6, 17] (fun v i wr => ∃ (k n : Nat) (E : List Int), k ≤ ends.length ∧ i = .int .i64 k ∧ orpTo l ends k = E ∧ E.length = n ∧ n ≤ k ∧ wr.ownsRow w.heap.size 3 1 v n (E.map (Value.int .i64)) ∧ Ext w wr) (fun _ i _ => ends.length - (intOf i).toNat)
  case atStart => exact ⟨0, 0, [], by omega, rfl, rfl, rfl, Nat.le_refl _, own_lit0 _ _ hs1 (Ext.refl _), (by repeat (first | exact Ext.refl _ | assumption | refine Ext.trans ?_ (Ext.alloc _ _) | refine Ext.trans ?_ (Ext.drew _) | refine Ext.trans ?_ (Ext.drewN _ _) | refine Ext.trans ?_ (by assumption)))⟩
  case round =>
    obtain ⟨k, n, E, hk, rfl, hE1', hn, hnk, hown, hE⟩ := hrel
    have HF := Lib.hid hE1'; clear hE1'
    have HN := Lib.hid hn; clear hn
    by_cases hlt : k < ends.length
    · obtain ⟨x, b, off, HX, rfl, _, _, h3, c0, _⟩ := RdI.get (hr'.ext hE) (k := k) (by omega)
      obtain ⟨X, hX, hx1, hx2⟩ := areE_le H.out HX.out
      subst hX
      have hat : endAt ends k = X := by rw [endAt_at HX.out]; rfl
      have HAT := Lib.hid hat; clear hat
      cases t : orphan l X
      · have HS : Hid (orpTo l ends (k + 1) = E) := by show _ = _; rw [orpTo, HAT.out, HF.out, t]; simp
        go_wp2_with (go_at_call 49; refine (impl_isOrphan A c l X lo hi _ hl hx1 hx2 (hr.ext hE)).mono ?_; rintro e w2 ⟨rfl, hE2⟩; obtain ⟨hc2, hf2⟩ := bcell hE2; have hs2 := hE2.size; (try simp only [World.size_alloc] at hs2))
        go_roundw
        case rel => exact ⟨k + 1, n, E, by omega, by go_num, HS.out, HN.out, by omega, ownsRow_ext hown hE2, (by repeat (first | exact Ext.refl _ | assumption | refine Ext.trans ?_ (Ext.alloc _ _) | refine Ext.trans ?_ (Ext.drew _) | refine Ext.trans ?_ (Ext.drewN _ _) | refine Ext.trans ?_ (by assumption)))⟩
        case measure => simp [intOf]; omega
      · have HS : Hid (orpTo l ends (k + 1) = E ++ [(k : Int)]) := by show _ = _; rw [orpTo, HAT.out, HF.out, t]; simp
        go_wp2_with (first | (go_at_call 49; refine (impl_isOrphan A c l X lo hi _ hl hx1 hx2 (hr.ext hE)).mono ?_; rintro e w2 ⟨rfl, hE2⟩; obtain ⟨hc2, hf2⟩ := bcell hE2; have hs2 := hE2.size; (try simp only [World.size_alloc] at hs2)) | (at_builtin; refine wp_app _ w rfl (.tmp 25) (.tmp 27) 32 rfl 3 _ 1 8 Try.underlying32 intInfo rfl (by omega) _ n _ rfl (ownsRow_ext hown (hE2.trans (Ext.alloc _ _))) (hE.trans (hE2.trans (Ext.alloc _ _))) _ _ _ 1 1 [.int .i64 k] rfl rfl (rdA_new rfl (Ext.refl _)) (by simp [Value.oneCell']) (by omega) (by simp) ?_; intro v3 w3 hown3 hE3 hg3 hat3))
        go_roundw
        case rel => exact ⟨k + 1, n + 1, E ++ [(k : Int)], by omega, by go_num, HS.out, by rw [List.length_append, HN.out]; rfl, by omega, by rw [List.map_append]; exact hown3, hE3⟩
        case measure => simp [intOf]; omega
    · have hkl : ends.length = k := by omega
      have HKL := Lib.hid hkl; clear hkl
      obtain ⟨A', c', rfl, hc', _⟩ := own_form hown
      go_wp2
      go_ret2
      exact ⟨A', c', by simp only [HKL.out, HF.out, HN.out]; rfl, by simp only [HKL.out, HF.out, HN.out]; exact hc', by simp only [HKL.out, HF.out]; exact Rd.of_own hown, hE⟩
theorem spec_OrphansOf (A B : Option Addr) (c d : Nat) (l : List SetL) (ends : List Int) (lo hi lo' hi' : Nat) (w : World) (hl : l.length ≤ 1048577) (hl' : ends.length ≤ 1048577) (hq : InRS l) (hr : RdS w lo hi A l) (hr' : RdI w lo' hi' B ends) :
    Calls Try.prog 19 #[.slice A l.length c, .slice B ends.length d] w (RetI2 w (orpP l ends)) := by
  cases h : areE l ends
  · rw [orpP_bad h]
    go_enter Try.func19, Try.ntmps19
    go_wp2_with (go_at_call 46; refine (spec_pgEnds A B c d l ends lo hi lo' hi' _ hl hl' hr hr').mono ?_; rintro e w1 ⟨rfl, hE1⟩; obtain ⟨hc1, hf1⟩ := bcell hE1; have hs1 := hE1.size; (try simp only [World.size_alloc] at hs1))
    go_ret2
    exact retI2_lit (by repeat (first | exact Ext.refl _ | assumption | refine Ext.trans ?_ (Ext.alloc _ _) | refine Ext.trans ?_ (Ext.drew _) | refine Ext.trans ?_ (Ext.drewN _ _) | refine Ext.trans ?_ (by assumption)))
  rw [orpP_good h]
  obtain ⟨_, hn0, _, _, hl40, he40⟩ := areE_parts h
  
  go_enter Try.func19, Try.ntmps19
  go_wp2_with (go_at_call 46; refine (spec_pgEnds A B c d l ends lo hi lo' hi' _ hl hl' hr hr').mono ?_; rintro e w1 ⟨rfl, hE1⟩; obtain ⟨hc1, hf1⟩ := bcell hE1; have hs1 := hE1.size; (try simp only [World.size_alloc] at hs1))
  have H := Lib.hid h; clear h hc1 hf1
  go_loopw [6, 7] (fun v i wr => ∃ (k n : Nat) (E : List Int), k ≤ ends.length - 1 ∧ i = .int .i64 k ∧ orpTo l ends k = E ∧ E.length = n ∧ n ≤ k ∧ wr.ownsRow w.heap.size 3 1 v n (E.map (Value.int .i64)) ∧ Ext w wr) (fun _ i _ => ends.length - (intOf i).toNat)
  case atStart => exact ⟨0, 0, [], by omega, rfl, rfl, rfl, Nat.le_refl _, own_nil _ _ _ _, (by repeat (first | exact Ext.refl _ | assumption | refine Ext.trans ?_ (Ext.alloc _ _) | refine Ext.trans ?_ (Ext.drew _) | refine Ext.trans ?_ (Ext.drewN _ _) | refine Ext.trans ?_ (by assumption)))⟩
  case round =>
    obtain ⟨k, n, E, hk, rfl, hE1', hn, hnk, hown, hE⟩ := hrel
    have HF := Lib.hid hE1'; clear hE1'
    have HN := Lib.hid hn; clear hn
    by_cases hlt : k < ends.length - 1
    · obtain ⟨x, b, off, HX, rfl, _, _, h3, c0, _⟩ := RdI.get (hr'.ext hE) (k := k) (by omega)
      obtain ⟨X, hX, hx1, hx2⟩ := areE_mid H.out (k := k) (by omega) HX.out
      subst hX
      have hat : endAt ends k = X := by rw [endAt_at HX.out]; rfl
      have HAT := Lib.hid hat; clear hat
      have hc : ((X : Int) - 1) = ((X - 1 : Nat) : Int) := by omega
      have HC := Lib.hid hc; clear hc
      cases t : pgF l (X - 1)
      · have HS : Hid (orpTo l ends (k + 1) = E) := by show _ = _; rw [orpTo, HAT.out, HF.out, orphan_pgF hx2, t]; simp
        go_wp2_with fail
        rw [HC.out]
        refine (spec_pgFirst A c l (X - 1) lo hi _ hl (by omega) (hr.ext hE)).mono ?_
        rintro e w2 ⟨rfl, hE2⟩
        go_wp2_with fail
        go_roundw
        case rel => exact ⟨k + 1, n, E, by omega, by go_num, HS.out, HN.out, by omega, ownsRow_ext hown hE2, (by repeat (first | exact Ext.refl _ | assumption | refine Ext.trans ?_ (Ext.alloc _ _) | refine Ext.trans ?_ (Ext.drew _) | refine Ext.trans ?_ (Ext.drewN _ _) | refine Ext.trans ?_ (by assumption)))⟩
        case measure => simp [intOf]; omega
      · have HS : Hid (orpTo l ends (k + 1) = E ++ [(k : Int)]) := by show _ = _; rw [orpTo, HAT.out, HF.out, orphan_pgF hx2, t]; simp
        go_wp2_with fail
        rw [HC.out]
        refine (spec_pgFirst A c l (X - 1) lo hi _ hl (by omega) (hr.ext hE)).mono ?_
        rintro e w2 ⟨rfl, hE2⟩
        go_wp2_with (first | (at_builtin; refine wp_app _ w rfl (.tmp 26) (.tmp 28) 32 rfl 3 _ 1 8 Try.underlying32 intInfo rfl (by omega) _ n _ rfl (ownsRow_ext hown (hE2.trans (Ext.alloc _ _))) (hE.trans (hE2.trans (Ext.alloc _ _))) _ _ _ 1 1 [.int .i64 k] rfl rfl (rdA_new rfl (Ext.refl _)) (by simp [Value.oneCell']) (by omega) (by simp) ?_; intro v3 w3 hown3 hE3 hg3 hat3))
        go_roundw
        case rel => exact ⟨k + 1, n + 1, E ++ [(k : Int)], by omega, by go_num, HS.out, by rw [List.length_append, HN.out]; rfl, by omega, by rw [List.map_append]; exact hown3, hE3⟩
        case measure => simp [intOf]; omega
    · have hkl : ends.length - 1 = k := by omega
      have HKL := Lib.hid hkl; clear hkl
      obtain ⟨A', c', rfl, hc', _⟩ := own_form hown
      go_wp2
      go_ret2
      exact ⟨A', c', by simp only [HKL.out, HF.out, HN.out]; rfl, by simp only [HKL.out, HF.out, HN.out]; exact hc', by simp only [HKL.out, HF.out]; exact Rd.of_own hown, hE⟩
end Go.Proofs.Ytblecbdkpjmfeaa
