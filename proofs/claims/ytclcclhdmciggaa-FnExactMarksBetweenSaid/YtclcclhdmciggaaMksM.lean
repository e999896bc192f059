/- The walks of the laws' marks over slices of Mark. (Printed by mkRec.py.) -/
import Derived.Test.YtclcclhdmciggaaMarkT
import Derived.Test.YtclcclhdmciggaaMkL
namespace Go.Proofs.Ytclcclhdmciggaa
open Go.RowKit
set_option linter.unusedVariables false
def mkvM (k : Int) (i : Nat) : Value := if i % 4 = 3 then .string (mtext (k + i)) else .int .i64 (k + i)
theorem mkvM_at0 {k a : Int} {i : Nat} (h : i % 4 = 0) (e : a = k + i) : mkvM k i = .int .i64 a := by subst e; exact if_neg (by omega)
theorem mkvM_at1 {k a : Int} {i : Nat} (h : i % 4 = 1) (e : a = k + i) : mkvM k i = .int .i64 a := by subst e; exact if_neg (by omega)
theorem mkvM_at2 {k a : Int} {i : Nat} (h : i % 4 = 2) (e : a = k + i) : mkvM k i = .int .i64 a := by subst e; exact if_neg (by omega)
theorem mkvM_at3 {k a : Int} {i : Nat} (h : i % 4 = 3) (e : a = k + i) : mkvM k i = .string (mtext a) := by subst e; exact if_pos h
def mksM (k : Int) (n : Nat) : List Value := (List.range (n * 4)).map (mkvM k)
theorem mksM_len (k : Int) (n : Nat) : (mksM k n).length = n * 4 := by simp [mksM]
theorem mksM_get {k : Int} {n i : Nat} {x : Value} (h : (mksM k n)[i]? = some x) : x = mkvM k i := by
  simp only [mksM, List.getElem?_map, Option.map_eq_some_iff] at h
  obtain ⟨a, ha, rfl⟩ := h
  have := (List.getElem?_eq_some_iff.1 ha).2
  simp at this
  subst this
  rfl
theorem mksM_of {k : Int} {n : Nat} {l : List Value} (hl : l.length = n * 4) (h : ∀ i : Nat, i < n * 4 → l[i]? = some (mkvM k i)) : l = mksM k n := by
  apply List.ext_getElem?
  intro i
  by_cases hi : i < n * 4
  · rw [h i hi]; simp [mksM, hi]
  · rw [List.getElem?_eq_none (by omega), List.getElem?_eq_none (by rw [mksM_len]; omega)]
theorem markMarkS_any (A : Option Addr) (c n : Nat) (xs : List Value) (k : Int) (lo hi : Nat) (w : World) (hx : xs.length = n * 4) (hl : n ≤ 1152921504606846) (hk0 : 1 ≤ k) (hk1 : k ≤ 1152921504606846976) (hr : Rd w lo hi A xs) :
    Calls Try.prog 19 #[.slice A n c, .int .i64 k] w fun e w' => e = .returned (.int .i64 (k + n * 4)) ∧ Rd w' lo hi A (mksM k n) ∧ Out lo hi w w' := by
  have HN := Lib.hid hx; clear hx
  go_enter Try.func19, Try.ntmps19
  go_wp2
  go_loopw [1, 5] (fun kk i wr => ∃ (j : Nat) (ls : List Value), j ≤ n ∧ i = .int .i64 j ∧ kk = .int .i64 (k + j * 4) ∧ ls.length = n * 4 ∧ (∀ i : Nat, i < j * 4 → ls[i]? = some (mkvM k i)) ∧ Rd wr lo hi A ls ∧ Out lo hi w wr) (fun _ i _ => n - (intOf i).toNat)
  case atStart => exact ⟨0, xs, Nat.zero_le _, rfl, by simp, HN.out, fun i hi => absurd hi (by omega), hr, Out.refl _ _ _⟩
  case round =>
    obtain ⟨j, ls, hj, rfl, rfl, hls, hm, hR, hO⟩ := hrel
    have HLS := Lib.hid hls
    have HM := Lib.hid hm; clear hm
    by_cases hlt : j < n
    · have hlt0 : 0 ≤ j := by omega
      obtain ⟨x0, b, off, HX0, rfl, h1, h2, h3, c0, f0⟩ := Rd.getV hR (k := j * 4) (by omega)
      obtain ⟨x1, b', off', HX1, eA, _, _, _, c1, f1⟩ := Rd.getV hR (k := j * 4 + 1) (by omega)
      injection eA with eA; injection eA with eb eo _; subst eb; subst eo
      obtain ⟨x2, b', off', HX2, eA, _, _, _, c2, f2⟩ := Rd.getV hR (k := j * 4 + 2) (by omega)
      injection eA with eA; injection eA with eb eo _; subst eb; subst eo
      obtain ⟨x3, b', off', HX3, eA, _, _, _, c3, f3⟩ := Rd.getV hR (k := j * 4 + 3) (by omega)
      injection eA with eA; injection eA with eb eo _; subst eb; subst eo
      clear hls
      rw [← Nat.add_assoc] at c1 f1 c2 f2 c3 f3
      go_wp2_with (go_at_call 34; refine (markText_any _ _ (by omega) (by omega)).mono ?_; rintro e w2 ⟨rfl, hE2⟩; obtain ⟨hc2, hf2⟩ := bcell hE2; have hs2 := hE2.size; (try simp only [World.size_alloc] at hs2))
      go_roundw
      case rel =>
        have r1 := (Rd.set_ (Rd.ext (Rd.set_ (Rd.set_ (Rd.set_ hR (j * 4) (.int .i64 (k + j * 4))) (j * 4 + 1) (.int .i64 (k + j * 4 + 1))) (j * 4 + 2) (.int .i64 (k + j * 4 + 1 + 1))) hE2) (j * 4 + 3) (.string (mtext (k + j * 4 + 1 + 1 + 1))))
        simp only [← Nat.add_assoc] at r1
        refine ⟨j + 1, ((((ls.set (j * 4) (.int .i64 (k + j * 4))).set (j * 4 + 1) (.int .i64 (k + j * 4 + 1))).set (j * 4 + 2) (.int .i64 (k + j * 4 + 1 + 1))).set (j * 4 + 3) (.string (mtext (k + j * 4 + 1 + 1 + 1)))), by omega, by go_num, val_int (by omega), by simp only [List.length_set]; exact HLS.out, fun i hi => ?_, r1, (Out.setCell (Out.trans (Out.setCell (Out.setCell (Out.setCell hO (.inl ⟨h1, h2⟩) _) (.inl ⟨h1, h2⟩) _) (.inl ⟨h1, h2⟩) _) (Out.of_ext hE2)) (.inl ⟨h1, h2⟩) _)⟩
        have hq := HLS.out
        simp only [List.getElem?_set, List.length_set]
        by_cases h4 : i < j * 4
        · rw [if_neg (by omega), if_neg (by omega), if_neg (by omega), if_neg (by omega)]; exact HM.out i h4
        · have : i = j * 4 ∨ i = j * 4 + 1 ∨ i = j * 4 + 2 ∨ i = j * 4 + 3 := by omega
          rcases this with rfl | rfl | rfl | rfl
          · rw [if_neg (by omega), if_neg (by omega), if_neg (by omega), if_pos rfl, if_pos (by omega)]; exact congrArg some (mkvM_at0 (by omega) (by omega)).symm
          · rw [if_neg (by omega), if_neg (by omega), if_pos rfl, if_pos (by omega)]; exact congrArg some (mkvM_at1 (by omega) (by omega)).symm
          · rw [if_neg (by omega), if_pos rfl, if_pos (by omega)]; exact congrArg some (mkvM_at2 (by omega) (by omega)).symm
          · rw [if_pos rfl, if_pos (by omega)]; exact congrArg some (mkvM_at3 (by omega) (by omega)).symm
      case measure => simp [intOf]; omega
    · have hjl : j = n := by omega
      subst hjl
      clear hls hlt
      go_wp2
      go_ret
      refine ⟨rfl, ?_, hO⟩
      rw [← mksM_of HLS.out HM.out]
      exact hR
theorem heldMarkS_any (A : Option Addr) (c n : Nat) (k : Int) (lo hi : Nat) (w : World) (hl : n ≤ 1152921504606846) (hk0 : 1 ≤ k) (hk1 : k ≤ 1152921504606846976) (hr : Rd w lo hi A (mksM k n)) :
    Calls Try.prog 20 #[.slice A n c, .int .i64 k] w fun e w' => e = .returned (.int .i64 (k + n * 4)) ∧ Ext w w' := by
  go_enter Try.func20, Try.ntmps20
  go_wp2
  go_loopw [1, 5] (fun kk i wr => ∃ j : Nat, j ≤ n ∧ i = .int .i64 j ∧ kk = .int .i64 (k + j * 4) ∧ Ext w wr) (fun _ i _ => n - (intOf i).toNat)
  case atStart => exact ⟨0, Nat.zero_le _, rfl, by simp, Ext.refl _⟩
  case round =>
    obtain ⟨j, hj, rfl, rfl, hE⟩ := hrel
    by_cases hlt : j < n
    · have hlt' : (j : Int) < n := by omega
      replace hr := hr.ext hE
      obtain ⟨y0, b, off, HX0, rfl, h1, h2, h3, c0, _⟩ := Rd.getV hr (k := j * 4) (by rw [mksM_len]; omega)
      obtain rfl := mksM_get HX0.out
      rw [mkvM_at0 (a := k + j * 4) (by omega) (by push_cast; omega)] at c0
      obtain ⟨y1, b', off', HX1, eA, _, _, _, c1, _⟩ := Rd.getV hr (k := j * 4 + 1) (by rw [mksM_len]; omega)
      injection eA with eA; injection eA with eb eo _; subst eb; subst eo
      obtain rfl := mksM_get HX1.out
      rw [mkvM_at1 (a := k + j * 4 + 1) (by omega) (by push_cast; omega)] at c1
      obtain ⟨y2, b', off', HX2, eA, _, _, _, c2, _⟩ := Rd.getV hr (k := j * 4 + 2) (by rw [mksM_len]; omega)
      injection eA with eA; injection eA with eb eo _; subst eb; subst eo
      obtain rfl := mksM_get HX2.out
      rw [mkvM_at2 (a := k + j * 4 + 1 + 1) (by omega) (by push_cast; omega)] at c2
      obtain ⟨y3, b', off', HX3, eA, _, _, _, c3, _⟩ := Rd.getV hr (k := j * 4 + 3) (by rw [mksM_len]; omega)
      injection eA with eA; injection eA with eb eo _; subst eb; subst eo
      obtain rfl := mksM_get HX3.out
      rw [mkvM_at3 (a := k + j * 4 + 1 + 1 + 1) (by omega) (by push_cast; omega)] at c3
      clear HX0 HX1 HX2 HX3
      rw [← Nat.add_assoc] at c1 c2 c3
      have e3 : ∀ y : XW wr, y.v.cell? ⟨b, off + j * 4 + 3, none⟩ = _ := fun y => y.h.cell c3
      have hmt := fun x : XW wr => markText_any (k + j * 4 + 1 + 1 + 1) x.v (by omega) (by omega)
      go_wp2_with fail
      refine wp_region_xw (w0 := wr) (by kernel_rfl) (by kernel_rfl) (by repeat (first | exact Ext.refl _ | assumption | refine Ext.trans ?_ (Ext.alloc _ _) | refine Ext.trans ?_ (Ext.drew _) | refine Ext.trans ?_ (Ext.drewN _ _) | refine Ext.trans ?_ (by assumption))) ?_; (repeat (go_big_quiet_step ((go_at_call 34; with_reducible exact XW.call (hmt _))))); refine wpQuiet_nil ?_; intro _ hw'; obtain ⟨⟨w1, hEw1⟩, hw''⟩ := hw'; subst hw''
      clear e3 hmt
      go_wp2
      go_roundw
      case rel => exact ⟨j + 1, by omega, by go_num, val_int (by omega), (by repeat (first | exact Ext.refl _ | assumption | refine Ext.trans ?_ (Ext.alloc _ _) | refine Ext.trans ?_ (Ext.drew _) | refine Ext.trans ?_ (Ext.drewN _ _) | refine Ext.trans ?_ (by assumption)))⟩
      case measure => simp [intOf]; omega
    · have hjl : j = n := by omega
      subst hjl
      clear hlt
      go_wp2
      go_ret
      exact ⟨rfl, hE⟩
end Go.Proofs.Ytclcclhdmciggaa
