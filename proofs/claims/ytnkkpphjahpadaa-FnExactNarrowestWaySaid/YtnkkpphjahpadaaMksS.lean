/- The walks of the laws' marks over slices of Sort. (Printed by mkRec.py.) -/
import Derived.Test.YtnkkpphjahpadaaMarkT
import Derived.Test.YtnkkpphjahpadaaRecS
namespace Go.Proofs.Ytnkkpphjahpadaa
open Go.RowKit
set_option linter.unusedVariables false
def mkvS (k : Int) (i : Nat) : Value := if i % 2 = 0 then .string (mtext (k + i)) else .int .i64 (k + i)
theorem mkvS_at0 {k a : Int} {i : Nat} (h : i % 2 = 0) (e : a = k + i) : mkvS k i = .string (mtext a) := by subst e; exact if_pos h
theorem mkvS_at1 {k a : Int} {i : Nat} (h : i % 2 = 1) (e : a = k + i) : mkvS k i = .int .i64 a := by subst e; exact if_neg (by omega)
def mksS (k : Int) (n : Nat) : List Value := (List.range (n * 2)).map (mkvS k)
theorem mksS_len (k : Int) (n : Nat) : (mksS k n).length = n * 2 := by simp [mksS]
theorem mksS_get {k : Int} {n i : Nat} {x : Value} (h : (mksS k n)[i]? = some x) : x = mkvS k i := by
  simp only [mksS, List.getElem?_map, Option.map_eq_some_iff] at h
  obtain ⟨a, ha, rfl⟩ := h
  have := (List.getElem?_eq_some_iff.1 ha).2
  simp at this
  subst this
  rfl
theorem mksS_of {k : Int} {n : Nat} {l : List Value} (hl : l.length = n * 2) (h : ∀ i : Nat, i < n * 2 → l[i]? = some (mkvS k i)) : l = mksS k n := by
  apply List.ext_getElem?
  intro i
  by_cases hi : i < n * 2
  · rw [h i hi]; simp [mksS, hi]
  · rw [List.getElem?_eq_none (by omega), List.getElem?_eq_none (by rw [mksS_len]; omega)]
theorem markSortS_any (A : Option Addr) (c n : Nat) (xs : List Value) (k : Int) (lo hi : Nat) (w : World) (hx : xs.length = n * 2) (hl : n ≤ 1152921504606846) (hk0 : 1 ≤ k) (hk1 : k ≤ 1152921504606846976) (hr : Rd w lo hi A xs) :
    Calls Try.prog 21 #[.slice A n c, .int .i64 k] w fun e w' => e = .returned (.int .i64 (k + n * 2)) ∧ Rd w' lo hi A (mksS k n) ∧ Out lo hi w w' := by
  have HN := Lib.hid hx; clear hx
  go_enter Try.func21, Try.ntmps21
  go_wp2
  go_loopw [1, 5] (fun kk i wr => ∃ (j : Nat) (ls : List Value), j ≤ n ∧ i = .int .i64 j ∧ kk = .int .i64 (k + j * 2) ∧ ls.length = n * 2 ∧ (∀ i : Nat, i < j * 2 → ls[i]? = some (mkvS k i)) ∧ Rd wr lo hi A ls ∧ Out lo hi w wr) (fun _ i _ => n - (intOf i).toNat)
  case atStart => exact ⟨0, xs, Nat.zero_le _, rfl, by simp, HN.out, fun i hi => absurd hi (by omega), hr, Out.refl _ _ _⟩
  case round =>
    obtain ⟨j, ls, hj, rfl, rfl, hls, hm, hR, hO⟩ := hrel
    have HLS := Lib.hid hls
    have HM := Lib.hid hm; clear hm
    by_cases hlt : j < n
    · have hlt0 : 0 ≤ j := by omega
      obtain ⟨x0, b, off, HX0, rfl, h1, h2, h3, c0, f0⟩ := Rd.getV hR (k := j * 2) (by omega)
      obtain ⟨x1, b', off', HX1, eA, _, _, _, c1, f1⟩ := Rd.getV hR (k := j * 2 + 1) (by omega)
      injection eA with eA; injection eA with eb eo _; subst eb; subst eo
      clear hls
      rw [← Nat.add_assoc] at c1 f1
      go_wp2_with (go_at_call 64; refine (markText_any _ _ (by omega) (by omega)).mono ?_; rintro e w2 ⟨rfl, hE2⟩; obtain ⟨hc2, hf2⟩ := bcell hE2; have hs2 := hE2.size; (try simp only [World.size_alloc] at hs2))
      go_roundw
      case rel =>
        have r1 := (Rd.set_ (Rd.set_ (Rd.ext hR hE2) (j * 2) (.string (mtext (k + j * 2)))) (j * 2 + 1) (.int .i64 (k + j * 2 + 1)))
        simp only [← Nat.add_assoc] at r1
        refine ⟨j + 1, ((ls.set (j * 2) (.string (mtext (k + j * 2)))).set (j * 2 + 1) (.int .i64 (k + j * 2 + 1))), by omega, by go_num, val_int (by omega), by simp only [List.length_set]; exact HLS.out, fun i hi => ?_, r1, (Out.setCell (Out.setCell (Out.trans hO (Out.of_ext hE2)) (.inl ⟨h1, h2⟩) _) (.inl ⟨h1, h2⟩) _)⟩
        have hq := HLS.out
        simp only [List.getElem?_set, List.length_set]
        by_cases h4 : i < j * 2
        · rw [if_neg (by omega), if_neg (by omega)]; exact HM.out i h4
        · have : i = j * 2 ∨ i = j * 2 + 1 := by omega
          rcases this with rfl | rfl
          · rw [if_neg (by omega), if_pos rfl, if_pos (by omega)]; exact congrArg some (mkvS_at0 (by omega) (by omega)).symm
          · rw [if_pos rfl, if_pos (by omega)]; exact congrArg some (mkvS_at1 (by omega) (by omega)).symm
      case measure => simp [intOf]; omega
    · have hjl : j = n := by omega
      subst hjl
      clear hls hlt
      go_wp2
      go_ret
      refine ⟨rfl, ?_, hO⟩
      rw [← mksS_of HLS.out HM.out]
      exact hR
theorem heldSortS_any (A : Option Addr) (c n : Nat) (k : Int) (lo hi : Nat) (w : World) (hl : n ≤ 1152921504606846) (hk0 : 1 ≤ k) (hk1 : k ≤ 1152921504606846976) (hr : Rd w lo hi A (mksS k n)) :
    Calls Try.prog 35 #[.slice A n c, .int .i64 k] w fun e w' => e = .returned (.int .i64 (k + n * 2)) ∧ Ext w w' := by
  go_enter Try.func35, Try.ntmps35
  go_wp2
  go_loopw [1, 5] (fun kk i wr => ∃ j : Nat, j ≤ n ∧ i = .int .i64 j ∧ kk = .int .i64 (k + j * 2) ∧ Ext w wr) (fun _ i _ => n - (intOf i).toNat)
  case atStart => exact ⟨0, Nat.zero_le _, rfl, by simp, Ext.refl _⟩
  case round =>
    obtain ⟨j, hj, rfl, rfl, hE⟩ := hrel
    by_cases hlt : j < n
    · have hlt' : (j : Int) < n := by omega
      replace hr := hr.ext hE
      obtain ⟨y0, b, off, HX0, rfl, h1, h2, h3, c0, _⟩ := Rd.getV hr (k := j * 2) (by rw [mksS_len]; omega)
      obtain rfl := mksS_get HX0.out
      rw [mkvS_at0 (a := k + j * 2) (by omega) (by push_cast; omega)] at c0
      obtain ⟨y1, b', off', HX1, eA, _, _, _, c1, _⟩ := Rd.getV hr (k := j * 2 + 1) (by rw [mksS_len]; omega)
      injection eA with eA; injection eA with eb eo _; subst eb; subst eo
      obtain rfl := mksS_get HX1.out
      rw [mkvS_at1 (a := k + j * 2 + 1) (by omega) (by push_cast; omega)] at c1
      clear HX0 HX1
      rw [← Nat.add_assoc] at c1
      have e0 : ∀ y : XW wr, y.v.cell? ⟨b, off + j * 2, none⟩ = _ := fun y => y.h.cell c0
      have hmt := fun x : XW wr => markText_any (k + j * 2) x.v (by omega) (by omega)
      go_wp2_with fail
      refine wp_region_xw (w0 := wr) (by kernel_rfl) (by kernel_rfl) (by repeat (first | exact Ext.refl _ | assumption | refine Ext.trans ?_ (Ext.alloc _ _) | refine Ext.trans ?_ (Ext.drew _) | refine Ext.trans ?_ (Ext.drewN _ _) | refine Ext.trans ?_ (by assumption))) ?_; (repeat (go_big_quiet_step ((go_at_call 64; with_reducible exact XW.call (hmt _))))); refine wpQuiet_nil ?_; intro w1 hw'; obtain ⟨⟨_, hEw1⟩, hw''⟩ := hw'; subst hw''
      clear e0 hmt
      replace c1 := hEw1.cell c1
      go_wp2
      go_roundw
      case rel => exact ⟨j + 1, by omega, by go_num, val_int (by omega), (by repeat (first | exact Ext.refl _ | assumption | refine Ext.trans ?_ (Ext.alloc _ _) | refine Ext.trans ?_ (Ext.drew _) | refine Ext.trans ?_ (Ext.drewN _ _) | refine Ext.trans ?_ (by assumption)))⟩
      case measure => simp [intOf]; omega
    · have hjl : j = n := by omega
      subst hjl
      clear hlt
      go_wp2
      go_ret
      exact ⟨rfl, hE⟩
end Go.Proofs.Ytnkkpphjahpadaa
