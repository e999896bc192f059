/- The walks of plJoin, savedBy, plSaved, SavedBy, BestJoin. -/
import Derived.Test.YtnhddepmhelgiaaPaH
namespace Go.Proofs.Ytnhddepmhelgiaa
open Go.RowKit
set_option linter.unusedVariables false
theorem RdAA.parts {w : World} {n : Nat} {A : Option Addr} {ls : List (List Int)} (h : RdAA w n A ls) : ∃ rs : List Row, rs.length = ls.length ∧ RdA w 0 n A (List.zipWith Row.val rs ls) ∧ Hid (∀ (i : Nat) r l, rs[i]? = some r → ls[i]? = some l → RdA w 0 n r.A (l.map (Value.int .i64))) := h
theorem spec_plJoin (A : Option Addr) (c m : Nat) (ls : List (List Int)) (i : Nat) (n : Nat) (w : World) (hm : ls.length = m) (hl : m ≤ 1048577) (hb : ∀ l ∈ ls, l.length ≤ 1048577) (hcap : m ≤ c) (hi : i + 1 < m) (he : (rowAt ls i).length = (rowAt ls (i + 1)).length) (hf : Fit 1000000 ls) (hr : RdAA w n A ls) :
    Calls Try.prog 65 #[.slice A m c, .int .i64 i] w (RetAA w (joinL ls i)) := by
  subst hm
  obtain ⟨B1, c1, a, b, off, HX1, rfl, h3, d1, hR1⟩ := RdAA.get hr (k := i) (by omega)
  obtain ⟨B2, c2, a2, b', off', HX2, eA, _, d2, hR2⟩ := RdAA.get hr hi
  injection eA with eA; injection eA with eb eo _; subst eb; subst eo
  have ea : rowAt ls i = a := rowAt_of HX1.out
  have ea2 : rowAt ls (i + 1) = a2 := rowAt_of HX2.out
  rw [ea, ea2] at he
  have fa := hf a (List.mem_of_getElem? HX1.out)
  have fa2 := hf a2 (List.mem_of_getElem? HX2.out)
  have hla := hb a (List.mem_of_getElem? HX1.out)
  obtain ⟨rs, hrl, hout, HRS⟩ := hr.parts
  have he1 : a.length ≤ a2.length := by omega
  have HE := Lib.hid he
  have EA := Lib.hid ea; have EA2 := Lib.hid ea2
  have FA := Lib.hid fa; have FA2 := Lib.hid fa2
  have HRL := Lib.hid hrl
  clear he ea ea2 fa fa2 hrl hb hf
  have i0 : (0 : Int) ≤ i := by omega
  go_enter Try.func65, Try.ntmps65
  go_wp2
  go_loopw [5, 14] (fun v j wr => ∃ k : Nat, k ≤ a.length ∧ j = .int .i64 k ∧ wr.ownsRow w.heap.size 3 1 v k ((joinR (a.take k) (a2.take k)).map (Value.int .i64)) ∧ Ext w wr) (fun _ j _ => a.length - (intOf j).toNat)
  case atStart => exact ⟨0, Nat.zero_le _, rfl, own_nil _ _ _ _, (by repeat (first | exact Ext.refl _ | assumption | refine Ext.trans ?_ (Ext.alloc _ _) | refine Ext.trans ?_ (Ext.drew _) | refine Ext.trans ?_ (Ext.drewN _ _) | refine Ext.trans ?_ (by assumption)))⟩
  case round =>
    obtain ⟨k, hk, rfl, hown, hE⟩ := hrel
    have d2' := hE.cell d2
    have h3' : b < wr.heap.size := by have := hE.size; omega
    by_cases hlt : k < a.length
    · obtain ⟨x, b1, off1, HX, rfl, h4, y0⟩ := getI (hR1.ext hE) hlt
      obtain ⟨y, b2, off2, HY, rfl, h5, z0⟩ := getI (hR2.ext hE) (k := k) (by omega)
      have hx := FA.out x (List.mem_of_getElem? HX.out)
      have hy := FA2.out y (List.mem_of_getElem? HY.out)
      go_wp2_with (first | (at_builtin; refine wp_app _ w rfl (.tmp 19) (.tmp 30) 29 rfl 3 _ 1 8 Try.underlying29 intInfo0 rfl (by omega) _ k _ rfl (ownsRow_ext hown (Ext.alloc _ _)) (by repeat (first | exact Ext.refl _ | assumption | refine Ext.trans ?_ (Ext.alloc _ _) | refine Ext.trans ?_ (Ext.drew _) | refine Ext.trans ?_ (Ext.drewN _ _) | refine Ext.trans ?_ (by assumption))) _ _ _ 1 1 [.int .i64 (x + y)] rfl rfl (rdA_new rfl (Ext.refl _)) (by simp [Value.oneCell']) (by omega) (by simp) ?_; intro v3 w3 hown3 hE3 hg3 hat3))
      go_roundw
      case rel => exact ⟨k + 1, by omega, by go_num, by rw [joinR_take HX.out HY.out, List.map_append]; exact hown3, hE3⟩
      case measure => simp [intOf]; omega
    · have hkl : k = a.length := by omega
      subst hkl
      clear hlt
      rw [joinR_takeAll HE.out] at hown
      obtain ⟨A5, c5, rfl, hc5, _⟩ := own_form hown
      have hR5 : RdI wr w.heap.size wr.heap.size A5 (joinR a a2) := Rd.of_own hown
      have hot : RdA w 0 n (some ⟨b, off, none⟩) ((List.zipWith Row.val rs ls).take i) := hout.take i
      have hlt : ((List.zipWith Row.val rs ls).take i).length = i * 1 := by simp; have := HRL.out; omega
      have HLT := Lib.hid hlt
      have one1 : ∀ u ∈ (List.zipWith Row.val rs ls).take i, u.oneCell' = true := fun u hu => rows_one _ _ u (List.mem_of_mem_take hu)
      have one2 : ∀ u ∈ (List.zipWith Row.val rs ls).drop (i + 2), u.oneCell' = true := fun u hu => rows_one _ _ u (List.mem_of_mem_drop hu)
      have hlt2 : ((List.zipWith Row.val rs ls).drop (i + 2)).length = (ls.length - (i + 2)) * 1 := by simp; have := HRL.out; omega
      have HLT2 := Lib.hid hlt2
      have ONE1 := Lib.hid one1
      have ONE2 := Lib.hid one2
      clear one1 one2 hlt hlt2
      have h3' : b < wr.heap.size := by have := hE.size; omega
      go_wp2_with (at_builtin; refine wp_app _ wr rfl (.tmp 33) (.tmp 36) 22 rfl 29 _ 1 24 Try.underlying22 sliceInfo rfl (by omega) _ 0 [] rfl (own_lit0 _ _ (Nat.le_refl _) (Ext.refl _)) (by repeat (first | exact Ext.refl _ | assumption | refine Ext.trans ?_ (Ext.alloc _ _) | refine Ext.trans ?_ (Ext.drew _) | refine Ext.trans ?_ (Ext.drewN _ _) | refine Ext.trans ?_ (by assumption))) _ _ _ i _ ((List.zipWith Row.val rs ls).take i) rfl HLT.out (hot.ext (by repeat (first | exact Ext.refl _ | assumption | refine Ext.trans ?_ (Ext.alloc _ _) | refine Ext.trans ?_ (Ext.drew _) | refine Ext.trans ?_ (Ext.drewN _ _) | refine Ext.trans ?_ (by assumption)))) ONE1.out (by omega) (by simp) ?_; intro v7 w7 hown7 hE7 hg7 hat7)
      rw [Nat.zero_add, List.nil_append] at hown7
      have hs7 := hE7.size
      have q1 : IntKind.i64.wrap ((i : Int) + 2) = (i : Int) + 2 := IntWalk.i64_in _ (by omega)
      have g1 : (0 : Int) ≤ (i : Int) + 2 := by omega
      have g2 : (i : Int) + 2 ≤ ls.length := by omega
      have q3 : ((i : Int) + 2).toNat = i + 2 := by omega
      have hn : n ≤ w.heap.size := hout.1
      have hout7 := hout.ext (hE)
      clear hg7 hat7 d1 d2 hR1 hR2
      by_cases hci : c = i + 2
      · subst hci
        go_region_held3 (fun w' => Ext wr w') (exact (by repeat (first | exact Ext.refl _ | assumption | refine Ext.trans ?_ (Ext.alloc _ _) | refine Ext.trans ?_ (Ext.drew _) | refine Ext.trans ?_ (Ext.drewN _ _) | refine Ext.trans ?_ (by assumption)))) (first | (refine step_app _ wr rfl (.tmp 38) (.tmp 40) 22 rfl 29 _ 1 24 Try.underlying22 sliceInfo rfl (by omega) v7 i ((List.zipWith Row.val rs ls).take i) rfl (ownsRow_ext hown7 (by repeat (first | exact Ext.refl _ | assumption | refine Ext.trans ?_ (Ext.alloc _ _) | refine Ext.trans ?_ (Ext.drew _) | refine Ext.trans ?_ (Ext.drewN _ _) | refine Ext.trans ?_ (by assumption)))) (by first | assumption | exact hHeld) _ _ _ 1 1 [.slice A5 a.length c5] rfl rfl (by first | exact rdA_new (w := w7) rfl (by repeat (first | exact Ext.refl _ | assumption | refine Ext.trans ?_ (Ext.alloc _ _) | refine Ext.trans ?_ (Ext.drew _) | refine Ext.trans ?_ (Ext.drewN _ _) | refine Ext.trans ?_ (by assumption))) | exact rdA_at (cs := #[.slice A5 a.length c5]) (t := 29) (by (first | (simp only [hp_alloc, hp_drew, hp_drewN, Array.getElem?_push, Array.size_push]; simp; done) | (rw [hgA.block _ (by simp only [hp_alloc, hp_drew, hp_drewN, Array.size_push]; omega) (by simp [Value.ownBlock])]; (simp only [hp_alloc, hp_drew, hp_drewN, Array.getElem?_push, Array.size_push]; simp; done)))) rfl) (by simp [Value.oneCell']) (by omega) (by simp) ?_; intro vA wA hownA hEA hgA hatA) | (refine step_app _ wr rfl (.tmp 41) (.tmp 45) 22 rfl 29 _ 1 24 Try.underlying22 sliceInfo rfl (by omega) vA (i + 1) ((List.zipWith Row.val rs ls).take i ++ [.slice A5 a.length c5]) rfl (by first | exact hownA | exact ownsRow_ext hownA (by repeat (first | exact Ext.refl _ | assumption | refine Ext.trans ?_ (Ext.alloc _ _) | refine Ext.trans ?_ (Ext.drew _) | refine Ext.trans ?_ (Ext.drewN _ _) | refine Ext.trans ?_ (by assumption)))) (by first | assumption | exact hHeld) _ _ _ 0 _ [] rfl rfl (⟨Nat.zero_le _, fun h => absurd rfl h⟩ : RdA _ 0 0 _ []) (by simp) (by omega) (by simp) ?_; intro vB wB hownB hEB hgB hatB))
        go_wp2
        rw [show i + 1 + 0 = ls.length - 1 by omega] at hownB
        obtain ⟨A', c', rfl, hc', _⟩ := own_form hownB
        go_ret
        have hjl : (joinL ls i).length = ls.length - 1 := joinL_len hi
        have hEw : Ext w _ := hE.trans hEB
        refine ⟨A', c', by rw [hjl]; rfl, by rw [hjl]; exact hc', ?_, by repeat (first | exact hEw | refine Ext.trans ?_ (Ext.drew _))⟩
        have hR5' := RdI.ext hR5 hEB
        have key : RdAA _ _ A' (joinL ls i) := RdAA.join (w := w) (w' := wB) (r := ⟨A5, c5, 0, 0⟩) HRL.out HRS.out hEw i (by rw [EA.out, EA2.out]; exact (Rd.toA hR5').wide (Nat.zero_le _) (Rd.toA hR5').1 (Nat.le_refl _)) (by
          rw [zip_join HRL.out, zip_take, zip_drop, EA.out, EA2.out, show (List.zipWith Row.val rs ls).drop (i + 2) = [] from List.eq_nil_of_length_eq_zero (by rw [HLT2.out]; omega), Row.val, joinR_len HE.out]
          have := Rd.toA (Rd.of_own hownB)
          rw [List.append_assoc] at this
          exact this.wide (Nat.zero_le _) this.1 (Nat.le_refl _)) hi
        exact RdAA.ext key (by repeat (first | exact Ext.refl _ | refine Ext.trans ?_ (Ext.drew _)))
      · have hdr := hout7.drop (i + 2)
        have hci2 : i + 2 < c := by omega
        go_region_held3 (fun w' => Ext wr w') (exact (by repeat (first | exact Ext.refl _ | assumption | refine Ext.trans ?_ (Ext.alloc _ _) | refine Ext.trans ?_ (Ext.drew _) | refine Ext.trans ?_ (Ext.drewN _ _) | refine Ext.trans ?_ (by assumption)))) (first | (refine step_app _ wr rfl (.tmp 38) (.tmp 40) 22 rfl 29 _ 1 24 Try.underlying22 sliceInfo rfl (by omega) v7 i ((List.zipWith Row.val rs ls).take i) rfl (ownsRow_ext hown7 (by repeat (first | exact Ext.refl _ | assumption | refine Ext.trans ?_ (Ext.alloc _ _) | refine Ext.trans ?_ (Ext.drew _) | refine Ext.trans ?_ (Ext.drewN _ _) | refine Ext.trans ?_ (by assumption)))) (by first | assumption | exact hHeld) _ _ _ 1 1 [.slice A5 a.length c5] rfl rfl (by first | exact rdA_new (w := w7) rfl (by repeat (first | exact Ext.refl _ | assumption | refine Ext.trans ?_ (Ext.alloc _ _) | refine Ext.trans ?_ (Ext.drew _) | refine Ext.trans ?_ (Ext.drewN _ _) | refine Ext.trans ?_ (by assumption))) | exact rdA_at (cs := #[.slice A5 a.length c5]) (t := 29) (by (first | (simp only [hp_alloc, hp_drew, hp_drewN, Array.getElem?_push, Array.size_push]; simp; done) | (rw [hgA.block _ (by simp only [hp_alloc, hp_drew, hp_drewN, Array.size_push]; omega) (by simp [Value.ownBlock])]; (simp only [hp_alloc, hp_drew, hp_drewN, Array.getElem?_push, Array.size_push]; simp; done)))) rfl) (by simp [Value.oneCell']) (by omega) (by simp) ?_; intro vA wA hownA hEA hgA hatA) | (refine step_app _ wr rfl (.tmp 41) (.tmp 45) 22 rfl 29 _ 1 24 Try.underlying22 sliceInfo rfl (by omega) vA (i + 1) ((List.zipWith Row.val rs ls).take i ++ [.slice A5 a.length c5]) rfl (by first | exact hownA | exact ownsRow_ext hownA (by repeat (first | exact Ext.refl _ | assumption | refine Ext.trans ?_ (Ext.alloc _ _) | refine Ext.trans ?_ (Ext.drew _) | refine Ext.trans ?_ (Ext.drewN _ _) | refine Ext.trans ?_ (by assumption)))) (by first | assumption | exact hHeld) _ _ _ (ls.length - (i + 2)) _ ((List.zipWith Row.val rs ls).drop (i + 2)) rfl HLT2.out (RdA.ext hdr (by first | assumption | exact hHeld)) ONE2.out (by omega) (by simp) ?_; intro vB wB hownB hEB hgB hatB))
        go_wp2
        rw [show i + 1 + (ls.length - (i + 2)) = ls.length - 1 by omega] at hownB
        obtain ⟨A', c', rfl, hc', _⟩ := own_form hownB
        go_ret
        have hjl : (joinL ls i).length = ls.length - 1 := joinL_len hi
        have hEw : Ext w _ := hE.trans hEB
        refine ⟨A', c', by rw [hjl]; rfl, by rw [hjl]; exact hc', ?_, by repeat (first | exact hEw | refine Ext.trans ?_ (Ext.drew _))⟩
        have hR5' := RdI.ext hR5 hEB
        have key : RdAA _ _ A' (joinL ls i) := RdAA.join (w := w) (w' := wB) (r := ⟨A5, c5, 0, 0⟩) HRL.out HRS.out hEw i (by rw [EA.out, EA2.out]; exact (Rd.toA hR5').wide (Nat.zero_le _) (Rd.toA hR5').1 (Nat.le_refl _)) (by
          rw [zip_join HRL.out, zip_take, zip_drop, EA.out, EA2.out, Row.val, joinR_len HE.out]
          have := Rd.toA (Rd.of_own hownB)
          rw [List.append_assoc] at this
          exact this.wide (Nat.zero_le _) this.1 (Nat.le_refl _)) hi
        exact RdAA.ext key (by repeat (first | exact Ext.refl _ | refine Ext.trans ?_ (Ext.drew _)))
end Go.Proofs.Ytnhddepmhelgiaa
