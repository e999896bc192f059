/- The walks of the laws' helpers over slices of int. -/
import Derived.Test.YtnhddepmhelgiaaProg
import Derived.Test.YtnhddepmhelgiaaFill
import Derived.Deep.RegionHeld3
import Derived.Outline
namespace Go.Proofs.Ytnhddepmhelgiaa
open Go.RowKit
set_option linter.unusedVariables false

theorem eqIntS_same (A B : Option Addr) (c d : Nat) (l : List Int) (lo hi lo' hi' : Nat) (w : World) (hl : l.length ≤ 4611686018427387904) (hr : RdI w lo hi A l) (hr' : RdI w lo' hi' B l) :
    Calls Try.prog 24 #[.slice A l.length c, .slice B l.length d] w fun e w' => e = .returned (.bool true) ∧ Ext w w' := by
  go_enter Try.func24, Try.ntmps24
  go_wp2
  go_loopw [5] (fun i wr => ∃ k : Nat, k ≤ l.length ∧ i = .int .i64 k ∧ Ext w wr) (fun i _ => l.length - (intOf i).toNat)
  case atStart => exact ⟨0, Nat.zero_le _, rfl, Ext.refl _⟩
  case round =>
    obtain ⟨k, hk, rfl, hE⟩ := hrel
    by_cases hlt : k < l.length
    · obtain ⟨x, b, off, HX, rfl, h1, h2, h3, c0, _⟩ := RdI.get (hr.ext hE) hlt
      obtain ⟨x', b', off', HX', rfl, h1', h2', h3', d0, _⟩ := RdI.get (hr'.ext hE) hlt
      obtain rfl : x = x' := by have := HX.out.symm.trans HX'.out; injection this
      have hi0 : (0 : Int) ≤ k := by omega
      have hi1 : (k : Int) < l.length := by omega
      have e0 : ∀ w', Ext wr w' → w'.cell? ⟨b, off + k, none⟩ = _ := fun _ h => h.cell c0
      have e4 : ∀ w', Ext wr w' → w'.cell? ⟨b', off' + k, none⟩ = _ := fun _ h => h.cell d0
      go_wp2_with fail
      go_region_held3 (fun w' => Ext wr w') (exact (by repeat (first | exact Ext.refl _ | assumption | refine Ext.trans ?_ (Ext.alloc _ _) | refine Ext.trans ?_ (Ext.drew _) | refine Ext.trans ?_ (Ext.drewN _ _) | refine Ext.trans ?_ (by assumption)))) (fail)
      go_wp2
      go_roundw
      case rel => exact ⟨k + 1, by omega, by go_num, (by repeat (first | exact Ext.refl _ | assumption | refine Ext.trans ?_ (Ext.alloc _ _) | refine Ext.trans ?_ (Ext.drew _) | refine Ext.trans ?_ (Ext.drewN _ _) | refine Ext.trans ?_ (by assumption)))⟩
      case measure => simp [intOf]; omega
    · go_wp2
      go_ret
      exact ⟨rfl, hE⟩

theorem markIntS_any (A : Option Addr) (c : Nat) (l : List Int) (k : Int) (lo hi : Nat) (w : World) (hl : l.length ≤ 1152921504606846976) (hk0 : 0 ≤ k) (hk1 : k ≤ 1152921504606846976) (hr : RdI w lo hi A l) :
    Calls Try.prog 26 #[.slice A l.length c, .int .i64 k] w fun e w' => e = .returned (.int .i64 (k + l.length)) ∧ RdI w' lo hi A (marksI k l.length) ∧ Out lo hi w w' := by
  go_enter Try.func26, Try.ntmps26
  go_wp2
  go_loopw [1, 5] (fun kk i wr => ∃ (j : Nat) (ls : List Int), j ≤ l.length ∧ i = .int .i64 j ∧ kk = .int .i64 (k + j) ∧ ls.length = l.length ∧ (∀ i : Nat, i < j → ls[i]? = some (k + i)) ∧ RdI wr lo hi A ls ∧ Out lo hi w wr) (fun _ i _ => l.length - (intOf i).toNat)
  case atStart => exact ⟨0, l, Nat.zero_le _, rfl, by simp, rfl, fun i hi => absurd hi (by omega), hr, Out.refl _ _ _⟩
  case round =>
    obtain ⟨j, ls, hj, rfl, rfl, hls, hm, hR, hO⟩ := hrel
    have HLS := Lib.hid hls
    have HM := Lib.hid hm; clear hm
    by_cases hlt : j < l.length
    · obtain ⟨x, b, off, HX, rfl, h1, h2, h3, c0, f0⟩ := RdI.get hR (k := j) (by omega)
      clear hls
      go_wp2
      go_roundw
      case rel =>
        refine ⟨j + 1, ls.set j (k + j), by omega, by go_num, val_int (by omega), by rw [List.length_set]; exact HLS.out, fun i hi => ?_, ?_, hO.setCell (.inl ⟨h1, h2⟩) _⟩
        · by_cases hij : i = j
          · subst hij; rw [List.getElem?_set_self (by rw [HLS.out]; exact hlt)]
          · rw [List.getElem?_set_ne (fun h => hij h.symm)]; exact HM.out i (by omega)
        · unfold RdI
          rw [List.map_set]
          exact Rd.set_ hR j _
      case measure => simp [intOf]; omega
    · have hjl : j = l.length := by omega
      subst hjl
      clear hls hlt
      go_wp2
      go_ret
      refine ⟨rfl, ?_, hO⟩
      have e := marksI_of (k := k) (l := ls) (fun i hi => HM.out i (by have := HLS.out; omega))
      rw [HLS.out] at e
      rw [← e]
      exact hR

theorem heldIntS_any (A : Option Addr) (c : Nat) (n : Nat) (k : Int) (lo hi : Nat) (w : World) (hl : n ≤ 1152921504606846976) (hk0 : 0 ≤ k) (hk1 : k ≤ 1152921504606846976) (hr : RdI w lo hi A (marksI k n)) :
    Calls Try.prog 27 #[.slice A n c, .int .i64 k] w fun e w' => e = .returned (.int .i64 (k + n)) ∧ w = w' := by
  go_enter Try.func27, Try.ntmps27
  go_wp2
  go_loop [1, 5] (fun kk i => ∃ j : Nat, j ≤ n ∧ i = .int .i64 j ∧ kk = .int .i64 (k + j)) (fun _ i => n - (intOf i).toNat)
  case atStart => exact ⟨0, Nat.zero_le _, rfl, by simp⟩
  case round =>
    obtain ⟨j, hj, rfl, rfl⟩ := hrel
    by_cases hlt : j < n
    · obtain ⟨x, b, off, HX, rfl, h1, h2, h3, c0, f0⟩ := RdI.get hr (k := j) (by rw [marksI_len]; exact hlt)
      obtain rfl := marksI_at HX.out
      clear HX
      go_wp2
      go_round
      case rel => exact ⟨j + 1, by omega, by go_num, val_int (by omega)⟩
      case measure => simp [intOf]; omega
    · have hjl : j = n := by omega
      subst hjl
      clear hlt
      go_wp2
      go_ret
      exact ⟨rfl, rfl⟩

theorem szIntS_small (A : Option Addr) (n c : Nat) (left : Int) (w : World) (h : (n : Int) ≤ left) (h0 : 0 ≤ left) (h1 : left ≤ 1048576) :
    Calls Try.prog 47 #[.slice A n c, .int .i64 left] w fun e w' => e = .returned (.int .i64 (left - n)) ∧ w = w' := by
  go_enter Try.func47, Try.ntmps47
  go_wp2
  go_ret
  exact ⟨rfl, rfl⟩
theorem szIntS_big (A : Option Addr) (n c : Nat) (left : Int) (w : World) (hn : n ≤ 9223372036854775807) (h : left < n) (h0 : 0 ≤ left) (h1 : left ≤ 1048576) :
    Calls Try.prog 47 #[.slice A n c, .int .i64 left] w fun e w' => e = .returned (.int .i64 (-1)) ∧ w = w' := by
  go_enter Try.func47, Try.ntmps47
  go_wp2
  go_ret
  exact ⟨rfl, rfl⟩
theorem getI {w : World} {lo hi : Nat} {A : Option Addr} {l : List Int} (h : RdA w lo hi A (l.map (Value.int .i64))) {k : Nat} (hk : k < l.length) :
    ∃ x b off, Hid (l[k]? = some x) ∧ A = some ⟨b, off, none⟩ ∧ b < w.heap.size ∧ w.cell? ⟨b, off + k, none⟩ = some (.int .i64 x) := by
  obtain ⟨b, off, e, _, _, h3, hc⟩ := h.at_ (k := k) (by simpa using hk)
  exact ⟨l[k], b, off, List.getElem?_eq_getElem hk, e, h3, hc k _ (by rw [List.getElem?_map, List.getElem?_eq_getElem hk]; rfl)⟩
theorem intInfo0 : (Try.prog.info? 3).map (fun i => (i.zero, i.size, i.bytes)) = some (some (.int .i64 0), 1, 8) := by kernel_rfl
theorem toIntS_any (A : Option Addr) (c : Nat) (l : List Int) (lo hi : Nat) (w : World) (hl : l.length ≤ 1048577) (hr : RdA w lo hi A (l.map (Value.int .i64))) :
    Calls Try.prog 49 #[.slice A l.length c] w fun e w' => ∃ g, e = .returned (.slice (some ⟨g, 0, none⟩) l.length l.length) ∧ RdI w' w.heap.size w'.heap.size (some ⟨g, 0, none⟩) l ∧ Ext w w' := by
  obtain ⟨cs0, hmk, hf0⟩ := make_ints (P := Try.prog) 29 3 Try.underlying29 intInfo0 l.length (by omega)
  have HF0 := Lib.hid hf0; clear hf0
  go_enter Try.func49, Try.ntmps49
  go_wp2
  clear hmk
  go_loopw [4] (fun i wr => ∃ (k : Nat) (cur : Array Value), k ≤ l.length ∧ i = .int .i64 k ∧ Blk wr w.heap.size 3 cur ∧ FillI cur l.length (fun i => if i < k then l[i]?.getD 0 else 0) ∧ Ext w wr) (fun i _ => l.length - (intOf i).toNat)
  case atStart => exact ⟨0, cs0, Nat.zero_le _, rfl, Blk.new _ _ _, HF0.out.congr (fun i _ => by simp), (by repeat (first | exact Ext.refl _ | assumption | refine Ext.trans ?_ (Ext.alloc _ _) | refine Ext.trans ?_ (Ext.drew _) | refine Ext.trans ?_ (Ext.drewN _ _) | refine Ext.trans ?_ (by assumption)))⟩
  case round =>
    obtain ⟨k, cur, hk, rfl, hB, hF, hE⟩ := hrel
    by_cases hlt : k < l.length
    · obtain ⟨x, b, off, HX, rfl, h3, c0⟩ := getI (hr.ext hE) hlt
      obtain ⟨q0, r0⟩ := hF.cell hB hlt
      have hgl := hB.lt
      go_wp2
      go_roundw
      case rel => exact ⟨k + 1, _, by omega, by go_num, hB.set_ k _, (hF.set_ k x).congr (fun i _ => by
          by_cases e : i = k
          · subst e; simp [HX.out]
          · simp only [e, if_false]
            by_cases e2 : i < k
            · rw [if_pos e2, if_pos (by omega)]
            · rw [if_neg e2, if_neg (by omega)]), Ext.setCell hE (Nat.le_refl _) _⟩
      case measure => simp [intOf]; omega
    · have hkl : k = l.length := by omega
      subst hkl
      clear hlt
      go_wp2
      go_ret
      refine ⟨_, rfl, hF.rd hB (Nat.le_refl _) rfl (fun i hi => ?_), hE⟩
      rw [if_pos hi, List.getElem?_eq_getElem hi]
      rfl
end Go.Proofs.Ytnhddepmhelgiaa
