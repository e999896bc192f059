/- The walks of greatest, heights, sum; RowHeights, TotalHeight. -/
import Derived.Test.YtnhddepmhelgiaaPaB
import Derived.Test.YtnhddepmhelgiaaNestL
namespace Go.Proofs.Ytnhddepmhelgiaa
open Go.RowKit
set_option linter.unusedVariables false
def most (a b : Int) : Int := if b < a then a else b
def grt (l : List Int) : Int := l.foldl most 0
theorem grt_snoc {l : List Int} {k : Nat} {x : Int} (h : l[k]? = some x) : grt (l.take (k + 1)) = most (grt (l.take k)) x := by rw [take_snoc h]; simp [grt]
theorem l1Most_any (a b : Int) (w : World) : Calls Try.prog 68 #[.int .i64 a, .int .i64 b] w fun e w' => e = .returned (.int .i64 (most a b)) ∧ w = w' := by
  by_cases h : b < a
  · have hm : most a b = a := if_pos h
    rw [hm]; clear hm
    go_enter Try.func68, Try.ntmps68
    go_wp2
    go_ret
    exact ⟨rfl, rfl⟩
  · have hm : most a b = b := if_neg h
    rw [hm]; clear hm
    go_enter Try.func68, Try.ntmps68
    go_wp2
    go_ret
    exact ⟨rfl, rfl⟩
theorem spec_plHigh (A : Option Addr) (c n : Nat) (l : List Int) (lo hi : Nat) (w : World) (hn : l.length = n) (hl : n ≤ 1048577) (hr : RdI w lo hi A l) :
    Calls Try.prog 74 #[.slice A n c] w fun e w' => e = .returned (.int .i64 (grt l)) ∧ w = w' := by
  subst hn
  go_enter Try.func74, Try.ntmps74
  go_wp2
  go_loop [3, 8] (fun s i => ∃ k : Nat, k ≤ l.length ∧ i = .int .i64 k ∧ s = .int .i64 (grt (l.take k))) (fun _ i => l.length - (intOf i).toNat)
  case atStart => exact ⟨0, Nat.zero_le _, rfl, by simp [grt]⟩
  case round =>
    obtain ⟨k, hk, rfl, rfl⟩ := hrel
    by_cases hlt : k < l.length
    · obtain ⟨x, b, off, HX, rfl, h1, h2, h3, c0, _⟩ := RdI.get hr hlt
      go_wp2_with (go_at_call 68; refine (l1Most_any _ _ _).mono ?_; rintro e w' ⟨rfl, rfl⟩)
      go_round
      case rel => exact ⟨k + 1, by omega, by go_num, by rw [grt_snoc HX.out]⟩
      case measure => simp [intOf]; omega
    · go_wp2
      go_ret
      exact ⟨by rw [List.take_of_length_le (by omega)]; rfl, rfl⟩
theorem impl_greatest (A : Option Addr) (c n : Nat) (l : List Int) (lo hi : Nat) (w : World) (hn : l.length = n) (hl : n ≤ 1048577) (hr : RdI w lo hi A l) :
    Calls Try.prog 55 #[.slice A n c] w fun e w' => e = .returned (.int .i64 (grt l)) ∧ w = w' := by
  subst hn
  go_enter Try.func55, Try.ntmps55
  go_wp2
  go_loop [3, 8] (fun s i => ∃ k : Nat, k ≤ l.length ∧ i = .int .i64 k ∧ s = .int .i64 (grt (l.take k))) (fun _ i => l.length - (intOf i).toNat)
  case atStart => exact ⟨0, Nat.zero_le _, rfl, by simp [grt]⟩
  case round =>
    obtain ⟨k, hk, rfl, rfl⟩ := hrel
    by_cases hlt : k < l.length
    · obtain ⟨x, b, off, HX, rfl, h1, h2, h3, c0, _⟩ := RdI.get hr hlt
      go_wp2
      go_round
      case rel => exact ⟨k + 1, by omega, by go_num, by rw [grt_snoc HX.out]; exact val_int (by unfold most; split <;> split <;> omega)⟩
      case measure => simp [intOf]; omega
    · go_wp2
      go_ret
      exact ⟨by rw [List.take_of_length_le (by omega)]; rfl, rfl⟩
def RetI (w : World) (xs : List Int) (e : Ending) (w' : World) : Prop := ∃ A c, e = .returned (.slice A xs.length c) ∧ xs.length ≤ c ∧ RdI w' w.heap.size w'.heap.size A xs ∧ Ext w w'
def RetI2 (w : World) (p : List Int × Bool) (e : Ending) (w' : World) : Prop := ∃ A c, e = .returned (.tuple #[.slice A p.1.length c, .bool p.2]) ∧ p.1.length ≤ c ∧ RdI w' w.heap.size w'.heap.size A p.1 ∧ Ext w w'
theorem retI2_lit {w w' : World} {a : Option Addr} {c : Nat} (hE : Ext w w') : RetI2 w ([], false) (.returned (.tuple #[.slice a 0 c, .bool false])) w' := ⟨a, c, rfl, Nat.zero_le _, Rd.nil (Nat.le_refl _), hE⟩
theorem impl_heights (A : Option Addr) (c : Nat) (ls : List (List Int)) (lo hi : Nat) (w : World) (hl : ls.length ≤ 1048577) (hb : ∀ l ∈ ls, l.length ≤ 1048577) (hr : RdII w lo hi A ls) :
    Calls Try.prog 61 #[.slice A ls.length c] w (RetI w (ls.map grt)) := by
  have HB := Lib.hid hb; clear hb
  go_enter Try.func61, Try.ntmps61
  go_wp2
  go_loopw [3, 9] (fun v i wr => ∃ k : Nat, k ≤ ls.length ∧ i = .int .i64 k ∧ wr.ownsRow w.heap.size 3 1 v k (((ls.take k).map grt).map (Value.int .i64)) ∧ Ext w wr) (fun _ i _ => ls.length - (intOf i).toNat)
  case atStart => exact ⟨0, Nat.zero_le _, rfl, own_lit0 _ _ (Nat.le_refl _) (Ext.refl _), (by repeat (first | exact Ext.refl _ | assumption | refine Ext.trans ?_ (Ext.alloc _ _) | refine Ext.trans ?_ (Ext.drew _) | refine Ext.trans ?_ (Ext.drewN _ _) | refine Ext.trans ?_ (by assumption)))⟩
  case round =>
    obtain ⟨k, hk, rfl, hown, hE⟩ := hrel
    by_cases hlt : k < ls.length
    · obtain ⟨⟨ra, rc, rp, rq⟩, l, b, off, HX, rfl, h3, c0, _, hR, _, _⟩ := RdII.get (hr.ext hE) hlt
      simp only at c0 hR
      have hll := HB.out l (List.mem_of_getElem? HX.out)
      go_wp2_with (first | (go_at_call 55; refine (impl_greatest _ _ _ l _ _ _ rfl hll hR).mono ?_; rintro e w' ⟨rfl, rfl⟩) | (at_builtin; refine wp_app _ w rfl (.tmp 13) (.tmp 16) 29 rfl 3 _ 1 8 Try.underlying29 intInfo0 rfl (by omega) _ k _ rfl (ownsRow_ext hown (Ext.alloc _ _)) (hE.trans (Ext.alloc _ _)) _ _ _ 1 1 [.int .i64 (grt l)] rfl rfl (rdA_new rfl (Ext.refl _)) (by simp [Value.oneCell']) (by omega) (by simp) ?_; intro v3 w3 hown3 hE3 hg3 hat3))
      go_roundw
      case rel => exact ⟨k + 1, by omega, by go_num, by rw [take_snoc HX.out, List.map_append, List.map_append]; exact hown3, hE3⟩
      case measure => simp [intOf]; omega
    · have hkl : k = ls.length := by omega
      subst hkl
      clear hlt
      obtain ⟨A', c', rfl, hc', _⟩ := own_form hown
      rw [List.take_of_length_le (Nat.le_refl _)] at hown
      go_wp2
      go_ret
      exact ⟨A', c', by rw [List.length_map]; rfl, by rw [List.length_map]; exact hc', Rd.of_own hown, hE⟩
theorem spec_plHeights (A : Option Addr) (c : Nat) (ls : List (List Int)) (lo hi : Nat) (w : World) (hl : ls.length ≤ 1048577) (hb : ∀ l ∈ ls, l.length ≤ 1048577) (hr : RdII w lo hi A ls) :
    Calls Try.prog 57 #[.slice A ls.length c] w (RetI w (ls.map grt)) := by
  have HB := Lib.hid hb; clear hb
  go_enter Try.func57, Try.ntmps57
  go_wp2
  go_loopw [3, 8] (fun v i wr => ∃ k : Nat, k ≤ ls.length ∧ i = .int .i64 k ∧ wr.ownsRow w.heap.size 3 1 v k (((ls.take k).map grt).map (Value.int .i64)) ∧ Ext w wr) (fun _ i _ => ls.length - (intOf i).toNat)
  case atStart => exact ⟨0, Nat.zero_le _, rfl, own_nil _ _ _ _, (by repeat (first | exact Ext.refl _ | assumption | refine Ext.trans ?_ (Ext.alloc _ _) | refine Ext.trans ?_ (Ext.drew _) | refine Ext.trans ?_ (Ext.drewN _ _) | refine Ext.trans ?_ (by assumption)))⟩
  case round =>
    obtain ⟨k, hk, rfl, hown, hE⟩ := hrel
    by_cases hlt : k < ls.length
    · obtain ⟨⟨ra, rc, rp, rq⟩, l, b, off, HX, rfl, h3, c0, _, hR, _, _⟩ := RdII.get (hr.ext hE) hlt
      simp only at c0 hR
      have hll := HB.out l (List.mem_of_getElem? HX.out)
      go_wp2_with (first | (go_at_call 74; refine (spec_plHigh _ _ _ l _ _ _ rfl hll hR).mono ?_; rintro e w' ⟨rfl, rfl⟩) | (at_builtin; refine wp_app _ w rfl (.tmp 12) (.tmp 15) 29 rfl 3 _ 1 8 Try.underlying29 intInfo0 rfl (by omega) _ k _ rfl (ownsRow_ext hown (Ext.alloc _ _)) (hE.trans (Ext.alloc _ _)) _ _ _ 1 1 [.int .i64 (grt l)] rfl rfl (rdA_new rfl (Ext.refl _)) (by simp [Value.oneCell']) (by omega) (by simp) ?_; intro v3 w3 hown3 hE3 hg3 hat3))
      go_roundw
      case rel => exact ⟨k + 1, by omega, by go_num, by rw [take_snoc HX.out, List.map_append, List.map_append]; exact hown3, hE3⟩
      case measure => simp [intOf]; omega
    · have hkl : k = ls.length := by omega
      subst hkl
      clear hlt
      obtain ⟨A', c', rfl, hc', _⟩ := own_form hown
      rw [List.take_of_length_le (Nat.le_refl _)] at hown
      go_wp2
      go_ret
      exact ⟨A', c', by rw [List.length_map]; rfl, by rw [List.length_map]; exact hc', Rd.of_own hown, hE⟩
end Go.Proofs.Ytnhddepmhelgiaa
