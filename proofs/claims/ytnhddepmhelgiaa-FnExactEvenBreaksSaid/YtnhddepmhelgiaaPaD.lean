/- The walks of RowHeights and TotalHeight. -/
import Derived.Test.YtnhddepmhelgiaaPaC
namespace Go.Proofs.Ytnhddepmhelgiaa
open Go.RowKit
set_option linter.unusedVariables false
def sumW (l : List Int) : Int := l.foldl (fun n x => wrap64 (n + x)) 0
theorem sumW_snoc {l : List Int} {k : Nat} {x : Int} (h : l[k]? = some x) : sumW (l.take (k + 1)) = wrap64 (sumW (l.take k) + x) := by rw [take_snoc h]; simp [sumW]
theorem impl_sum (A : Option Addr) (c n : Nat) (l : List Int) (lo hi : Nat) (w : World) (hn : l.length = n) (hl : n ≤ 4000000) (hr : RdI w lo hi A l) :
    Calls Try.prog 63 #[.slice A n c] w fun e w' => e = .returned (.int .i64 (sumW l)) ∧ w = w' := by
  subst hn
  go_enter Try.func63, Try.ntmps63
  go_wp2
  go_loop [3, 8] (fun s i => ∃ k : Nat, k ≤ l.length ∧ i = .int .i64 k ∧ s = .int .i64 (sumW (l.take k))) (fun _ i => l.length - (intOf i).toNat)
  case atStart => exact ⟨0, Nat.zero_le _, rfl, by simp [sumW]⟩
  case round =>
    obtain ⟨k, hk, rfl, rfl⟩ := hrel
    by_cases hlt : k < l.length
    · obtain ⟨x, b, off, HX, rfl, h1, h2, h3, c0, _⟩ := RdI.get hr hlt
      go_wp2
      go_round
      case rel => exact ⟨k + 1, by omega, by go_num, by rw [sumW_snoc HX.out]⟩
      case measure => simp [intOf]; omega
    · go_wp2
      go_ret
      exact ⟨by rw [List.take_of_length_le (by first | omega | (simp; omega))]; rfl, rfl⟩
theorem spec_plTotal (A : Option Addr) (c : Nat) (ls : List (List Int)) (lo hi : Nat) (w : World) (hl : ls.length ≤ 1048577) (hb : ∀ l ∈ ls, l.length ≤ 1048577) (hr : RdII w lo hi A ls) :
    Calls Try.prog 72 #[.slice A ls.length c] w fun e w' => e = .returned (.int .i64 (sumW (ls.map grt))) ∧ w = w' := by
  have HB := Lib.hid hb; clear hb
  go_enter Try.func72, Try.ntmps72
  go_wp2
  go_loop [3, 8] (fun s i => ∃ k : Nat, k ≤ ls.length ∧ i = .int .i64 k ∧ s = .int .i64 (sumW ((ls.take k).map grt))) (fun _ i => ls.length - (intOf i).toNat)
  case atStart => exact ⟨0, Nat.zero_le _, rfl, by simp [sumW]⟩
  case round =>
    obtain ⟨k, hk, rfl, rfl⟩ := hrel
    by_cases hlt : k < ls.length
    · obtain ⟨⟨ra, rc, rp, rq⟩, l, b, off, HX, rfl, h3, c0, _, hR, _, _⟩ := RdII.get hr hlt
      simp only at c0 hR
      have hll := HB.out l (List.mem_of_getElem? HX.out)
      go_wp2_with (go_at_call 74; refine (spec_plHigh _ _ _ l _ _ _ rfl hll hR).mono ?_; rintro e w' ⟨rfl, rfl⟩)
      go_round
      case rel => exact ⟨k + 1, by omega, by go_num, by rw [take_snoc HX.out, List.map_append]; simp [sumW]⟩
      case measure => simp [intOf]; omega
    · go_wp2
      go_ret
      exact ⟨by rw [List.take_of_length_le (by first | omega | (simp; omega))]; rfl, rfl⟩
def thV (ls : List (List Int)) : Value := if par ls then .tuple #[.int .i64 (sumW (ls.map grt)), .bool true] else .tuple #[.int .i64 0, .bool false]
theorem thV_bad {ls : List (List Int)} (h : par ls = false) : thV ls = .tuple #[.int .i64 0, .bool false] := by simp only [thV, h]; rfl
theorem thV_good {ls : List (List Int)} (h : par ls = true) : thV ls = .tuple #[.int .i64 (sumW (ls.map grt)), .bool true] := by simp only [thV, h]; rfl
theorem thV_form (ls : List (List Int)) : ∃ x z, thV ls = .tuple #[.int .i64 x, .bool z] := by unfold thV; split <;> exact ⟨_, _, rfl⟩
theorem impl_TotalHeight (A : Option Addr) (c : Nat) (ls : List (List Int)) (lo hi : Nat) (w : World) (hl : ls.length ≤ 1048577) (hb : ∀ l ∈ ls, l.length ≤ 1048577) (hr : RdII w lo hi A ls) :
    Calls Try.prog 46 #[.slice A ls.length c] w fun e w' => e = .returned (thV ls) ∧ Ext w w' := by
  cases h : par ls
  · rw [thV_bad h]
    go_enter Try.func46, Try.ntmps46
    go_wp2_with (go_at_call 18; refine (impl_AreParallel A c ls lo hi _ hl hb hr).mono ?_; rintro e w1 ⟨rfl, hE1⟩; obtain ⟨hc1, hf1⟩ := bcell hE1; have hs1 := hE1.size; (try simp only [World.size_alloc] at hs1))
    go_ret2
    exact ⟨rfl, (by repeat (first | exact Ext.refl _ | assumption | refine Ext.trans ?_ (Ext.alloc _ _) | refine Ext.trans ?_ (Ext.drew _) | refine Ext.trans ?_ (Ext.drewN _ _) | refine Ext.trans ?_ (by assumption)))⟩
  · rw [thV_good h]
    go_enter Try.func46, Try.ntmps46
    go_wp2_with (go_at_call 18; refine (impl_AreParallel A c ls lo hi _ hl hb hr).mono ?_; rintro e w1 ⟨rfl, hE1⟩; obtain ⟨hc1, hf1⟩ := bcell hE1; have hs1 := hE1.size; (try simp only [World.size_alloc] at hs1))
    refine (impl_heights A c ls lo hi _ hl hb (hr.ext hE1)).mono ?_
    rintro e w2 ⟨A2, c2, rfl, hc2, hR2, hE2⟩
    rw [List.length_map]
    go_wp2_with fail
    refine (impl_sum _ _ _ (ls.map grt) _ _ _ (by rw [List.length_map]) (by omega) hR2).mono ?_
    rintro e w3 ⟨rfl, rfl⟩
    go_wp2_with fail
    go_ret2
    exact ⟨rfl, (by repeat (first | exact Ext.refl _ | assumption | refine Ext.trans ?_ (Ext.alloc _ _) | refine Ext.trans ?_ (Ext.drew _) | refine Ext.trans ?_ (Ext.drewN _ _) | refine Ext.trans ?_ (by assumption)))⟩
theorem spec_TotalHeight (A : Option Addr) (c : Nat) (ls : List (List Int)) (lo hi : Nat) (w : World) (hl : ls.length ≤ 1048577) (hb : ∀ l ∈ ls, l.length ≤ 1048577) (hr : RdII w lo hi A ls) :
    Calls Try.prog 45 #[.slice A ls.length c] w fun e w' => e = .returned (thV ls) ∧ Ext w w' := by
  cases h : par ls
  · rw [thV_bad h]
    go_enter Try.func45, Try.ntmps45
    go_wp2_with (go_at_call 48; refine (spec_plGood A c ls lo hi _ hl hb hr).mono ?_; rintro e w1 ⟨rfl, hE1⟩; obtain ⟨hc1, hf1⟩ := bcell hE1; have hs1 := hE1.size; (try simp only [World.size_alloc] at hs1))
    go_ret2
    exact ⟨rfl, (by repeat (first | exact Ext.refl _ | assumption | refine Ext.trans ?_ (Ext.alloc _ _) | refine Ext.trans ?_ (Ext.drew _) | refine Ext.trans ?_ (Ext.drewN _ _) | refine Ext.trans ?_ (by assumption)))⟩
  · rw [thV_good h]
    go_enter Try.func45, Try.ntmps45
    go_wp2_with (first | (go_at_call 48; refine (spec_plGood A c ls lo hi _ hl hb hr).mono ?_; rintro e w1 ⟨rfl, hE1⟩; obtain ⟨hc1, hf1⟩ := bcell hE1; have hs1 := hE1.size; (try simp only [World.size_alloc] at hs1)) | (go_at_call 72; refine (spec_plTotal A c ls lo hi _ hl hb (hr.ext hE1)).mono ?_; rintro e w' ⟨rfl, rfl⟩))
    go_ret2
    exact ⟨rfl, (by repeat (first | exact Ext.refl _ | assumption | refine Ext.trans ?_ (Ext.alloc _ _) | refine Ext.trans ?_ (Ext.drew _) | refine Ext.trans ?_ (Ext.drewN _ _) | refine Ext.trans ?_ (by assumption)))⟩
end Go.Proofs.Ytnhddepmhelgiaa
