/- The walks of RowHeights. -/
import Derived.Test.YtnhddepmhelgiaaPaP
namespace Go.Proofs.Ytnhddepmhelgiaa
open Go.RowKit
theorem impl_RowHeights (A : Option Addr) (c : Nat) (ls : List (List Int)) (lo hi : Nat) (w : World) (hl : ls.length ≤ 1048577) (hb : ∀ l ∈ ls, l.length ≤ 1048577) (hr : RdII w lo hi A ls) :
    Calls Try.prog 40 #[.slice A ls.length c] w (RetI2 w (rhP ls)) := by
  cases h : par ls
  · rw [rhP_bad h]
    go_enter Try.func40, Try.ntmps40
    go_wp2_with (go_at_call 18; refine (impl_AreParallel A c ls lo hi _ hl hb hr).mono ?_; rintro e w1 ⟨rfl, hE1⟩; obtain ⟨hc1, hf1⟩ := bcell hE1; have hs1 := hE1.size; (try simp only [World.size_alloc] at hs1))
    go_ret2
    exact retI2_lit (by repeat (first | exact Ext.refl _ | assumption | refine Ext.trans ?_ (Ext.alloc _ _) | refine Ext.trans ?_ (Ext.drew _) | refine Ext.trans ?_ (Ext.drewN _ _) | refine Ext.trans ?_ (by assumption)))
  · rw [rhP_good h]
    go_enter Try.func40, Try.ntmps40
    go_wp2_with (go_at_call 18; refine (impl_AreParallel A c ls lo hi _ hl hb hr).mono ?_; rintro e w1 ⟨rfl, hE1⟩; obtain ⟨hc1, hf1⟩ := bcell hE1; have hs1 := hE1.size; (try simp only [World.size_alloc] at hs1))
    refine (impl_heights A c ls lo hi _ hl hb (hr.ext hE1)).mono ?_
    rintro e w2 ⟨A2, c2, rfl, hc2, hR2, hE2⟩
    go_wp2_with fail
    go_ret2
    exact ⟨A2, c2, by simp only [List.length_map]; rfl, hc2, Rd.wide hR2 hs1 (Nat.le_refl _) (Nat.le_refl _), (by repeat (first | exact Ext.refl _ | assumption | refine Ext.trans ?_ (Ext.alloc _ _) | refine Ext.trans ?_ (Ext.drew _) | refine Ext.trans ?_ (Ext.drewN _ _) | refine Ext.trans ?_ (by assumption)))⟩
theorem spec_RowHeights (A : Option Addr) (c : Nat) (ls : List (List Int)) (lo hi : Nat) (w : World) (hl : ls.length ≤ 1048577) (hb : ∀ l ∈ ls, l.length ≤ 1048577) (hr : RdII w lo hi A ls) :
    Calls Try.prog 39 #[.slice A ls.length c] w (RetI2 w (rhP ls)) := by
  cases h : par ls
  · rw [rhP_bad h]
    go_enter Try.func39, Try.ntmps39
    go_wp2_with (go_at_call 48; refine (spec_plGood A c ls lo hi _ hl hb hr).mono ?_; rintro e w1 ⟨rfl, hE1⟩; obtain ⟨hc1, hf1⟩ := bcell hE1; have hs1 := hE1.size; (try simp only [World.size_alloc] at hs1))
    go_ret2
    exact retI2_lit (by repeat (first | exact Ext.refl _ | assumption | refine Ext.trans ?_ (Ext.alloc _ _) | refine Ext.trans ?_ (Ext.drew _) | refine Ext.trans ?_ (Ext.drewN _ _) | refine Ext.trans ?_ (by assumption)))
  · rw [rhP_good h]
    go_enter Try.func39, Try.ntmps39
    go_wp2_with (go_at_call 48; refine (spec_plGood A c ls lo hi _ hl hb hr).mono ?_; rintro e w1 ⟨rfl, hE1⟩; obtain ⟨hc1, hf1⟩ := bcell hE1; have hs1 := hE1.size; (try simp only [World.size_alloc] at hs1))
    refine (spec_plHeights A c ls lo hi _ hl hb (hr.ext hE1)).mono ?_
    rintro e w2 ⟨A2, c2, rfl, hc2, hR2, hE2⟩
    go_wp2_with fail
    go_ret2
    exact ⟨A2, c2, by simp only [List.length_map]; rfl, hc2, Rd.wide hR2 hs1 (Nat.le_refl _) (Nat.le_refl _), (by repeat (first | exact Ext.refl _ | assumption | refine Ext.trans ?_ (Ext.alloc _ _) | refine Ext.trans ?_ (Ext.drew _) | refine Ext.trans ?_ (Ext.drewN _ _) | refine Ext.trans ?_ (by assumption)))⟩
end Go.Proofs.Ytnhddepmhelgiaa
