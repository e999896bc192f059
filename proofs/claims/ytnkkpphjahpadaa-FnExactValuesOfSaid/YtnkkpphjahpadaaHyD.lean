/- ValuesOf: the program's and the reference's. -/
import Derived.Test.YtnkkpphjahpadaaHyC
namespace Go.Proofs.Ytnkkpphjahpadaa
open Go.RowKit
set_option linter.unusedVariables false
theorem impl_ValuesOf (A : Option Addr) (c : Nat) (ps : List ByteArray) (word : ByteArray) (lo hi : Nat) (w : World) (hl : ps.length ≤ 1048577) (hb : ∀ s ∈ ps, s.size ≤ 1048577) (hw : word.size ≤ 1048577) (hr : RdT w lo hi A ps) :
    Calls Try.prog 49 #[.slice A ps.length c, .string word] w (RetI2 w (vaP ps word)) := by
  cases h1 : patsB ps
  · rw [vaP_bad (by rw [vaB, h1]; rfl)]
    go_enter Try.func49, Try.ntmps49
    go_wp2_with (go_at_call 95; refine (impl_arePatterns A c ps lo hi _ hl hb hr).mono ?_; rintro e w1 ⟨rfl, hE1⟩; obtain ⟨hc1, hf1⟩ := bcell hE1; have hs1 := hE1.size; (try simp only [World.size_alloc] at hs1))
    go_ret2
    exact retI2_lit (by repeat (first | exact Ext.refl _ | assumption | refine Ext.trans ?_ (Ext.alloc _ _) | refine Ext.trans ?_ (Ext.drew _) | refine Ext.trans ?_ (Ext.drewN _ _) | refine Ext.trans ?_ (by assumption)))
  cases h2 : lets word 1 16
  · rw [vaP_bad (by rw [vaB, h1, h2]; rfl)]
    go_enter Try.func49, Try.ntmps49
    go_wp2_with (first | (go_at_call 95; refine (impl_arePatterns A c ps lo hi _ hl hb hr).mono ?_; rintro e w1 ⟨rfl, hE1⟩; obtain ⟨hc1, hf1⟩ := bcell hE1; have hs1 := hE1.size; (try simp only [World.size_alloc] at hs1)) | (go_at_call 68; refine (impl_isWord word _ hw).mono ?_; rintro e w' ⟨rfl, rfl⟩))
    go_ret2
    exact retI2_lit (by repeat (first | exact Ext.refl _ | assumption | refine Ext.trans ?_ (Ext.alloc _ _) | refine Ext.trans ?_ (Ext.drew _) | refine Ext.trans ?_ (Ext.drewN _ _) | refine Ext.trans ?_ (by assumption)))
  have hv : vaB ps word = true := by rw [vaB, h1, h2]; rfl
  rw [vaP_good hv]
  have HV := Lib.hid hv; clear hv
  have HBB := Lib.hid hb; clear hb
  go_enter Try.func49, Try.ntmps49
  go_wp2_with (first | (go_at_call 95; refine (impl_arePatterns A c ps lo hi _ hl HBB.out hr).mono ?_; rintro e w1 ⟨rfl, hE1⟩; obtain ⟨hc1, hf1⟩ := bcell hE1; have hs1 := hE1.size; (try simp only [World.size_alloc] at hs1)) | (go_at_call 68; refine (impl_isWord word _ hw).mono ?_; rintro e w' ⟨rfl, rfl⟩))
  refine (impl_valuesOf A c ps word lo hi _ HV.out HBB.out (hr.ext (by repeat (first | exact Ext.refl _ | assumption | refine Ext.trans ?_ (Ext.alloc _ _) | refine Ext.trans ?_ (Ext.drew _) | refine Ext.trans ?_ (Ext.drewN _ _) | refine Ext.trans ?_ (by assumption))))).mono ?_
  rintro e w5 ⟨A5, c5, rfl, hc5, hR5, hE5⟩
  have hz5 := hE5.size
  go_wp2_with fail
  go_ret2
  exact ⟨A5, c5, rfl, hc5, Rd.wide hR5 (by omega) (Nat.le_refl _) (Nat.le_refl _), (by repeat (first | exact Ext.refl _ | assumption | refine Ext.trans ?_ (Ext.alloc _ _) | refine Ext.trans ?_ (Ext.drew _) | refine Ext.trans ?_ (Ext.drewN _ _) | refine Ext.trans ?_ (by assumption)))⟩
theorem spec_ValuesOf (A : Option Addr) (c : Nat) (ps : List ByteArray) (word : ByteArray) (lo hi : Nat) (w : World) (hl : ps.length ≤ 1048577) (hb : ∀ s ∈ ps, s.size ≤ 1048577) (hw : word.size ≤ 1048577) (hr : RdT w lo hi A ps) :
    Calls Try.prog 48 #[.slice A ps.length c, .string word] w (RetI2 w (vaP ps word)) := by
  cases h1 : patsB ps
  · rw [vaP_bad (by rw [vaB, h1]; rfl)]
    go_enter Try.func48, Try.ntmps48
    go_wp2_with (go_at_call 92; refine (spec_hyGood A c ps lo hi _ hl hb hr).mono ?_; rintro e w1 ⟨rfl, hE1⟩; obtain ⟨hc1, hf1⟩ := bcell hE1; have hs1 := hE1.size; (try simp only [World.size_alloc] at hs1))
    go_ret2
    exact retI2_lit (by repeat (first | exact Ext.refl _ | assumption | refine Ext.trans ?_ (Ext.alloc _ _) | refine Ext.trans ?_ (Ext.drew _) | refine Ext.trans ?_ (Ext.drewN _ _) | refine Ext.trans ?_ (by assumption)))
  cases h2 : lets word 1 16
  · rw [vaP_bad (by rw [vaB, h1, h2]; rfl)]
    go_enter Try.func48, Try.ntmps48
    go_wp2_with (first | (go_at_call 92; refine (spec_hyGood A c ps lo hi _ hl hb hr).mono ?_; rintro e w1 ⟨rfl, hE1⟩; obtain ⟨hc1, hf1⟩ := bcell hE1; have hs1 := hE1.size; (try simp only [World.size_alloc] at hs1)) | (go_at_call 93; refine (spec_tyWord word _ hw).mono ?_; rintro e w' ⟨rfl, rfl⟩))
    go_ret2
    exact retI2_lit (by repeat (first | exact Ext.refl _ | assumption | refine Ext.trans ?_ (Ext.alloc _ _) | refine Ext.trans ?_ (Ext.drew _) | refine Ext.trans ?_ (Ext.drewN _ _) | refine Ext.trans ?_ (by assumption)))
  have hv : vaB ps word = true := by rw [vaB, h1, h2]; rfl
  rw [vaP_good hv]
  have HV := Lib.hid hv; clear hv
  have HBB := Lib.hid hb; clear hb
  go_enter Try.func48, Try.ntmps48
  go_wp2_with (first | (go_at_call 92; refine (spec_hyGood A c ps lo hi _ hl HBB.out hr).mono ?_; rintro e w1 ⟨rfl, hE1⟩; obtain ⟨hc1, hf1⟩ := bcell hE1; have hs1 := hE1.size; (try simp only [World.size_alloc] at hs1)) | (go_at_call 93; refine (spec_tyWord word _ hw).mono ?_; rintro e w' ⟨rfl, rfl⟩))
  refine (spec_hyValues A c ps word lo hi _ HV.out HBB.out (hr.ext (by repeat (first | exact Ext.refl _ | assumption | refine Ext.trans ?_ (Ext.alloc _ _) | refine Ext.trans ?_ (Ext.drew _) | refine Ext.trans ?_ (Ext.drewN _ _) | refine Ext.trans ?_ (by assumption))))).mono ?_
  rintro e w5 ⟨A5, c5, rfl, hc5, hR5, hE5⟩
  have hz5 := hE5.size
  go_wp2_with fail
  go_ret2
  exact ⟨A5, c5, rfl, hc5, Rd.wide hR5 (by omega) (Nat.le_refl _) (Nat.le_refl _), (by repeat (first | exact Ext.refl _ | assumption | refine Ext.trans ?_ (Ext.alloc _ _) | refine Ext.trans ?_ (Ext.drew _) | refine Ext.trans ?_ (Ext.drewN _ _) | refine Ext.trans ?_ (by assumption)))⟩
end Go.Proofs.Ytnkkpphjahpadaa
