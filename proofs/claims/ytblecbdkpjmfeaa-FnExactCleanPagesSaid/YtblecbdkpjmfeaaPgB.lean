/- The walks of pageFill and of the functions on ends of pages. -/
import Derived.Test.YtblecbdkpjmfeaaPgA
import Derived.Test.YtblecbdkpjmfeaaPgQ
import Derived.Deep.QuietTactic
import Derived.BigQuiet
namespace Go.Proofs.Ytblecbdkpjmfeaa
open Go.RowKit
def RetI (w : World) (xs : List Int) (e : Ending) (w' : World) : Prop := ∃ A c, e = .returned (.slice A xs.length c) ∧ xs.length ≤ c ∧ RdI w' w.heap.size w'.heap.size A xs ∧ Ext w w'
def RetI2 (w : World) (p : List Int × Bool) (e : Ending) (w' : World) : Prop := ∃ A c, e = .returned (.tuple #[.slice A p.1.length c, .bool p.2]) ∧ p.1.length ≤ c ∧ RdI w' w.heap.size w'.heap.size A p.1 ∧ Ext w w'
theorem retI2_lit {w w' : World} {a : Option Addr} {c : Nat} (hE : Ext w w') : RetI2 w ([], false) (.returned (.tuple #[.slice a 0 c, .bool false])) w' := ⟨a, c, rfl, Nat.zero_le _, Rd.nil (Nat.le_refl _), hE⟩

theorem impl_pageFill (A : Option Addr) (c : Nat) (l : List SetL) (d : Int) (lo hi : Nat) (w : World) (hl : l.length ≤ 1048576) (hcap : l.length ≤ c) (hr : RdS w lo hi A l) :
    Calls Try.prog 45 #[.slice A l.length c, .int .i64 d] w (RetI w (fillL l d)) := by
  go_enter Try.func45, Try.ntmps45
  go_wp2
  go_loopw [5, 6, 11] (fun v fr i wr => ∃ (k n F : Nat) (E : List Int), k ≤ l.length ∧ i = .int .i64 k ∧ fr = .int .i64 F ∧ fillTo l d k = (E, F) ∧ E.length = n ∧ n ≤ k ∧ F ≤ k ∧ wr.ownsRow w.heap.size 3 1 v n (E.map (Value.int .i64)) ∧ Ext w wr) (fun _ _ i _ => l.length - (intOf i).toNat)
  case atStart => exact ⟨0, 0, 0, [], Nat.zero_le _, rfl, rfl, rfl, rfl, by omega, by omega, own_lit0 _ _ (Nat.le_refl _) (Ext.refl _), (by repeat (first | exact Ext.refl _ | assumption | refine Ext.trans ?_ (Ext.alloc _ _) | refine Ext.trans ?_ (Ext.drew _) | refine Ext.trans ?_ (Ext.drewN _ _) | refine Ext.trans ?_ (by assumption)))⟩
  case round =>
    obtain ⟨k, n, F, E, hk, rfl, rfl, hf, hn, hnk, hFk, hown, hE⟩ := hrel
    have HF := Lib.hid hf; clear hf
    have HN := Lib.hid hn; clear hn
    by_cases hlt : k < l.length
    · obtain ⟨x, b, off, HX, rfl, h1, h2, h3, c0, c1, c2⟩ := RdS.get (hr.ext hE) hlt
      clear c0 c1 c2
      have hcF : ¬ c = F := by omega
      have hRc := ((hr.ext hE).cut F (k + 1))
      have hcut := cutL_len l (i := F) (k := k + 1) (by omega)
      have HC := Lib.hid hcut; clear hcut
      have hdeep := impl_depthOf (some ⟨b, off + F * 3, none⟩) (c - F) (k + 1 - F) (cutL l F (k + 1)) lo hi _ HC.out (by omega) hRc
      have HD := Lib.hid hdeep; clear hdeep
      by_cases hd : d < deep (cutL l F (k + 1))
      · have HS : Hid (fillTo l d (k + 1) = (E ++ [(k : Int)], k)) := by show fillTo l d (k + 1) = _; rw [fillTo, HF.out]; exact if_pos hd
        go_wp2_with (first | (go_at_call 53; refine HD.out.mono ?_; rintro e w1 ⟨rfl, hE1⟩) | (at_builtin; refine wp_app _ w rfl (.tmp 22) (.tmp 24) 32 rfl 3 _ 1 8 Try.underlying32 intInfo rfl (by omega) _ n _ rfl (ownsRow_ext hown (hE1.trans (Ext.alloc _ _))) (hE.trans (hE1.trans (Ext.alloc _ _))) _ _ _ 1 1 [.int .i64 k] rfl rfl (rdA_new rfl (Ext.refl _)) (by simp [Value.oneCell']) (by omega) (by simp) ?_; intro v3 w3 hown3 hE3 hg3 hat3))
        go_roundw
        case rel => exact ⟨k + 1, n + 1, k, E ++ [(k : Int)], by omega, by go_num, rfl, HS.out, by rw [List.length_append, HN.out]; rfl, by omega, by omega, by rw [List.map_append]; exact hown3, hE3⟩
        case measure => simp [intOf]; omega
      · have HS : Hid (fillTo l d (k + 1) = (E, F)) := by show fillTo l d (k + 1) = _; rw [fillTo, HF.out]; exact if_neg hd
        go_wp2_with (first | (go_at_call 53; refine HD.out.mono ?_; rintro e w1 ⟨rfl, hE1⟩))
        go_roundw
        case rel => exact ⟨k + 1, n, F, E, by omega, by go_num, rfl, HS.out, HN.out, by omega, by omega, ownsRow_ext hown hE1, (by repeat (first | exact Ext.refl _ | assumption | refine Ext.trans ?_ (Ext.alloc _ _) | refine Ext.trans ?_ (Ext.drew _) | refine Ext.trans ?_ (Ext.drewN _ _) | refine Ext.trans ?_ (by assumption)))⟩
        case measure => simp [intOf]; omega
    · have hkl : k = l.length := by omega
      subst hkl
      clear hlt
      go_wp2_with (first | (at_builtin; refine wp_app _ w rfl (.tmp 28) (.tmp 31) 32 rfl 3 _ 1 8 Try.underlying32 intInfo rfl (by omega) _ n _ rfl (ownsRow_ext hown (Ext.alloc _ _)) (hE.trans (Ext.alloc _ _)) _ _ _ 1 1 [.int .i64 l.length] rfl rfl (rdA_new rfl (Ext.refl _)) (by simp [Value.oneCell']) (by omega) (by simp) ?_; intro v3 w3 hown3 hE3 hg3 hat3))
      obtain ⟨A', c', rfl, hc', _⟩ := own_form hown3
      have hlen : (fillL l d).length = n + 1 := by rw [fillL, HF.out, List.length_append, HN.out]; rfl
      go_ret
      refine ⟨A', c', by rw [hlen]; rfl, by rw [hlen]; exact hc', ?_, hE3⟩
      have h := Rd.of_own hown3
      unfold RdI
      rw [fillL, HF.out, List.map_append]
      exact h
theorem spec_pgFill (A : Option Addr) (c : Nat) (l : List SetL) (d : Int) (lo hi : Nat) (w : World) (hl : l.length ≤ 1048576) (hcap : l.length ≤ c) (hr : RdS w lo hi A l) :
    Calls Try.prog 43 #[.slice A l.length c, .int .i64 d] w (RetI w (fillL l d)) := by
  go_enter Try.func43, Try.ntmps43
  go_wp2
  go_loopw [5, 6, 10] (fun v fr i wr => ∃ (k n F : Nat) (E : List Int), k ≤ l.length ∧ i = .int .i64 k ∧ fr = .int .i64 F ∧ fillTo l d k = (E, F) ∧ E.length = n ∧ n ≤ k ∧ F ≤ k ∧ wr.ownsRow w.heap.size 3 1 v n (E.map (Value.int .i64)) ∧ Ext w wr) (fun _ _ i _ => l.length - (intOf i).toNat)
  case atStart => exact ⟨0, 0, 0, [], Nat.zero_le _, rfl, rfl, rfl, rfl, by omega, by omega, own_nil _ _ _ _, (by repeat (first | exact Ext.refl _ | assumption | refine Ext.trans ?_ (Ext.alloc _ _) | refine Ext.trans ?_ (Ext.drew _) | refine Ext.trans ?_ (Ext.drewN _ _) | refine Ext.trans ?_ (by assumption)))⟩
  case round =>
    obtain ⟨k, n, F, E, hk, rfl, rfl, hf, hn, hnk, hFk, hown, hE⟩ := hrel
    have HF := Lib.hid hf; clear hf
    have HN := Lib.hid hn; clear hn
    by_cases hlt : k < l.length
    · obtain ⟨x, b, off, HX, rfl, h1, h2, h3, c0, c1, c2⟩ := RdS.get (hr.ext hE) hlt
      clear c0 c1 c2
      have hcF : ¬ c = F := by omega
      have hRc := ((hr.ext hE).cut F (k + 1))
      have hcut := cutL_len l (i := F) (k := k + 1) (by omega)
      have HC := Lib.hid hcut; clear hcut
      have hdeep := spec_pgDeep (some ⟨b, off + F * 3, none⟩) (c - F) (k + 1 - F) (cutL l F (k + 1)) lo hi _ HC.out (by omega) hRc
      have HD := Lib.hid hdeep; clear hdeep
      by_cases hd : d < deep (cutL l F (k + 1))
      · have HS : Hid (fillTo l d (k + 1) = (E ++ [(k : Int)], k)) := by show fillTo l d (k + 1) = _; rw [fillTo, HF.out]; exact if_pos hd
        go_wp2_with (first | (go_at_call 52; refine HD.out.mono ?_; rintro e w1 ⟨rfl, hE1⟩) | (at_builtin; refine wp_app _ w rfl (.tmp 21) (.tmp 23) 32 rfl 3 _ 1 8 Try.underlying32 intInfo rfl (by omega) _ n _ rfl (ownsRow_ext hown (hE1.trans (Ext.alloc _ _))) (hE.trans (hE1.trans (Ext.alloc _ _))) _ _ _ 1 1 [.int .i64 k] rfl rfl (rdA_new rfl (Ext.refl _)) (by simp [Value.oneCell']) (by omega) (by simp) ?_; intro v3 w3 hown3 hE3 hg3 hat3))
        go_roundw
        case rel => exact ⟨k + 1, n + 1, k, E ++ [(k : Int)], by omega, by go_num, rfl, HS.out, by rw [List.length_append, HN.out]; rfl, by omega, by omega, by rw [List.map_append]; exact hown3, hE3⟩
        case measure => simp [intOf]; omega
      · have HS : Hid (fillTo l d (k + 1) = (E, F)) := by show fillTo l d (k + 1) = _; rw [fillTo, HF.out]; exact if_neg hd
        go_wp2_with (first | (go_at_call 52; refine HD.out.mono ?_; rintro e w1 ⟨rfl, hE1⟩))
        go_roundw
        case rel => exact ⟨k + 1, n, F, E, by omega, by go_num, rfl, HS.out, HN.out, by omega, by omega, ownsRow_ext hown hE1, (by repeat (first | exact Ext.refl _ | assumption | refine Ext.trans ?_ (Ext.alloc _ _) | refine Ext.trans ?_ (Ext.drew _) | refine Ext.trans ?_ (Ext.drewN _ _) | refine Ext.trans ?_ (by assumption)))⟩
        case measure => simp [intOf]; omega
    · have hkl : k = l.length := by omega
      subst hkl
      clear hlt
      go_wp2_with (first | (at_builtin; refine wp_app _ w rfl (.tmp 27) (.tmp 30) 32 rfl 3 _ 1 8 Try.underlying32 intInfo rfl (by omega) _ n _ rfl (ownsRow_ext hown (Ext.alloc _ _)) (hE.trans (Ext.alloc _ _)) _ _ _ 1 1 [.int .i64 l.length] rfl rfl (rdA_new rfl (Ext.refl _)) (by simp [Value.oneCell']) (by omega) (by simp) ?_; intro v3 w3 hown3 hE3 hg3 hat3))
      obtain ⟨A', c', rfl, hc', _⟩ := own_form hown3
      have hlen : (fillL l d).length = n + 1 := by rw [fillL, HF.out, List.length_append, HN.out]; rfl
      go_ret
      refine ⟨A', c', by rw [hlen]; rfl, by rw [hlen]; exact hc', ?_, hE3⟩
      have h := Rd.of_own hown3
      unfold RdI
      rw [fillL, HF.out, List.map_append]
      exact h

def pgV (l : List SetL) (d : Int) : Value := if paged l d then .tuple #[.int .i64 (fillL l d).length, .bool true] else .tuple #[.int .i64 0, .bool false]
theorem pgV_bad {l : List SetL} {d : Int} (h : paged l d = false) : pgV l d = .tuple #[.int .i64 0, .bool false] := by simp only [pgV, h]; rfl
theorem pgV_good {l : List SetL} {d : Int} (h : paged l d = true) : pgV l d = .tuple #[.int .i64 (fillL l d).length, .bool true] := by simp only [pgV, h]; rfl
theorem pgV_form (l : List SetL) (d : Int) : ∃ x z, pgV l d = .tuple #[.int .i64 x, .bool z] := by unfold pgV; split <;> exact ⟨_, _, rfl⟩
def pfP (l : List SetL) (d : Int) : List Int × Bool := if paged l d then (fillL l d, true) else ([], false)
theorem pfP_bad {l : List SetL} {d : Int} (h : paged l d = false) : pfP l d = ([], false) := by simp only [pfP, h]; rfl
theorem pfP_good {l : List SetL} {d : Int} (h : paged l d = true) : pfP l d = (fillL l d, true) := by simp only [pfP, h]; rfl
theorem pfP_len (l : List SetL) (d : Int) (hl : l.length ≤ 1048576) : (pfP l d).1.length ≤ 4000000 := by
  unfold pfP
  split
  · have := fillTo_bound l d l.length
    simp only [fillL, List.length_append, List.length_singleton]
    omega
  · simp
theorem impl_PagesOfGalley (A : Option Addr) (c : Nat) (l : List SetL) (d : Int) (lo hi : Nat) (w : World) (hl : l.length ≤ 1048576) (hcap : l.length ≤ c) (hq : InRS l) (hr : RdS w lo hi A l) :
    Calls Try.prog 18 #[.slice A l.length c, .int .i64 d] w fun e w' => e = .returned (pgV l d) ∧ Ext w w' := by
  cases h : paged l d
  · rw [pgV_bad h]
    go_enter Try.func18, Try.ntmps18
    go_wp2_with (go_at_call 44; refine (impl_isPaged A c l d lo hi _ (by omega) hq hr).mono ?_; rintro e w1 ⟨rfl, hE1⟩; obtain ⟨hc1, hf1⟩ := bcell hE1; have hs1 := hE1.size; (try simp only [World.size_alloc] at hs1))
    go_ret2
    exact ⟨rfl, (by repeat (first | exact Ext.refl _ | assumption | refine Ext.trans ?_ (Ext.alloc _ _) | refine Ext.trans ?_ (Ext.drew _) | refine Ext.trans ?_ (Ext.drewN _ _) | refine Ext.trans ?_ (by assumption)))⟩
  · rw [pgV_good h]
    go_enter Try.func18, Try.ntmps18
    go_wp2_with (go_at_call 44; refine (impl_isPaged A c l d lo hi _ (by omega) hq hr).mono ?_; rintro e w1 ⟨rfl, hE1⟩; obtain ⟨hc1, hf1⟩ := bcell hE1; have hs1 := hE1.size; (try simp only [World.size_alloc] at hs1))
    refine (impl_pageFill A c l d lo hi _ hl hcap (hr.ext hE1)).mono ?_
    rintro e w2 ⟨A2, c2, rfl, hc2, hR2, hE2⟩
    go_wp2_with fail
    go_ret2
    exact ⟨rfl, (by repeat (first | exact Ext.refl _ | assumption | refine Ext.trans ?_ (Ext.alloc _ _) | refine Ext.trans ?_ (Ext.drew _) | refine Ext.trans ?_ (Ext.drewN _ _) | refine Ext.trans ?_ (by assumption)))⟩
theorem spec_PagesOfGalley (A : Option Addr) (c : Nat) (l : List SetL) (d : Int) (lo hi : Nat) (w : World) (hl : l.length ≤ 1048576) (hcap : l.length ≤ c) (hq : InRS l) (hr : RdS w lo hi A l) :
    Calls Try.prog 17 #[.slice A l.length c, .int .i64 d] w fun e w' => e = .returned (pgV l d) ∧ Ext w w' := by
  cases h : paged l d
  · rw [pgV_bad h]
    go_enter Try.func17, Try.ntmps17
    go_wp2_with (go_at_call 42; refine (spec_pgAsked A c l d lo hi _ (by omega) hr).mono ?_; rintro e w1 ⟨rfl, hE1⟩; obtain ⟨hc1, hf1⟩ := bcell hE1; have hs1 := hE1.size; (try simp only [World.size_alloc] at hs1))
    go_ret2
    exact ⟨rfl, (by repeat (first | exact Ext.refl _ | assumption | refine Ext.trans ?_ (Ext.alloc _ _) | refine Ext.trans ?_ (Ext.drew _) | refine Ext.trans ?_ (Ext.drewN _ _) | refine Ext.trans ?_ (by assumption)))⟩
  · rw [pgV_good h]
    go_enter Try.func17, Try.ntmps17
    go_wp2_with (go_at_call 42; refine (spec_pgAsked A c l d lo hi _ (by omega) hr).mono ?_; rintro e w1 ⟨rfl, hE1⟩; obtain ⟨hc1, hf1⟩ := bcell hE1; have hs1 := hE1.size; (try simp only [World.size_alloc] at hs1))
    refine (spec_pgFill A c l d lo hi _ hl hcap (hr.ext hE1)).mono ?_
    rintro e w2 ⟨A2, c2, rfl, hc2, hR2, hE2⟩
    go_wp2_with fail
    go_ret2
    exact ⟨rfl, (by repeat (first | exact Ext.refl _ | assumption | refine Ext.trans ?_ (Ext.alloc _ _) | refine Ext.trans ?_ (Ext.drew _) | refine Ext.trans ?_ (Ext.drewN _ _) | refine Ext.trans ?_ (by assumption)))⟩
theorem impl_PageFill (A : Option Addr) (c : Nat) (l : List SetL) (d : Int) (lo hi : Nat) (w : World) (hl : l.length ≤ 1048576) (hcap : l.length ≤ c) (hq : InRS l) (hr : RdS w lo hi A l) :
    Calls Try.prog 31 #[.slice A l.length c, .int .i64 d] w (RetI2 w (pfP l d)) := by
  cases h : paged l d
  · rw [pfP_bad h]
    go_enter Try.func31, Try.ntmps31
    go_wp2_with (go_at_call 44; refine (impl_isPaged A c l d lo hi _ (by omega) hq hr).mono ?_; rintro e w1 ⟨rfl, hE1⟩; obtain ⟨hc1, hf1⟩ := bcell hE1; have hs1 := hE1.size; (try simp only [World.size_alloc] at hs1))
    go_ret2
    exact retI2_lit (by repeat (first | exact Ext.refl _ | assumption | refine Ext.trans ?_ (Ext.alloc _ _) | refine Ext.trans ?_ (Ext.drew _) | refine Ext.trans ?_ (Ext.drewN _ _) | refine Ext.trans ?_ (by assumption)))
  · rw [pfP_good h]
    go_enter Try.func31, Try.ntmps31
    go_wp2_with (go_at_call 44; refine (impl_isPaged A c l d lo hi _ (by omega) hq hr).mono ?_; rintro e w1 ⟨rfl, hE1⟩; obtain ⟨hc1, hf1⟩ := bcell hE1; have hs1 := hE1.size; (try simp only [World.size_alloc] at hs1))
    refine (impl_pageFill A c l d lo hi _ hl hcap (hr.ext hE1)).mono ?_
    rintro e w2 ⟨A2, c2, rfl, hc2, hR2, hE2⟩
    go_wp2_with fail
    go_ret2
    exact ⟨A2, c2, rfl, hc2, Rd.wide hR2 hs1 (Nat.le_refl _) (Nat.le_refl _), (by repeat (first | exact Ext.refl _ | assumption | refine Ext.trans ?_ (Ext.alloc _ _) | refine Ext.trans ?_ (Ext.drew _) | refine Ext.trans ?_ (Ext.drewN _ _) | refine Ext.trans ?_ (by assumption)))⟩
theorem spec_PageFill (A : Option Addr) (c : Nat) (l : List SetL) (d : Int) (lo hi : Nat) (w : World) (hl : l.length ≤ 1048576) (hcap : l.length ≤ c) (hq : InRS l) (hr : RdS w lo hi A l) :
    Calls Try.prog 30 #[.slice A l.length c, .int .i64 d] w (RetI2 w (pfP l d)) := by
  cases h : paged l d
  · rw [pfP_bad h]
    go_enter Try.func30, Try.ntmps30
    go_wp2_with (go_at_call 42; refine (spec_pgAsked A c l d lo hi _ (by omega) hr).mono ?_; rintro e w1 ⟨rfl, hE1⟩; obtain ⟨hc1, hf1⟩ := bcell hE1; have hs1 := hE1.size; (try simp only [World.size_alloc] at hs1))
    go_ret2
    exact retI2_lit (by repeat (first | exact Ext.refl _ | assumption | refine Ext.trans ?_ (Ext.alloc _ _) | refine Ext.trans ?_ (Ext.drew _) | refine Ext.trans ?_ (Ext.drewN _ _) | refine Ext.trans ?_ (by assumption)))
  · rw [pfP_good h]
    go_enter Try.func30, Try.ntmps30
    go_wp2_with (go_at_call 42; refine (spec_pgAsked A c l d lo hi _ (by omega) hr).mono ?_; rintro e w1 ⟨rfl, hE1⟩; obtain ⟨hc1, hf1⟩ := bcell hE1; have hs1 := hE1.size; (try simp only [World.size_alloc] at hs1))
    refine (spec_pgFill A c l d lo hi _ hl hcap (hr.ext hE1)).mono ?_
    rintro e w2 ⟨A2, c2, rfl, hc2, hR2, hE2⟩
    go_wp2_with fail
    go_ret2
    exact ⟨A2, c2, rfl, hc2, Rd.wide hR2 hs1 (Nat.le_refl _) (Nat.le_refl _), (by repeat (first | exact Ext.refl _ | assumption | refine Ext.trans ?_ (Ext.alloc _ _) | refine Ext.trans ?_ (Ext.drew _) | refine Ext.trans ?_ (Ext.drewN _ _) | refine Ext.trans ?_ (by assumption)))⟩
end Go.Proofs.Ytblecbdkpjmfeaa
