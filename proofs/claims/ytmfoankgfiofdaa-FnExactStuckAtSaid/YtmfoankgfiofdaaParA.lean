/- The walks of the small functions of paragraphs: the program's and the reference's. -/
import Derived.Test.YtmfoankgfiofdaaParP
import Derived.Test.YtmfoankgfiofdaaNestM
import Derived.Test.YtmfoankgfiofdaaNestG
import Derived.Test.YtmfoankgfiofdaaApart
import Derived.Test.YtmfoankgfiofdaaXw
namespace Go.Proofs.Ytmfoankgfiofdaa
open Go.RowKit
set_option linter.unusedVariables false
theorem all_take {α : Type} {l : List α} {j : Nat} {y : α} (p : α → Bool) (h : l[j]? = some y) : (l.take (j + 1)).all p = ((l.take j).all p && p y) := by
  rw [take_snoc h]; simp
theorem all_no {α : Type} {l : List α} {j : Nat} {y : α} {p : α → Bool} (h : l[j]? = some y) (hp : p y = false) : l.all p = false := by
  rw [List.all_eq_false]; exact ⟨y, List.mem_of_getElem? h, by simp [hp]⟩
theorem within_any (n lo hi : Int) (w : World) : Calls Try.prog 40 #[.int .i64 n, .int .i64 lo, .int .i64 hi] w fun e w' => e = .returned (.bool (inB n lo hi)) ∧ w = w' := by
  unfold inB
  go_enter Try.func40, Try.ntmps40
  go_wp2
  all_goals (go_ret; simp [*]; try omega)
theorem l1In_any (n lo hi : Int) (w : World) : Calls Try.prog 39 #[.int .i64 n, .int .i64 lo, .int .i64 hi] w fun e w' => e = .returned (.bool (inB n lo hi)) ∧ w = w' := by
  unfold inB
  go_enter Try.func39, Try.ntmps39
  go_wp2
  all_goals (go_ret; simp [*]; try omega)
theorem impl_IsRule (r : Rul) (w : World) : Calls Try.prog 58 #[.agg #[.int .i64 r.least, .int .i64 r.normal, .int .i64 r.most]] w fun e w' => e = .returned (.bool (ruleOk r)) ∧ Ext w w' := by
  obtain ⟨a, b, c⟩ := r
  by_cases h1 : 1 ≤ a
  case neg =>
    have hv : ruleOk ⟨a, b, c⟩ = false := by simp [ruleOk, h1]
    rw [hv]; clear hv
    go_enter Try.func58, Try.ntmps58
    go_wp2
    go_ret
    exact ⟨rfl, (by repeat (first | exact Ext.refl _ | assumption | refine Ext.trans ?_ (Ext.alloc _ _) | refine Ext.trans ?_ (Ext.drew _) | refine Ext.trans ?_ (Ext.drewN _ _) | refine Ext.trans ?_ (by assumption)))⟩
  by_cases h2 : a ≤ b
  case neg =>
    have hv : ruleOk ⟨a, b, c⟩ = false := by simp [ruleOk, h2]
    rw [hv]; clear hv
    go_enter Try.func58, Try.ntmps58
    go_wp2
    go_ret
    exact ⟨rfl, (by repeat (first | exact Ext.refl _ | assumption | refine Ext.trans ?_ (Ext.alloc _ _) | refine Ext.trans ?_ (Ext.drew _) | refine Ext.trans ?_ (Ext.drewN _ _) | refine Ext.trans ?_ (by assumption)))⟩
  by_cases h3 : b ≤ c
  case neg =>
    have hv : ruleOk ⟨a, b, c⟩ = false := by simp [ruleOk, h3]
    rw [hv]; clear hv
    go_enter Try.func58, Try.ntmps58
    go_wp2
    go_ret
    exact ⟨rfl, (by repeat (first | exact Ext.refl _ | assumption | refine Ext.trans ?_ (Ext.alloc _ _) | refine Ext.trans ?_ (Ext.drew _) | refine Ext.trans ?_ (Ext.drewN _ _) | refine Ext.trans ?_ (by assumption)))⟩
  by_cases h4 : c ≤ 54
  case neg =>
    have hv : ruleOk ⟨a, b, c⟩ = false := by simp [ruleOk, h4]
    rw [hv]; clear hv
    go_enter Try.func58, Try.ntmps58
    go_wp2
    go_ret
    exact ⟨rfl, (by repeat (first | exact Ext.refl _ | assumption | refine Ext.trans ?_ (Ext.alloc _ _) | refine Ext.trans ?_ (Ext.drew _) | refine Ext.trans ?_ (Ext.drewN _ _) | refine Ext.trans ?_ (by assumption)))⟩
  have hv : ruleOk ⟨a, b, c⟩ = true := by simp [ruleOk, h1, h2, h3, h4]
  rw [hv]; clear hv
  go_enter Try.func58, Try.ntmps58
  go_wp2
  go_ret
  exact ⟨rfl, (by repeat (first | exact Ext.refl _ | assumption | refine Ext.trans ?_ (Ext.alloc _ _) | refine Ext.trans ?_ (Ext.drew _) | refine Ext.trans ?_ (Ext.drewN _ _) | refine Ext.trans ?_ (by assumption)))⟩
theorem spec_juRule (r : Rul) (w : World) : Calls Try.prog 56 #[.agg #[.int .i64 r.least, .int .i64 r.normal, .int .i64 r.most]] w fun e w' => e = .returned (.bool (ruleOk r)) ∧ Ext w w' := by
  obtain ⟨a, b, c⟩ := r
  by_cases h1 : 1 ≤ a
  case neg =>
    have hv : ruleOk ⟨a, b, c⟩ = false := by simp [ruleOk, h1]
    rw [hv]; clear hv
    go_enter Try.func56, Try.ntmps56
    go_wp2
    go_ret
    exact ⟨rfl, (by repeat (first | exact Ext.refl _ | assumption | refine Ext.trans ?_ (Ext.alloc _ _) | refine Ext.trans ?_ (Ext.drew _) | refine Ext.trans ?_ (Ext.drewN _ _) | refine Ext.trans ?_ (by assumption)))⟩
  by_cases h2 : a ≤ b
  case neg =>
    have hv : ruleOk ⟨a, b, c⟩ = false := by simp [ruleOk, h2]
    rw [hv]; clear hv
    go_enter Try.func56, Try.ntmps56
    go_wp2
    go_ret
    exact ⟨rfl, (by repeat (first | exact Ext.refl _ | assumption | refine Ext.trans ?_ (Ext.alloc _ _) | refine Ext.trans ?_ (Ext.drew _) | refine Ext.trans ?_ (Ext.drewN _ _) | refine Ext.trans ?_ (by assumption)))⟩
  by_cases h3 : b ≤ c
  case neg =>
    have hv : ruleOk ⟨a, b, c⟩ = false := by simp [ruleOk, h3]
    rw [hv]; clear hv
    go_enter Try.func56, Try.ntmps56
    go_wp2
    go_ret
    exact ⟨rfl, (by repeat (first | exact Ext.refl _ | assumption | refine Ext.trans ?_ (Ext.alloc _ _) | refine Ext.trans ?_ (Ext.drew _) | refine Ext.trans ?_ (Ext.drewN _ _) | refine Ext.trans ?_ (by assumption)))⟩
  by_cases h4 : c ≤ 54
  case neg =>
    have hv : ruleOk ⟨a, b, c⟩ = false := by simp [ruleOk, h4]
    rw [hv]; clear hv
    go_enter Try.func56, Try.ntmps56
    go_wp2
    go_ret
    exact ⟨rfl, (by repeat (first | exact Ext.refl _ | assumption | refine Ext.trans ?_ (Ext.alloc _ _) | refine Ext.trans ?_ (Ext.drew _) | refine Ext.trans ?_ (Ext.drewN _ _) | refine Ext.trans ?_ (by assumption)))⟩
  have hv : ruleOk ⟨a, b, c⟩ = true := by simp [ruleOk, h1, h2, h3, h4]
  rw [hv]; clear hv
  go_enter Try.func56, Try.ntmps56
  go_wp2
  go_ret
  exact ⟨rfl, (by repeat (first | exact Ext.refl _ | assumption | refine Ext.trans ?_ (Ext.alloc _ _) | refine Ext.trans ?_ (Ext.drew _) | refine Ext.trans ?_ (Ext.drewN _ _) | refine Ext.trans ?_ (by assumption)))⟩
theorem isMeasure_any (n : Int) (w : World) : Calls Try.prog 59 #[.int .i64 n] w fun e w' => e = .returned (.bool (inB n 1 2000)) ∧ w = w' := by
  go_enter Try.func59, Try.ntmps59
  go_wp2_with (go_at_call 40; refine (within_any _ _ _ _).mono ?_; rintro e w' ⟨rfl, rfl⟩)
  go_ret
  exact ⟨rfl, rfl⟩
theorem juMeasure_any (n : Int) (w : World) : Calls Try.prog 57 #[.int .i64 n] w fun e w' => e = .returned (.bool (inB n 1 2000)) ∧ w = w' := by
  go_enter Try.func57, Try.ntmps57
  go_wp2_with (go_at_call 39; refine (l1In_any _ _ _ _).mono ?_; rintro e w' ⟨rfl, rfl⟩)
  go_ret
  exact ⟨rfl, rfl⟩
theorem l1All_any (A : Option Addr) (c n : Nat) (l : List Int) (p q : Int) (lo hi : Nat) (w : World) (hn : l.length = n) (hl : n ≤ 1048577) (hr : RdI w lo hi A l) :
    Calls Try.prog 49 #[.slice A n c, .int .i64 p, .int .i64 q] w fun e w' => e = .returned (.bool (l.all fun x => inB x p q)) ∧ w = w' := by
  subst hn
  go_enter Try.func49, Try.ntmps49
  go_wp2
  go_loop [11] (fun i => ∃ k : Nat, k ≤ l.length ∧ i = .int .i64 k ∧ (l.take k).all (fun x => inB x p q) = true) (fun i => l.length - (intOf i).toNat)
  case atStart => exact ⟨0, Nat.zero_le _, rfl, rfl⟩
  case round =>
    obtain ⟨k, hk, rfl, hg⟩ := hrel
    have HG := Lib.hid hg; clear hg
    by_cases hlt : k < l.length
    · obtain ⟨x, b, off, HX, rfl, h1, h2, h3, c0, _⟩ := RdI.get hr hlt
      cases t1 : inB x p q
      · go_wp2_with (go_at_call 39; refine (l1In_any _ _ _ _).mono ?_; rintro e w' ⟨rfl, rfl⟩)
        go_ret
        exact ⟨ret_bool (all_no HX.out t1).symm, rfl⟩
      · go_wp2_with (go_at_call 39; refine (l1In_any _ _ _ _).mono ?_; rintro e w' ⟨rfl, rfl⟩)
        go_round
        case rel => exact ⟨k + 1, by omega, by go_num, by rw [all_take _ HX.out, HG.out, t1]; rfl⟩
        case measure => simp [intOf]; omega
    · have hkl : k = l.length := by omega
      subst hkl
      clear hlt
      have h := HG.out
      rw [List.take_of_length_le (Nat.le_refl _)] at h
      have HH := Lib.hid h; clear h
      go_wp2
      go_ret
      exact ⟨ret_bool HH.out.symm, rfl⟩
theorem impl_isParagraph (A : Option Addr) (c : Nat) (l : List Int) (lo hi : Nat) (w : World) (hl : l.length ≤ 1048577) (hr : RdI w lo hi A l) :
    Calls Try.prog 53 #[.slice A l.length c] w fun e w' => e = .returned (.bool (pw l)) ∧ w = w' := by
  go_enter Try.func53, Try.ntmps53
  go_wp2
  go_loop [7] (fun i => ∃ k : Nat, k ≤ l.length ∧ i = .int .i64 k ∧ (l.take k).all (fun x => inB x 1 600) = true) (fun i => l.length - (intOf i).toNat)
  case atStart => exact ⟨0, Nat.zero_le _, rfl, rfl⟩
  case round =>
    obtain ⟨k, hk, rfl, hg⟩ := hrel
    have HG := Lib.hid hg; clear hg
    by_cases hlt : k < l.length
    · obtain ⟨x, b, off, HX, rfl, h1, h2, h3, c0, _⟩ := RdI.get hr hlt
      cases t1 : inB x 1 600
      · go_wp2_with (go_at_call 40; refine (within_any _ _ _ _).mono ?_; rintro e w' ⟨rfl, rfl⟩)
        go_ret
        exact ⟨ret_bool (by rw [pw, all_no HX.out t1]; rfl), rfl⟩
      · go_wp2_with (go_at_call 40; refine (within_any _ _ _ _).mono ?_; rintro e w' ⟨rfl, rfl⟩)
        go_round
        case rel => exact ⟨k + 1, by omega, by go_num, by rw [all_take _ HX.out, HG.out, t1]; rfl⟩
        case measure => simp [intOf]; omega
    · have hkl : k = l.length := by omega
      subst hkl
      clear hlt
      have HV : Hid (pw l = inB l.length 1 24) := by
        show _ = _
        have h := HG.out
        rw [List.take_of_length_le (Nat.le_refl _)] at h
        simp [pw, h]
      go_wp2_with (go_at_call 40; refine (within_any _ _ _ _).mono ?_; rintro e w' ⟨rfl, rfl⟩)
      go_ret
      exact ⟨ret_bool HV.out.symm, rfl⟩
theorem spec_paWords (A : Option Addr) (c : Nat) (l : List Int) (lo hi : Nat) (w : World) (hl : l.length ≤ 1048577) (hr : RdI w lo hi A l) :
    Calls Try.prog 52 #[.slice A l.length c] w fun e w' => e = .returned (.bool (pw l)) ∧ w = w' := by
  cases h1 : inB l.length 1 24
  · have hv : pw l = false := by simp [pw, h1]
    rw [hv]; clear hv
    go_enter Try.func52, Try.ntmps52
    go_wp2_with (go_at_call 39; refine (l1In_any _ _ _ _).mono ?_; rintro e w' ⟨rfl, rfl⟩)
    go_ret
    exact ⟨rfl, rfl⟩
  · have hv : pw l = l.all fun x => inB x 1 600 := by simp [pw, h1]
    rw [hv]; clear hv
    go_enter Try.func52, Try.ntmps52
    go_wp2_with (first | (go_at_call 39; refine (l1In_any _ _ _ _).mono ?_; rintro e w' ⟨rfl, rfl⟩) | (go_at_call 49; refine (l1All_any A c _ l 1 600 lo hi _ rfl hl hr).mono ?_; rintro e w' ⟨rfl, rfl⟩))
    go_ret
    exact ⟨rfl, rfl⟩
theorem impl_asked (A : Option Addr) (c : Nat) (l : List Int) (r : Rul) (m : Int) (lo hi : Nat) (w : World) (hl : l.length ≤ 1048577) (hr0 : RdI w lo hi A l) :
    Calls Try.prog 37 #[.slice A l.length c, .agg #[.int .i64 r.least, .int .i64 r.normal, .int .i64 r.most], .int .i64 m] w fun e w' => e = .returned (.bool (asked l r m)) ∧ Ext w w' := by
  have hr := hr0.ext (Ext.alloc w (.cells #[.int .i64 r.least, .int .i64 r.normal, .int .i64 r.most] 28))
  cases h1 : pw l
  · have hv : asked l r m = false := by simp [asked, h1]
    rw [hv]; clear hv
    go_enter Try.func37, Try.ntmps37
    go_wp2_with (first | (go_at_call 53; refine (impl_isParagraph A c l lo hi _ hl hr).mono ?_; rintro e w' ⟨rfl, rfl⟩))
    go_ret
    exact ⟨rfl, (by repeat (first | exact Ext.refl _ | assumption | refine Ext.trans ?_ (Ext.alloc _ _) | refine Ext.trans ?_ (Ext.drew _) | refine Ext.trans ?_ (Ext.drewN _ _) | refine Ext.trans ?_ (by assumption)))⟩
  cases h2 : ruleOk r
  · have hv : asked l r m = false := by simp [asked, h2]
    rw [hv]; clear hv
    go_enter Try.func37, Try.ntmps37
    go_wp2_with (first | (go_at_call 53; refine (impl_isParagraph A c l lo hi _ hl hr).mono ?_; rintro e w' ⟨rfl, rfl⟩) | (go_at_call 58; refine (impl_IsRule r _).mono ?_; rintro e w1 ⟨rfl, hE1⟩; obtain ⟨hc1, hf1⟩ := bcell hE1; have hs1 := hE1.size; (try simp only [World.size_alloc] at hs1)))
    go_ret
    exact ⟨rfl, (by repeat (first | exact Ext.refl _ | assumption | refine Ext.trans ?_ (Ext.alloc _ _) | refine Ext.trans ?_ (Ext.drew _) | refine Ext.trans ?_ (Ext.drewN _ _) | refine Ext.trans ?_ (by assumption)))⟩
  have hv : asked l r m = inB m 1 2000 := by simp [asked, h1, h2]
  rw [hv]; clear hv
  go_enter Try.func37, Try.ntmps37
  go_wp2_with (first | (go_at_call 53; refine (impl_isParagraph A c l lo hi _ hl hr).mono ?_; rintro e w' ⟨rfl, rfl⟩) | (go_at_call 58; refine (impl_IsRule r _).mono ?_; rintro e w1 ⟨rfl, hE1⟩; obtain ⟨hc1, hf1⟩ := bcell hE1; have hs1 := hE1.size; (try simp only [World.size_alloc] at hs1)) | (go_at_call 59; refine (isMeasure_any _ _).mono ?_; rintro e w' ⟨rfl, rfl⟩))
  go_ret
  exact ⟨rfl, (by repeat (first | exact Ext.refl _ | assumption | refine Ext.trans ?_ (Ext.alloc _ _) | refine Ext.trans ?_ (Ext.drew _) | refine Ext.trans ?_ (Ext.drewN _ _) | refine Ext.trans ?_ (by assumption)))⟩
theorem spec_asked (A : Option Addr) (c : Nat) (l : List Int) (r : Rul) (m : Int) (lo hi : Nat) (w : World) (hl : l.length ≤ 1048577) (hr0 : RdI w lo hi A l) :
    Calls Try.prog 35 #[.slice A l.length c, .agg #[.int .i64 r.least, .int .i64 r.normal, .int .i64 r.most], .int .i64 m] w fun e w' => e = .returned (.bool (asked l r m)) ∧ Ext w w' := by
  have hr := hr0.ext (Ext.alloc w (.cells #[.int .i64 r.least, .int .i64 r.normal, .int .i64 r.most] 28))
  cases h1 : pw l
  · have hv : asked l r m = false := by simp [asked, h1]
    rw [hv]; clear hv
    go_enter Try.func35, Try.ntmps35
    go_wp2_with (first | (go_at_call 52; refine (spec_paWords A c l lo hi _ hl hr).mono ?_; rintro e w' ⟨rfl, rfl⟩))
    go_ret
    exact ⟨rfl, (by repeat (first | exact Ext.refl _ | assumption | refine Ext.trans ?_ (Ext.alloc _ _) | refine Ext.trans ?_ (Ext.drew _) | refine Ext.trans ?_ (Ext.drewN _ _) | refine Ext.trans ?_ (by assumption)))⟩
  cases h2 : ruleOk r
  · have hv : asked l r m = false := by simp [asked, h2]
    rw [hv]; clear hv
    go_enter Try.func35, Try.ntmps35
    go_wp2_with (first | (go_at_call 52; refine (spec_paWords A c l lo hi _ hl hr).mono ?_; rintro e w' ⟨rfl, rfl⟩) | (go_at_call 56; refine (spec_juRule r _).mono ?_; rintro e w1 ⟨rfl, hE1⟩; obtain ⟨hc1, hf1⟩ := bcell hE1; have hs1 := hE1.size; (try simp only [World.size_alloc] at hs1)))
    go_ret
    exact ⟨rfl, (by repeat (first | exact Ext.refl _ | assumption | refine Ext.trans ?_ (Ext.alloc _ _) | refine Ext.trans ?_ (Ext.drew _) | refine Ext.trans ?_ (Ext.drewN _ _) | refine Ext.trans ?_ (by assumption)))⟩
  have hv : asked l r m = inB m 1 2000 := by simp [asked, h1, h2]
  rw [hv]; clear hv
  go_enter Try.func35, Try.ntmps35
  go_wp2_with (first | (go_at_call 52; refine (spec_paWords A c l lo hi _ hl hr).mono ?_; rintro e w' ⟨rfl, rfl⟩) | (go_at_call 56; refine (spec_juRule r _).mono ?_; rintro e w1 ⟨rfl, hE1⟩; obtain ⟨hc1, hf1⟩ := bcell hE1; have hs1 := hE1.size; (try simp only [World.size_alloc] at hs1)) | (go_at_call 57; refine (juMeasure_any _ _).mono ?_; rintro e w' ⟨rfl, rfl⟩))
  go_ret
  exact ⟨rfl, (by repeat (first | exact Ext.refl _ | assumption | refine Ext.trans ?_ (Ext.alloc _ _) | refine Ext.trans ?_ (Ext.drew _) | refine Ext.trans ?_ (Ext.drewN _ _) | refine Ext.trans ?_ (by assumption)))⟩
theorem impl_increases (A : Option Addr) (c : Nat) (l : List Int) (p q : Int) (lo hi : Nat) (w : World) (hl : l.length ≤ 1048577) (hr : RdI w lo hi A l) :
    Calls Try.prog 63 #[.slice A l.length c, .int .i64 p, .int .i64 q] w fun e w' => e = .returned (.bool (rise l p q)) ∧ Ext w w' := by
  go_enter Try.func63, Try.ntmps63
  go_wp2
  go_loopw [11] (fun i wr => ∃ k : Nat, k ≤ l.length ∧ i = .int .i64 k ∧ riseTo l p q k = true ∧ Ext w wr) (fun i _ => l.length - (intOf i).toNat)
  case atStart => exact ⟨0, Nat.zero_le _, rfl, rfl, Ext.refl _⟩
  case round =>
    obtain ⟨k, hk, rfl, hg, hE⟩ := hrel
    have HG := Lib.hid hg; clear hg
    by_cases hlt : k < l.length
    · obtain ⟨x, b, off, HX, rfl, h1, h2, h3, c0, _⟩ := RdI.get (hr.ext hE) hlt
      have bad : riseAt l p q k x = false → rise l p q = false := rise_bad HX.out
      have BAD := Lib.hid bad; clear bad
      cases t1 : inB x p q
      · go_wp2_with (go_at_call 40; refine (within_any _ _ _ _).mono ?_; rintro e w' ⟨rfl, rfl⟩)
        go_ret
        exact ⟨ret_bool (BAD.out (by simp [riseAt, t1])).symm, (by repeat (first | exact Ext.refl _ | assumption | refine Ext.trans ?_ (Ext.alloc _ _) | refine Ext.trans ?_ (Ext.drew _) | refine Ext.trans ?_ (Ext.drewN _ _) | refine Ext.trans ?_ (by assumption)))⟩
      by_cases hk0 : k = 0
      · subst hk0
        simp only [Nat.add_zero] at c0
        go_wp2_with (go_at_call 40; refine (within_any _ _ _ _).mono ?_; rintro e w' ⟨rfl, rfl⟩)
        go_roundw
        case rel => exact ⟨1, by omega, by go_num, by rw [riseTo_succ HX.out, HG.out]; simp [riseAt, t1], (by repeat (first | exact Ext.refl _ | assumption | refine Ext.trans ?_ (Ext.alloc _ _) | refine Ext.trans ?_ (Ext.drew _) | refine Ext.trans ?_ (Ext.drewN _ _) | refine Ext.trans ?_ (by assumption)))⟩
        case measure => simp [intOf]; omega
      · have hk1 : 1 ≤ k := by omega
        have hk2 : 0 < k := by omega
        obtain ⟨y, b', off', HY, eA, _, _, _, d0, _⟩ := RdI.get (hr.ext hE) (k := k - 1) (by omega)
        injection eA with eA; injection eA with eb eo _; subst eb; subst eo
        have hat : riseAt l p q k x = decide (y < x) := by simp [riseAt, t1, hk0, HY.out]
        have HAT := Lib.hid hat; clear hat hk0
        by_cases hyx : x ≤ y
        · go_wp2_with (go_at_call 40; refine (within_any _ _ _ _).mono ?_; rintro e w' ⟨rfl, rfl⟩)
          go_ret
          exact ⟨ret_bool (BAD.out (by rw [HAT.out]; simp; omega)).symm, (by repeat (first | exact Ext.refl _ | assumption | refine Ext.trans ?_ (Ext.alloc _ _) | refine Ext.trans ?_ (Ext.drew _) | refine Ext.trans ?_ (Ext.drewN _ _) | refine Ext.trans ?_ (by assumption)))⟩
        · have hyx' : y < x := by omega
          go_wp2_with (go_at_call 40; refine (within_any _ _ _ _).mono ?_; rintro e w' ⟨rfl, rfl⟩)
          go_roundw
          case rel => exact ⟨k + 1, by omega, by go_num, by rw [riseTo_succ HX.out, HG.out, HAT.out]; simp; omega, (by repeat (first | exact Ext.refl _ | assumption | refine Ext.trans ?_ (Ext.alloc _ _) | refine Ext.trans ?_ (Ext.drew _) | refine Ext.trans ?_ (Ext.drewN _ _) | refine Ext.trans ?_ (by assumption)))⟩
          case measure => simp [intOf]; omega
    · have hkl : k = l.length := by omega
      subst hkl
      clear hlt
      go_wp2
      go_ret
      exact ⟨ret_bool (by rw [rise, HG.out]), (by repeat (first | exact Ext.refl _ | assumption | refine Ext.trans ?_ (Ext.alloc _ _) | refine Ext.trans ?_ (Ext.drew _) | refine Ext.trans ?_ (Ext.drewN _ _) | refine Ext.trans ?_ (by assumption)))⟩
theorem spec_l1Rising (A : Option Addr) (c : Nat) (l : List Int) (p q : Int) (lo hi : Nat) (w : World) (hl : l.length ≤ 1048577) (hr : RdI w lo hi A l) :
    Calls Try.prog 60 #[.slice A l.length c, .int .i64 p, .int .i64 q] w fun e w' => e = .returned (.bool (rise l p q)) ∧ Ext w w' := by
  go_enter Try.func60, Try.ntmps60
  go_wp2
  go_loopw [11] (fun i wr => ∃ k : Nat, k ≤ l.length ∧ i = .int .i64 k ∧ riseTo l p q k = true ∧ Ext w wr) (fun i _ => l.length - (intOf i).toNat)
  case atStart => exact ⟨0, Nat.zero_le _, rfl, rfl, Ext.refl _⟩
  case round =>
    obtain ⟨k, hk, rfl, hg, hE⟩ := hrel
    have HG := Lib.hid hg; clear hg
    by_cases hlt : k < l.length
    · obtain ⟨x, b, off, HX, rfl, h1, h2, h3, c0, _⟩ := RdI.get (hr.ext hE) hlt
      have bad : riseAt l p q k x = false → rise l p q = false := rise_bad HX.out
      have BAD := Lib.hid bad; clear bad
      cases t1 : inB x p q
      · go_wp2_with (go_at_call 39; refine (l1In_any _ _ _ _).mono ?_; rintro e w' ⟨rfl, rfl⟩)
        go_ret
        exact ⟨ret_bool (BAD.out (by simp [riseAt, t1])).symm, (by repeat (first | exact Ext.refl _ | assumption | refine Ext.trans ?_ (Ext.alloc _ _) | refine Ext.trans ?_ (Ext.drew _) | refine Ext.trans ?_ (Ext.drewN _ _) | refine Ext.trans ?_ (by assumption)))⟩
      by_cases hk0 : k = 0
      · subst hk0
        simp only [Nat.add_zero] at c0
        go_wp2_with (go_at_call 39; refine (l1In_any _ _ _ _).mono ?_; rintro e w' ⟨rfl, rfl⟩)
        go_roundw
        case rel => exact ⟨1, by omega, by go_num, by rw [riseTo_succ HX.out, HG.out]; simp [riseAt, t1], (by repeat (first | exact Ext.refl _ | assumption | refine Ext.trans ?_ (Ext.alloc _ _) | refine Ext.trans ?_ (Ext.drew _) | refine Ext.trans ?_ (Ext.drewN _ _) | refine Ext.trans ?_ (by assumption)))⟩
        case measure => simp [intOf]; omega
      · have hk1 : 1 ≤ k := by omega
        have hk2 : 0 < k := by omega
        obtain ⟨y, b', off', HY, eA, _, _, _, d0, _⟩ := RdI.get (hr.ext hE) (k := k - 1) (by omega)
        injection eA with eA; injection eA with eb eo _; subst eb; subst eo
        have hat : riseAt l p q k x = decide (y < x) := by simp [riseAt, t1, hk0, HY.out]
        have HAT := Lib.hid hat; clear hat hk0
        by_cases hyx : x ≤ y
        · go_wp2_with (go_at_call 39; refine (l1In_any _ _ _ _).mono ?_; rintro e w' ⟨rfl, rfl⟩)
          go_ret
          exact ⟨ret_bool (BAD.out (by rw [HAT.out]; simp; omega)).symm, (by repeat (first | exact Ext.refl _ | assumption | refine Ext.trans ?_ (Ext.alloc _ _) | refine Ext.trans ?_ (Ext.drew _) | refine Ext.trans ?_ (Ext.drewN _ _) | refine Ext.trans ?_ (by assumption)))⟩
        · have hyx' : y < x := by omega
          go_wp2_with (go_at_call 39; refine (l1In_any _ _ _ _).mono ?_; rintro e w' ⟨rfl, rfl⟩)
          go_roundw
          case rel => exact ⟨k + 1, by omega, by go_num, by rw [riseTo_succ HX.out, HG.out, HAT.out]; simp; omega, (by repeat (first | exact Ext.refl _ | assumption | refine Ext.trans ?_ (Ext.alloc _ _) | refine Ext.trans ?_ (Ext.drew _) | refine Ext.trans ?_ (Ext.drewN _ _) | refine Ext.trans ?_ (by assumption)))⟩
          case measure => simp [intOf]; omega
    · have hkl : k = l.length := by omega
      subst hkl
      clear hlt
      go_wp2
      go_ret
      exact ⟨ret_bool (by rw [rise, HG.out]), (by repeat (first | exact Ext.refl _ | assumption | refine Ext.trans ?_ (Ext.alloc _ _) | refine Ext.trans ?_ (Ext.drew _) | refine Ext.trans ?_ (Ext.drewN _ _) | refine Ext.trans ?_ (by assumption)))⟩
theorem impl_areBreaks (A B : Option Addr) (c d : Nat) (l br : List Int) (lo hi : Nat) (w : World) (hl : l.length ≤ 1048577) (hl' : br.length ≤ 1048577) (hr : RdI w lo hi B br) :
    Calls Try.prog 44 #[.slice A l.length c, .slice B br.length d] w fun e w' => e = .returned (.bool (brk l br)) ∧ Ext w w' := by
  go_enter Try.func44, Try.ntmps44
  go_wp2_with (go_at_call 63; refine (impl_increases B d br 1 ((l.length : Int) - 1) lo hi _ hl' hr).mono ?_; rintro e w1 ⟨rfl, hE1⟩; obtain ⟨hc1, hf1⟩ := bcell hE1; have hs1 := hE1.size; (try simp only [World.size_alloc] at hs1))
  go_ret
  exact ⟨rfl, (by repeat (first | exact Ext.refl _ | assumption | refine Ext.trans ?_ (Ext.alloc _ _) | refine Ext.trans ?_ (Ext.drew _) | refine Ext.trans ?_ (Ext.drewN _ _) | refine Ext.trans ?_ (by assumption)))⟩
theorem spec_paBreaks (A B : Option Addr) (c d : Nat) (l br : List Int) (lo hi : Nat) (w : World) (hl : l.length ≤ 1048577) (hl' : br.length ≤ 1048577) (hr : RdI w lo hi B br) :
    Calls Try.prog 41 #[.slice A l.length c, .slice B br.length d] w fun e w' => e = .returned (.bool (brk l br)) ∧ Ext w w' := by
  go_enter Try.func41, Try.ntmps41
  go_wp2_with (go_at_call 60; refine (spec_l1Rising B d br 1 ((l.length : Int) - 1) lo hi _ hl' hr).mono ?_; rintro e w1 ⟨rfl, hE1⟩; obtain ⟨hc1, hf1⟩ := bcell hE1; have hs1 := hE1.size; (try simp only [World.size_alloc] at hs1))
  go_ret
  exact ⟨rfl, (by repeat (first | exact Ext.refl _ | assumption | refine Ext.trans ?_ (Ext.alloc _ _) | refine Ext.trans ?_ (Ext.drew _) | refine Ext.trans ?_ (Ext.drewN _ _) | refine Ext.trans ?_ (by assumption)))⟩
theorem impl_sum (A : Option Addr) (c n : Nat) (l : List Int) (lo hi : Nat) (w : World) (hn : l.length = n) (hl : n ≤ 4000000) (hr : RdI w lo hi A l) :
    Calls Try.prog 66 #[.slice A n c] w fun e w' => e = .returned (.int .i64 (sumW l)) ∧ w = w' := by
  subst hn
  go_enter Try.func66, Try.ntmps66
  go_wp2
  go_loop [3, 8] (fun s i => ∃ k : Nat, k ≤ l.length ∧ i = .int .i64 k ∧ s = .int .i64 (sumW (l.take k))) (fun _ i => l.length - (intOf i).toNat)
  case atStart => exact ⟨0, Nat.zero_le _, rfl, by simp [sumW]⟩
  case round =>
    obtain ⟨k, hk, rfl, rfl⟩ := hrel
    by_cases hlt : k < l.length
    · obtain ⟨x, b, off, HX, rfl, h1, h2, h3, c0, _⟩ := RdI.get hr hlt
      go_wp2
      go_round
      case rel => exact ⟨k + 1, by omega, by go_num, by rw [sumW_snoc HX.out]⟩
      case measure => simp [intOf]; omega
    · go_wp2
      go_ret
      exact ⟨by rw [List.take_of_length_le (by omega)]; rfl, rfl⟩
theorem spec_juSum (A : Option Addr) (c n : Nat) (l : List Int) (lo hi : Nat) (w : World) (hn : l.length = n) (hl : n ≤ 4000000) (hr : RdI w lo hi A l) :
    Calls Try.prog 50 #[.slice A n c] w fun e w' => e = .returned (.int .i64 (sumW l)) ∧ w = w' := by
  subst hn
  go_enter Try.func50, Try.ntmps50
  go_wp2
  go_loop [3, 8] (fun s i => ∃ k : Nat, k ≤ l.length ∧ i = .int .i64 k ∧ s = .int .i64 (sumW (l.take k))) (fun _ i => l.length - (intOf i).toNat)
  case atStart => exact ⟨0, Nat.zero_le _, rfl, by simp [sumW]⟩
  case round =>
    obtain ⟨k, hk, rfl, rfl⟩ := hrel
    by_cases hlt : k < l.length
    · obtain ⟨x, b, off, HX, rfl, h1, h2, h3, c0, _⟩ := RdI.get hr hlt
      go_wp2
      go_round
      case rel => exact ⟨k + 1, by omega, by go_num, by rw [sumW_snoc HX.out]⟩
      case measure => simp [intOf]; omega
    · go_wp2
      go_ret
      exact ⟨by rw [List.take_of_length_le (by omega)]; rfl, rfl⟩
def RetI (w : World) (xs : List Int) (e : Ending) (w' : World) : Prop := ∃ A c, e = .returned (.slice A xs.length c) ∧ xs.length ≤ c ∧ RdI w' w.heap.size w'.heap.size A xs ∧ Ext w w'
def RetI2 (w : World) (p : List Int × Bool) (e : Ending) (w' : World) : Prop := ∃ A c, e = .returned (.tuple #[.slice A p.1.length c, .bool p.2]) ∧ p.1.length ≤ c ∧ RdI w' w.heap.size w'.heap.size A p.1 ∧ Ext w w'
theorem retI2_lit {w w' : World} {a : Option Addr} {c : Nat} (hE : Ext w w') : RetI2 w ([], false) (.returned (.tuple #[.slice a 0 c, .bool false])) w' := ⟨a, c, rfl, Nat.zero_le _, Rd.nil (Nat.le_refl _), hE⟩
theorem intInfo0' : (Try.prog.info? 3).map (fun i => (i.zero, i.size, i.bytes)) = some (some (.int .i64 0), 1, 8) := by kernel_rfl
theorem RdA.none_ {w : World} {lo hi : Nat} {A : Option Addr} {xs : List Value} (h : RdA w lo hi A xs) : A = none → xs.length = 0 := by
  intro hA
  cases xs with
  | nil => rfl
  | cons x xs => obtain ⟨b, off, e, _⟩ := h.2 (by simp); rw [hA] at e; cases e
theorem ints_one (l : List Int) : ∀ u ∈ l.map (Value.int .i64), u.oneCell' = true := by
  intro u hu
  obtain ⟨x, _, rfl⟩ := List.mem_map.1 hu
  rfl
theorem spec_l1Own (A : Option Addr) (c n : Nat) (l : List Int) (lo hi : Nat) (w : World) (hn : l.length = n) (hl : n ≤ 1048577) (hr : RdA w lo hi A (l.map (Value.int .i64))) :
    Calls Try.prog 54 #[.slice A n c] w (RetI w l) := by
  subst hn
  have hno : A = none → l.length = 0 := fun h => by have := hr.none_ h; simpa using this
  have HNO := Lib.hid hno; clear hno
  go_enter Try.func54, Try.ntmps54
  go_wp2_with (at_builtin; refine wp_app _ w rfl (.tmp 3) (.tmp 4) 22 rfl 3 _ 1 8 Try.underlying22 intInfo0 rfl (by omega) _ 0 [] rfl (own_lit0 _ _ (Nat.le_refl _) (Ext.refl _)) (by repeat (first | exact Ext.refl _ | assumption | refine Ext.trans ?_ (Ext.alloc _ _) | refine Ext.trans ?_ (Ext.drew _) | refine Ext.trans ?_ (Ext.drewN _ _) | refine Ext.trans ?_ (by assumption))) _ _ _ l.length _ (l.map (Value.int .i64)) rfl (by simp) (hr.ext (by repeat (first | exact Ext.refl _ | assumption | refine Ext.trans ?_ (Ext.alloc _ _) | refine Ext.trans ?_ (Ext.drew _) | refine Ext.trans ?_ (Ext.drewN _ _) | refine Ext.trans ?_ (by assumption)))) (ints_one l) (by omega) HNO.out ?_; intro v2 w2 hown2 hE2 hg2 hat2)
  rw [Nat.zero_add, List.nil_append] at hown2
  obtain ⟨A', c', rfl, hc', _⟩ := own_form hown2
  go_ret
  exact ⟨A', c', rfl, hc', Rd.of_own hown2, hE2⟩
end Go.Proofs.Ytmfoankgfiofdaa
