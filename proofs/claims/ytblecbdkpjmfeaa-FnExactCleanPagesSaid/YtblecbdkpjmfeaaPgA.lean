/- The walks of IsGalley, depthOf, isPaged, pageFill: the program's and the reference's. -/
import Derived.Test.YtblecbdkpjmfeaaProg
import Derived.Test.YtblecbdkpjmfeaaPgP
import Derived.Test.YtblecbdkpjmfeaaApp
import Derived.Outline
import Derived.Deep.RegionHeld3
import Derived.Deep.QuietTactic
import Derived.BigQuiet
namespace Go.Proofs.Ytblecbdkpjmfeaa
open Go.RowKit
theorem intInfo : (Try.prog.info? 3).map (fun i => (i.zero, i.size, i.bytes)) = some (some (.int .i64 0), 1, 8) := by kernel_rfl
theorem within_any (n lo hi : Int) (w : World) : Calls Try.prog 40 #[.int .i64 n, .int .i64 lo, .int .i64 hi] w fun e w' => e = .returned (.bool (inB n lo hi)) ∧ w = w' := by
  unfold inB
  go_enter Try.func40, Try.ntmps40
  go_wp2
  all_goals (go_ret; simp [*]; try omega)
theorem within_q (n lo hi : Int) (w : World) : Calls Try.prog 40 #[.int .i64 n, .int .i64 lo, .int .i64 hi] w fun e w' => e = .returned (.bool (inB n lo hi)) ∧ w' = w := (within_any n lo hi w).mono fun _ _ h => ⟨h.1, h.2.symm⟩
theorem l1In_any (n lo hi : Int) (w : World) : Calls Try.prog 56 #[.int .i64 n, .int .i64 lo, .int .i64 hi] w fun e w' => e = .returned (.bool (inB n lo hi)) ∧ w = w' := by
  unfold inB
  go_enter Try.func56, Try.ntmps56
  go_wp2
  all_goals (go_ret; simp [*]; try omega)

set_option maxRecDepth 100000 in
theorem impl_IsGalley (A : Option Addr) (c : Nat) (l : List SetL) (lo hi : Nat) (w : World) (hl : l.length ≤ 1048577) (hq : InRS l) (hr : RdS w lo hi A l) :
    Calls Try.prog 15 #[.slice A l.length c] w fun e w' => e = .returned (.bool (gal l)) ∧ Ext w w' := by
  go_enter Try.func15, Try.ntmps15
  go_wp2
  go_loopw [7] (fun i wr => ∃ k : Nat, k ≤ l.length ∧ i = .int .i64 k ∧ galTo l k = true ∧ Ext w wr) (fun i _ => l.length - (intOf i).toNat)
  case atStart => exact ⟨0, Nat.zero_le _, rfl, rfl, Ext.refl _⟩
  case round =>
    obtain ⟨k, hk, rfl, hg, hE⟩ := hrel
    have HG := Lib.hid hg; clear hg
    by_cases hlt : k < l.length
    · obtain ⟨x, b, off, HX, rfl, h1, h2, h3, c0, c1, c2⟩ := RdS.get (hr.ext hE) hlt
      have hxr := hq x (List.mem_of_getElem? HX.out)
      have hpb := prevP_bound hk HG.out
      have bad : okAt l k x = false → gal l = false := gal_bad HX.out
      have BAD := Lib.hid bad; clear bad
      cases t1 : inB x.depth 1 40
      · go_wp2_with (go_at_call 40; refine (within_any _ _ _ _).mono ?_; rintro e w' ⟨rfl, rfl⟩)
        go_ret
        exact ⟨ret_bool (BAD.out (by simp [okAt, t1])).symm, (by repeat (first | exact Ext.refl _ | assumption | refine Ext.trans ?_ (Ext.alloc _ _) | refine Ext.trans ?_ (Ext.drew _) | refine Ext.trans ?_ (Ext.drewN _ _) | refine Ext.trans ?_ (by assumption)))⟩
      cases t2 : inB x.note 0 60
      · go_wp2_with (go_at_call 40; refine (within_any _ _ _ _).mono ?_; rintro e w' ⟨rfl, rfl⟩)
        go_ret
        exact ⟨ret_bool (BAD.out (by simp [okAt, t2])).symm, (by repeat (first | exact Ext.refl _ | assumption | refine Ext.trans ?_ (Ext.alloc _ _) | refine Ext.trans ?_ (Ext.drew _) | refine Ext.trans ?_ (Ext.drewN _ _) | refine Ext.trans ?_ (by assumption)))⟩
      have hok := okAt_impl hxr ⟨hpb.1, by omega⟩ t1 t2
      have HOK := Lib.hid hok; clear hok
      by_cases hk0 : k = 0
      · subst hk0
        simp only [Nat.zero_mul, Nat.add_zero] at c0 c1 c2
        cases t3 : (x.para != 0)
        · go_wp2_with (go_at_call 40; refine (within_any _ _ _ _).mono ?_; rintro e w' ⟨rfl, rfl⟩)
          go_quiet ((go_at_call 40; exact Calls.quiet_of_same (within_q _ _ _ _)))
          go_wp2
          go_roundw
          case rel => exact ⟨1, by omega, by go_num, by rw [galTo_succ HX.out, HG.out, HOK.out]; simpa using t3, (by repeat (first | exact Ext.refl _ | assumption | refine Ext.trans ?_ (Ext.alloc _ _) | refine Ext.trans ?_ (Ext.drew _) | refine Ext.trans ?_ (Ext.drewN _ _) | refine Ext.trans ?_ (by assumption)))⟩
          case measure => simp [intOf]; omega
        · go_wp2_with (go_at_call 40; refine (within_any _ _ _ _).mono ?_; rintro e w' ⟨rfl, rfl⟩)
          go_quiet ((go_at_call 40; exact Calls.quiet_of_same (within_q _ _ _ _)))
          go_wp2
          go_ret
          exact ⟨ret_bool (BAD.out (by rw [HOK.out]; simpa using t3)).symm, (by repeat (first | exact Ext.refl _ | assumption | refine Ext.trans ?_ (Ext.alloc _ _) | refine Ext.trans ?_ (Ext.drew _) | refine Ext.trans ?_ (Ext.drewN _ _) | refine Ext.trans ?_ (by assumption)))⟩
      · have hk1 : 1 ≤ k := by omega
        have hz : ((k : Int) == 0) = false := by simp; omega
        obtain ⟨y, b', off', HY, eA, _, _, _, _, _, d2⟩ := RdS.get (hr.ext hE) (k := k - 1) (by omega)
        injection eA with eA; injection eA with eb eo _; subst eb; subst eo
        have hp : prevP l k = y.para := by simp [prevP, hk0, HY.out]
        have HP := Lib.hid hp; clear hp
        have hok2 : okAt l k x = inB (wrap64 (x.para - y.para)) 0 1 := by rw [HOK.out, if_neg hk0, HP.out]
        have HOK2 := Lib.hid hok2; clear hok2 hk0
        cases t3 : inB (wrap64 (x.para - y.para)) 0 1
        · go_wp2_with (go_at_call 40; refine (within_any _ _ _ _).mono ?_; rintro e w' ⟨rfl, rfl⟩)
          have g2 : (0 : Int) ≤ (k : Int) - 1 := by omega
          have g4 : (k : Int) - 1 < l.length := by omega
          have g5 : (0 : Int) < k := by omega
          have g7 : decide (0 < k) = true := by simp; omega
          have g8 : 0 < k := by omega
          have g3 : ((k : Int) - 1).toNat = k - 1 := by omega
          have g6 : IntKind.i64.wrap (x.para - y.para) = wrap64 (x.para - y.para) := IntWalk.i64_left _
          have g1 : IntKind.i64.wrap ((k : Int) - 1) = (k : Int) - 1 := IntWalk.i64_in _ (by omega)
          go_quiet ((go_at_call 40; exact Calls.quiet_of_same (within_q _ _ _ _)))
          clear g1 g3 g6
          go_wp2
          go_ret
          exact ⟨ret_bool (BAD.out (by rw [HOK2.out, t3])).symm, (by repeat (first | exact Ext.refl _ | assumption | refine Ext.trans ?_ (Ext.alloc _ _) | refine Ext.trans ?_ (Ext.drew _) | refine Ext.trans ?_ (Ext.drewN _ _) | refine Ext.trans ?_ (by assumption)))⟩
        · go_wp2_with (go_at_call 40; refine (within_any _ _ _ _).mono ?_; rintro e w' ⟨rfl, rfl⟩)
          have g2 : (0 : Int) ≤ (k : Int) - 1 := by omega
          have g4 : (k : Int) - 1 < l.length := by omega
          have g5 : (0 : Int) < k := by omega
          have g7 : decide (0 < k) = true := by simp; omega
          have g8 : 0 < k := by omega
          have g3 : ((k : Int) - 1).toNat = k - 1 := by omega
          have g6 : IntKind.i64.wrap (x.para - y.para) = wrap64 (x.para - y.para) := IntWalk.i64_left _
          have g1 : IntKind.i64.wrap ((k : Int) - 1) = (k : Int) - 1 := IntWalk.i64_in _ (by omega)
          go_quiet ((go_at_call 40; exact Calls.quiet_of_same (within_q _ _ _ _)))
          clear g1 g3 g6
          go_wp2
          go_roundw
          case rel => exact ⟨k + 1, by omega, by go_num, by rw [galTo_succ HX.out, HG.out, HOK2.out, t3]; rfl, (by repeat (first | exact Ext.refl _ | assumption | refine Ext.trans ?_ (Ext.alloc _ _) | refine Ext.trans ?_ (Ext.drew _) | refine Ext.trans ?_ (Ext.drewN _ _) | refine Ext.trans ?_ (by assumption)))⟩
          case measure => simp [intOf]; omega
    · have hkl : k = l.length := by omega
      subst hkl
      clear hlt
      go_wp2_with (go_at_call 40; refine (within_any _ _ _ _).mono ?_; rintro e w' ⟨rfl, rfl⟩)
      go_ret
      exact ⟨ret_bool (by rw [gal, HG.out]; simp), (by repeat (first | exact Ext.refl _ | assumption | refine Ext.trans ?_ (Ext.alloc _ _) | refine Ext.trans ?_ (Ext.drew _) | refine Ext.trans ?_ (Ext.drewN _ _) | refine Ext.trans ?_ (by assumption)))⟩

set_option maxRecDepth 100000 in
theorem spec_pgGood (A : Option Addr) (c : Nat) (l : List SetL) (lo hi : Nat) (w : World) (hl : l.length ≤ 1048577) (hr : RdS w lo hi A l) :
    Calls Try.prog 38 #[.slice A l.length c] w fun e w' => e = .returned (.bool (gal l)) ∧ Ext w w' := by
  go_enter Try.func38, Try.ntmps38
  go_wp2
  go_loopw [3, 8] (fun p i wr => ∃ k : Nat, k ≤ l.length ∧ i = .int .i64 k ∧ p = .int .i64 (prevP l k) ∧ galTo l k = true ∧ Ext w wr) (fun _ i _ => l.length - (intOf i).toNat)
  case atStart => exact ⟨0, Nat.zero_le _, rfl, rfl, rfl, Ext.refl _⟩
  case round =>
    obtain ⟨k, hk, rfl, rfl, hg, hE⟩ := hrel
    have HG := Lib.hid hg; clear hg
    by_cases hlt : k < l.length
    · obtain ⟨x, b, off, HX, rfl, h1, h2, h3, c0, c1, c2⟩ := RdS.get (hr.ext hE) hlt
      obtain ⟨hpb0, hpb1⟩ := prevP_bound hk HG.out
      have bad : okAt l k x = false → gal l = false := gal_bad HX.out
      have BAD := Lib.hid bad; clear bad
      cases t1 : inB x.depth 1 40
      · go_wp2_with (go_at_call 56; refine (l1In_any _ _ _ _).mono ?_; rintro e w' ⟨rfl, rfl⟩)
        go_ret
        exact ⟨ret_bool (BAD.out (by simp [okAt, t1])).symm, (by repeat (first | exact Ext.refl _ | assumption | refine Ext.trans ?_ (Ext.alloc _ _) | refine Ext.trans ?_ (Ext.drew _) | refine Ext.trans ?_ (Ext.drewN _ _) | refine Ext.trans ?_ (by assumption)))⟩
      cases t2 : inB x.note 0 60
      · go_wp2_with (go_at_call 56; refine (l1In_any _ _ _ _).mono ?_; rintro e w' ⟨rfl, rfl⟩)
        go_ret
        exact ⟨ret_bool (BAD.out (by simp [okAt, t2])).symm, (by repeat (first | exact Ext.refl _ | assumption | refine Ext.trans ?_ (Ext.alloc _ _) | refine Ext.trans ?_ (Ext.drew _) | refine Ext.trans ?_ (Ext.drewN _ _) | refine Ext.trans ?_ (by assumption)))⟩
      cases t3 : inB x.para (prevP l k) (prevP l k + 1)
      · go_wp2_with (go_at_call 56; refine (l1In_any _ _ _ _).mono ?_; rintro e w' ⟨rfl, rfl⟩)
        go_ret
        exact ⟨ret_bool (BAD.out (by simp [okAt, t3])).symm, (by repeat (first | exact Ext.refl _ | assumption | refine Ext.trans ?_ (Ext.alloc _ _) | refine Ext.trans ?_ (Ext.drew _) | refine Ext.trans ?_ (Ext.drewN _ _) | refine Ext.trans ?_ (by assumption)))⟩
      by_cases hk0 : k = 0
      · subst hk0
        simp only [Nat.zero_mul, Nat.add_zero] at c0 c1 c2
        cases t4 : (x.para != 0)
        · go_wp2_with (go_at_call 56; refine (l1In_any _ _ _ _).mono ?_; rintro e w' ⟨rfl, rfl⟩)
          go_roundw
          case rel => exact ⟨1, by omega, by go_num, by rw [prevP_succ HX.out], by rw [galTo_succ HX.out, HG.out, okAt, t1, t2, t3]; simpa using t4, (by repeat (first | exact Ext.refl _ | assumption | refine Ext.trans ?_ (Ext.alloc _ _) | refine Ext.trans ?_ (Ext.drew _) | refine Ext.trans ?_ (Ext.drewN _ _) | refine Ext.trans ?_ (by assumption)))⟩
          case measure => simp [intOf]; omega
        · go_wp2_with (go_at_call 56; refine (l1In_any _ _ _ _).mono ?_; rintro e w' ⟨rfl, rfl⟩)
          go_ret
          exact ⟨ret_bool (BAD.out (by rw [okAt, t1, t2, t3]; simpa using t4)).symm, (by repeat (first | exact Ext.refl _ | assumption | refine Ext.trans ?_ (Ext.alloc _ _) | refine Ext.trans ?_ (Ext.drew _) | refine Ext.trans ?_ (Ext.drewN _ _) | refine Ext.trans ?_ (by assumption)))⟩
      · have hz : ((k : Int) == 0) = false := by simp; omega
        go_wp2_with (go_at_call 56; refine (l1In_any _ _ _ _).mono ?_; rintro e w' ⟨rfl, rfl⟩)
        go_roundw
        case rel => exact ⟨k + 1, by omega, by go_num, by rw [prevP_succ HX.out], by rw [galTo_succ HX.out, HG.out, okAt, t1, t2, t3]; simp [hk0], (by repeat (first | exact Ext.refl _ | assumption | refine Ext.trans ?_ (Ext.alloc _ _) | refine Ext.trans ?_ (Ext.drew _) | refine Ext.trans ?_ (Ext.drewN _ _) | refine Ext.trans ?_ (by assumption)))⟩
        case measure => simp [intOf]; omega
    · have hkl : k = l.length := by omega
      subst hkl
      clear hlt
      go_wp2_with (go_at_call 56; refine (l1In_any _ _ _ _).mono ?_; rintro e w' ⟨rfl, rfl⟩)
      go_ret
      exact ⟨ret_bool (by rw [gal, HG.out]; simp), (by repeat (first | exact Ext.refl _ | assumption | refine Ext.trans ?_ (Ext.alloc _ _) | refine Ext.trans ?_ (Ext.drew _) | refine Ext.trans ?_ (Ext.drewN _ _) | refine Ext.trans ?_ (by assumption)))⟩
theorem spec_IsGalley (A : Option Addr) (c : Nat) (l : List SetL) (lo hi : Nat) (w : World) (hl : l.length ≤ 1048577) (hr : RdS w lo hi A l) :
    Calls Try.prog 13 #[.slice A l.length c] w fun e w' => e = .returned (.bool (gal l)) ∧ Ext w w' := by
  go_enter Try.func13, Try.ntmps13
  go_wp2_with (go_at_call 38; refine (spec_pgGood A c l lo hi _ hl hr).mono ?_; rintro e w1 ⟨rfl, hE1⟩; obtain ⟨hc1, hf1⟩ := bcell hE1; have hs1 := hE1.size; (try simp only [World.size_alloc] at hs1))
  go_ret
  exact ⟨rfl, (by repeat (first | exact Ext.refl _ | assumption | refine Ext.trans ?_ (Ext.alloc _ _) | refine Ext.trans ?_ (Ext.drew _) | refine Ext.trans ?_ (Ext.drewN _ _) | refine Ext.trans ?_ (by assumption)))⟩

theorem high_any (x : SetL) (w : World) : Calls Try.prog 57 #[.agg #[.int .i64 x.depth, .int .i64 x.note, .int .i64 x.para]] w fun e w' => e = .returned (.int .i64 (wrap64 (x.depth + x.note))) ∧ Ext w w' := by
  go_enter Try.func57, Try.ntmps57
  go_wp2
  go_ret
  exact ⟨rfl, (by repeat (first | exact Ext.refl _ | assumption | refine Ext.trans ?_ (Ext.alloc _ _) | refine Ext.trans ?_ (Ext.drew _) | refine Ext.trans ?_ (Ext.drewN _ _) | refine Ext.trans ?_ (by assumption)))⟩
theorem impl_depthOf (A : Option Addr) (c n : Nat) (l : List SetL) (lo hi : Nat) (w : World) (hn : l.length = n) (hl : n ≤ 1048577) (hr : RdS w lo hi A l) :
    Calls Try.prog 53 #[.slice A n c] w fun e w' => e = .returned (.int .i64 (deep l)) ∧ Ext w w' := by
  subst hn
  go_enter Try.func53, Try.ntmps53
  go_wp2
  go_loopw [3, 8] (fun s i wr => ∃ k : Nat, k ≤ l.length ∧ i = .int .i64 k ∧ s = .int .i64 (deep (l.take k)) ∧ Ext w wr) (fun _ i _ => l.length - (intOf i).toNat)
  case atStart => exact ⟨0, Nat.zero_le _, rfl, by simp [deep], Ext.refl _⟩
  case round =>
    obtain ⟨k, hk, rfl, rfl, hE⟩ := hrel
    by_cases hlt : k < l.length
    · obtain ⟨x, b, off, HX, rfl, h1, h2, h3, c0, c1, c2⟩ := RdS.get (hr.ext hE) hlt
      go_wp2_with (go_at_call 57; refine (high_any x _).mono ?_; rintro e w1 ⟨rfl, hE1⟩; obtain ⟨hc1, hf1⟩ := bcell hE1; have hs1 := hE1.size; (try simp only [World.size_alloc] at hs1))
      go_roundw
      case rel => exact ⟨k + 1, by omega, by go_num, by rw [deep_snoc HX.out], (by repeat (first | exact Ext.refl _ | assumption | refine Ext.trans ?_ (Ext.alloc _ _) | refine Ext.trans ?_ (Ext.drew _) | refine Ext.trans ?_ (Ext.drewN _ _) | refine Ext.trans ?_ (by assumption)))⟩
      case measure => simp [intOf]; omega
    · go_wp2
      go_ret
      exact ⟨by rw [List.take_of_length_le (by omega)]; rfl, hE⟩
theorem spec_pgDeep (A : Option Addr) (c n : Nat) (l : List SetL) (lo hi : Nat) (w : World) (hn : l.length = n) (hl : n ≤ 1048577) (hr : RdS w lo hi A l) :
    Calls Try.prog 52 #[.slice A n c] w fun e w' => e = .returned (.int .i64 (deep l)) ∧ Ext w w' := by
  subst hn
  go_enter Try.func52, Try.ntmps52
  go_wp2
  go_loopw [3, 8] (fun s i wr => ∃ k : Nat, k ≤ l.length ∧ i = .int .i64 k ∧ s = .int .i64 (deep (l.take k)) ∧ Ext w wr) (fun _ i _ => l.length - (intOf i).toNat)
  case atStart => exact ⟨0, Nat.zero_le _, rfl, by simp [deep], Ext.refl _⟩
  case round =>
    obtain ⟨k, hk, rfl, rfl, hE⟩ := hrel
    by_cases hlt : k < l.length
    · obtain ⟨x, b, off, HX, rfl, h1, h2, h3, c0, c1, c2⟩ := RdS.get (hr.ext hE) hlt
      go_wp2
      go_roundw
      case rel => exact ⟨k + 1, by omega, by go_num, by rw [deep_snoc HX.out], (by repeat (first | exact Ext.refl _ | assumption | refine Ext.trans ?_ (Ext.alloc _ _) | refine Ext.trans ?_ (Ext.drew _) | refine Ext.trans ?_ (Ext.drewN _ _) | refine Ext.trans ?_ (by assumption)))⟩
      case measure => simp [intOf]; omega
    · go_wp2
      go_ret
      exact ⟨by rw [List.take_of_length_le (by omega)]; rfl, hE⟩

theorem impl_isPaged (A : Option Addr) (c : Nat) (l : List SetL) (d : Int) (lo hi : Nat) (w : World) (hl : l.length ≤ 1048577) (hq : InRS l) (hr : RdS w lo hi A l) :
    Calls Try.prog 44 #[.slice A l.length c, .int .i64 d] w fun e w' => e = .returned (.bool (paged l d)) ∧ Ext w w' := by
  go_enter Try.func44, Try.ntmps44
  go_wp2
  go_loopw [9] (fun i wr => ∃ k : Nat, k ≤ l.length ∧ i = .int .i64 k ∧ (∀ (j : Nat) y, j < k → l[j]? = some y → wrap64 (y.depth + y.note) ≤ d) ∧ Ext w wr) (fun i _ => l.length - (intOf i).toNat)
  case atStart => exact ⟨0, Nat.zero_le _, rfl, fun j y hj => absurd hj (by omega), Ext.refl _⟩
  case round =>
    obtain ⟨k, hk, rfl, hn, hE⟩ := hrel
    have HN := Lib.hid hn; clear hn
    by_cases hlt : k < l.length
    · obtain ⟨x, b, off, HX, rfl, h1, h2, h3, c0, c1, c2⟩ := RdS.get (hr.ext hE) hlt
      by_cases hd : d < wrap64 (x.depth + x.note)
      · go_wp2_with (go_at_call 57; refine (high_any x _).mono ?_; rintro e w1 ⟨rfl, hE1⟩; obtain ⟨hc1, hf1⟩ := bcell hE1; have hs1 := hE1.size; (try simp only [World.size_alloc] at hs1))
        go_ret
        exact ⟨ret_bool (paged_badI (List.mem_of_getElem? HX.out) hd).symm, (by repeat (first | exact Ext.refl _ | assumption | refine Ext.trans ?_ (Ext.alloc _ _) | refine Ext.trans ?_ (Ext.drew _) | refine Ext.trans ?_ (Ext.drewN _ _) | refine Ext.trans ?_ (by assumption)))⟩
      · go_wp2_with (go_at_call 57; refine (high_any x _).mono ?_; rintro e w1 ⟨rfl, hE1⟩; obtain ⟨hc1, hf1⟩ := bcell hE1; have hs1 := hE1.size; (try simp only [World.size_alloc] at hs1))
        go_roundw
        case rel => exact ⟨k + 1, by omega, by go_num, fun j y hj hy => (by
            by_cases e : j = k
            · subst e; have := HX.out.symm.trans hy; injection this with this; subst this; omega
            · exact HN.out j y (by omega) hy), (by repeat (first | exact Ext.refl _ | assumption | refine Ext.trans ?_ (Ext.alloc _ _) | refine Ext.trans ?_ (Ext.drew _) | refine Ext.trans ?_ (Ext.drewN _ _) | refine Ext.trans ?_ (by assumption)))⟩
        case measure => simp [intOf]; omega
    · have hkl : k = l.length := by omega
      subst hkl
      clear hlt
      have hp : paged l d = (gal l && inB d 40 2000) := paged_goodI fun x hx => by
        obtain ⟨i, hi, rfl⟩ := List.mem_iff_getElem.1 hx
        exact HN.out i _ hi (List.getElem?_eq_getElem hi)
      have HP := Lib.hid hp; clear hp
      cases hg : gal l
      · go_wp2_with (go_at_call 15; refine (impl_IsGalley A c l lo hi _ hl hq (hr.ext hE)).mono ?_; rintro e w1 ⟨rfl, hE1⟩; obtain ⟨hc1, hf1⟩ := bcell hE1; have hs1 := hE1.size; (try simp only [World.size_alloc] at hs1))
        go_ret
        exact ⟨ret_bool (by rw [HP.out, hg]; rfl), (by repeat (first | exact Ext.refl _ | assumption | refine Ext.trans ?_ (Ext.alloc _ _) | refine Ext.trans ?_ (Ext.drew _) | refine Ext.trans ?_ (Ext.drewN _ _) | refine Ext.trans ?_ (by assumption)))⟩
      · go_wp2_with (first | (go_at_call 15; refine (impl_IsGalley A c l lo hi _ hl hq (hr.ext hE)).mono ?_; rintro e w1 ⟨rfl, hE1⟩; obtain ⟨hc1, hf1⟩ := bcell hE1; have hs1 := hE1.size; (try simp only [World.size_alloc] at hs1)) | (go_at_call 40; refine (within_any _ _ _ _).mono ?_; rintro e w' ⟨rfl, rfl⟩))
        go_ret
        exact ⟨ret_bool (by rw [HP.out, hg]; rfl), (by repeat (first | exact Ext.refl _ | assumption | refine Ext.trans ?_ (Ext.alloc _ _) | refine Ext.trans ?_ (Ext.drew _) | refine Ext.trans ?_ (Ext.drewN _ _) | refine Ext.trans ?_ (by assumption)))⟩

theorem spec_pgAsked (A : Option Addr) (c : Nat) (l : List SetL) (d : Int) (lo hi : Nat) (w : World) (hl : l.length ≤ 1048577) (hr : RdS w lo hi A l) :
    Calls Try.prog 42 #[.slice A l.length c, .int .i64 d] w fun e w' => e = .returned (.bool (paged l d)) ∧ Ext w w' := by
  go_enter Try.func42, Try.ntmps42
  go_wp2
  go_loopw [9] (fun i wr => ∃ k : Nat, k ≤ l.length ∧ i = .int .i64 k ∧ (∀ (j : Nat) y, j < k → l[j]? = some y → (inB y.depth 1 40 && inB y.note 0 60) = true → y.depth + y.note ≤ d) ∧ Ext w wr) (fun i _ => l.length - (intOf i).toNat)
  case atStart => exact ⟨0, Nat.zero_le _, rfl, fun j y hj => absurd hj (by omega), Ext.refl _⟩
  case round =>
    obtain ⟨k, hk, rfl, hn, hE⟩ := hrel
    have HN := Lib.hid hn; clear hn
    by_cases hlt : k < l.length
    · obtain ⟨x, b, off, HX, rfl, h1, h2, h3, c0, c1, c2⟩ := RdS.get (hr.ext hE) hlt
      have go : ((inB x.depth 1 40 && inB x.note 0 60) = true → x.depth + x.note ≤ d) → ∀ (j : Nat) y, j < k + 1 → l[j]? = some y → (inB y.depth 1 40 && inB y.note 0 60) = true → y.depth + y.note ≤ d := by
        intro hx j y hj hy
        by_cases e : j = k
        · subst e; have := HX.out.symm.trans hy; injection this with this; subst this; exact hx
        · exact HN.out j y (by omega) hy
      have GO := Lib.hid go; clear go
      cases t1 : inB x.depth 1 40
      · go_wp2_with (go_at_call 56; refine (l1In_any _ _ _ _).mono ?_; rintro e w' ⟨rfl, rfl⟩)
        go_roundw
        case rel => exact ⟨k + 1, by omega, by go_num, GO.out (by simp [t1]), (by repeat (first | exact Ext.refl _ | assumption | refine Ext.trans ?_ (Ext.alloc _ _) | refine Ext.trans ?_ (Ext.drew _) | refine Ext.trans ?_ (Ext.drewN _ _) | refine Ext.trans ?_ (by assumption)))⟩
        case measure => simp [intOf]; omega
      cases t2 : inB x.note 0 60
      · go_wp2_with (go_at_call 56; refine (l1In_any _ _ _ _).mono ?_; rintro e w' ⟨rfl, rfl⟩)
        go_roundw
        case rel => exact ⟨k + 1, by omega, by go_num, GO.out (by simp [t2]), (by repeat (first | exact Ext.refl _ | assumption | refine Ext.trans ?_ (Ext.alloc _ _) | refine Ext.trans ?_ (Ext.drew _) | refine Ext.trans ?_ (Ext.drewN _ _) | refine Ext.trans ?_ (by assumption)))⟩
        case measure => simp [intOf]; omega
      obtain ⟨q1, q2⟩ := inB_iff.1 t1
      obtain ⟨q3, q4⟩ := inB_iff.1 t2
      by_cases hd : d < x.depth + x.note
      · go_wp2_with (go_at_call 56; refine (l1In_any _ _ _ _).mono ?_; rintro e w' ⟨rfl, rfl⟩)
        go_ret
        exact ⟨ret_bool (paged_badS (List.mem_of_getElem? HX.out) hd).symm, (by repeat (first | exact Ext.refl _ | assumption | refine Ext.trans ?_ (Ext.alloc _ _) | refine Ext.trans ?_ (Ext.drew _) | refine Ext.trans ?_ (Ext.drewN _ _) | refine Ext.trans ?_ (by assumption)))⟩
      · go_wp2_with (go_at_call 56; refine (l1In_any _ _ _ _).mono ?_; rintro e w' ⟨rfl, rfl⟩)
        go_roundw
        case rel => exact ⟨k + 1, by omega, by go_num, GO.out (fun _ => by omega), (by repeat (first | exact Ext.refl _ | assumption | refine Ext.trans ?_ (Ext.alloc _ _) | refine Ext.trans ?_ (Ext.drew _) | refine Ext.trans ?_ (Ext.drewN _ _) | refine Ext.trans ?_ (by assumption)))⟩
        case measure => simp [intOf]; omega
    · have hkl : k = l.length := by omega
      subst hkl
      clear hlt
      have hp : paged l d = (gal l && inB d 40 2000) := paged_goodS fun x hx => by
        obtain ⟨i, hi, rfl⟩ := List.mem_iff_getElem.1 hx
        exact HN.out i _ hi (List.getElem?_eq_getElem hi)
      have HP := Lib.hid hp; clear hp
      cases hg : gal l
      · go_wp2_with (go_at_call 38; refine (spec_pgGood A c l lo hi _ hl (hr.ext hE)).mono ?_; rintro e w1 ⟨rfl, hE1⟩; obtain ⟨hc1, hf1⟩ := bcell hE1; have hs1 := hE1.size; (try simp only [World.size_alloc] at hs1))
        go_ret
        exact ⟨ret_bool (by rw [HP.out, hg]; rfl), (by repeat (first | exact Ext.refl _ | assumption | refine Ext.trans ?_ (Ext.alloc _ _) | refine Ext.trans ?_ (Ext.drew _) | refine Ext.trans ?_ (Ext.drewN _ _) | refine Ext.trans ?_ (by assumption)))⟩
      · go_wp2_with (first | (go_at_call 38; refine (spec_pgGood A c l lo hi _ hl (hr.ext hE)).mono ?_; rintro e w1 ⟨rfl, hE1⟩; obtain ⟨hc1, hf1⟩ := bcell hE1; have hs1 := hE1.size; (try simp only [World.size_alloc] at hs1)) | (go_at_call 56; refine (l1In_any _ _ _ _).mono ?_; rintro e w' ⟨rfl, rfl⟩))
        go_ret
        exact ⟨ret_bool (by rw [HP.out, hg]; rfl), (by repeat (first | exact Ext.refl _ | assumption | refine Ext.trans ?_ (Ext.alloc _ _) | refine Ext.trans ?_ (Ext.drew _) | refine Ext.trans ?_ (Ext.drewN _ _) | refine Ext.trans ?_ (by assumption)))⟩
end Go.Proofs.Ytblecbdkpjmfeaa
