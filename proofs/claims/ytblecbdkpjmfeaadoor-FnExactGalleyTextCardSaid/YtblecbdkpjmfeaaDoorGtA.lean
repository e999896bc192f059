/- The walks that GalleyText comes to: sizes and copies of lines; is it a galley, is it a paragraph's last line? -/
import Derived.Test.YtblecbdkpjmfeaaDoorProg
import Derived.Test.YtblecbdkpjmfeaaDoorPgP
import Derived.Test.YtblecbdkpjmfeaaDoorApp
import Derived.Outline
import Derived.Deep.RegionHeld3
import Derived.Deep.QuietTactic
import Derived.BigQuiet
import Derived.Laws.MakeOwn
namespace Go.Proofs.YtblecbdkpjmfeaaDoor
open Go.RowKit
set_option linter.unusedVariables false
theorem within_any (n lo hi : Int) (w : World) : Calls Tryd.prog 17 #[.int .i64 n, .int .i64 lo, .int .i64 hi] w fun e w' => e = .returned (.bool (inB n lo hi)) ∧ w = w' := by
  unfold inB
  go_enter Tryd.func17, Tryd.ntmps17
  go_wp2
  all_goals (go_ret; simp [*]; try omega)
theorem within_q (n lo hi : Int) (w : World) : Calls Tryd.prog 17 #[.int .i64 n, .int .i64 lo, .int .i64 hi] w fun e w' => e = .returned (.bool (inB n lo hi)) ∧ w' = w := (within_any n lo hi w).mono fun _ _ h => ⟨h.1, h.2.symm⟩
theorem l1In_any (n lo hi : Int) (w : World) : Calls Tryd.prog 16 #[.int .i64 n, .int .i64 lo, .int .i64 hi] w fun e w' => e = .returned (.bool (inB n lo hi)) ∧ w = w' := by
  unfold inB
  go_enter Tryd.func16, Tryd.ntmps16
  go_wp2
  all_goals (go_ret; simp [*]; try omega)

set_option maxRecDepth 100000 in
theorem impl_IsGalley (A : Option Addr) (c : Nat) (l : List SetL) (lo hi : Nat) (w : World) (hl : l.length ≤ 1048577) (hq : InRS l) (hr : RdS w lo hi A l) :
    Calls Tryd.prog 12 #[.slice A l.length c] w fun e w' => e = .returned (.bool (gal l)) ∧ Ext w w' := by
  go_enter Tryd.func12, Tryd.ntmps12
  go_wp2
  go_loopw [7] (fun i wr => ∃ k : Nat, k ≤ l.length ∧ i = .int .i64 k ∧ galTo l k = true ∧ Ext w wr) (fun i _ => l.length - (intOf i).toNat)
  case atStart => exact ⟨0, Nat.zero_le _, rfl, rfl, Ext.refl _⟩
  case round =>
    obtain ⟨k, hk, rfl, hg, hE⟩ := hrel
    have HG := Lib.hid hg; clear hg
    by_cases hlt : k < l.length
    · obtain ⟨x, b, off, HX, rfl, h1, h2, h3, c0, c1, c2⟩ := RdS.get (hr.ext hE) hlt
      have hxr := hq x (List.mem_of_getElem? HX.out)
      have hpb := prevP_bound hk HG.out
      have bad : okAt l k x = false → gal l = false := gal_bad HX.out
      have BAD := Lib.hid bad; clear bad
      cases t1 : inB x.depth 1 40
      · go_wp2_with (go_at_call 17; refine (within_any _ _ _ _).mono ?_; rintro e w' ⟨rfl, rfl⟩)
        go_ret
        exact ⟨ret_bool (BAD.out (by simp [okAt, t1])).symm, (by repeat (first | exact Ext.refl _ | assumption | refine Ext.trans ?_ (Ext.alloc _ _) | refine Ext.trans ?_ (Ext.drew _) | refine Ext.trans ?_ (Ext.drewN _ _) | refine Ext.trans ?_ (by assumption)))⟩
      cases t2 : inB x.note 0 60
      · go_wp2_with (go_at_call 17; refine (within_any _ _ _ _).mono ?_; rintro e w' ⟨rfl, rfl⟩)
        go_ret
        exact ⟨ret_bool (BAD.out (by simp [okAt, t2])).symm, (by repeat (first | exact Ext.refl _ | assumption | refine Ext.trans ?_ (Ext.alloc _ _) | refine Ext.trans ?_ (Ext.drew _) | refine Ext.trans ?_ (Ext.drewN _ _) | refine Ext.trans ?_ (by assumption)))⟩
      have hok := okAt_impl hxr ⟨hpb.1, by omega⟩ t1 t2
      have HOK := Lib.hid hok; clear hok
      by_cases hk0 : k = 0
      · subst hk0
        simp only [Nat.zero_mul, Nat.add_zero] at c0 c1 c2
        cases t3 : (x.para != 0)
        · go_wp2_with (go_at_call 17; refine (within_any _ _ _ _).mono ?_; rintro e w' ⟨rfl, rfl⟩)
          go_quiet ((go_at_call 17; exact Calls.quiet_of_same (within_q _ _ _ _)))
          go_wp2
          go_roundw
          case rel => exact ⟨1, by omega, by go_num, by rw [galTo_succ HX.out, HG.out, HOK.out]; simpa using t3, (by repeat (first | exact Ext.refl _ | assumption | refine Ext.trans ?_ (Ext.alloc _ _) | refine Ext.trans ?_ (Ext.drew _) | refine Ext.trans ?_ (Ext.drewN _ _) | refine Ext.trans ?_ (by assumption)))⟩
          case measure => simp [intOf]; omega
        · go_wp2_with (go_at_call 17; refine (within_any _ _ _ _).mono ?_; rintro e w' ⟨rfl, rfl⟩)
          go_quiet ((go_at_call 17; exact Calls.quiet_of_same (within_q _ _ _ _)))
          go_wp2
          go_ret
          exact ⟨ret_bool (BAD.out (by rw [HOK.out]; simpa using t3)).symm, (by repeat (first | exact Ext.refl _ | assumption | refine Ext.trans ?_ (Ext.alloc _ _) | refine Ext.trans ?_ (Ext.drew _) | refine Ext.trans ?_ (Ext.drewN _ _) | refine Ext.trans ?_ (by assumption)))⟩
      · have hk1 : 1 ≤ k := by omega
        have hz : ((k : Int) == 0) = false := by simp; omega
        obtain ⟨y, b', off', HY, eA, _, _, _, _, _, d2⟩ := RdS.get (hr.ext hE) (k := k - 1) (by omega)
        injection eA with eA; injection eA with eb eo _; subst eb; subst eo
        have hp : prevP l k = y.para := by simp [prevP, hk0, HY.out]
        have HP := Lib.hid hp; clear hp
        have hok2 : okAt l k x = inB (wrap64 (x.para - y.para)) 0 1 := by rw [HOK.out, if_neg hk0, HP.out]
        have HOK2 := Lib.hid hok2; clear hok2 hk0
        cases t3 : inB (wrap64 (x.para - y.para)) 0 1
        · go_wp2_with (go_at_call 17; refine (within_any _ _ _ _).mono ?_; rintro e w' ⟨rfl, rfl⟩)
          have g2 : (0 : Int) ≤ (k : Int) - 1 := by omega
          have g4 : (k : Int) - 1 < l.length := by omega
          have g5 : (0 : Int) < k := by omega
          have g7 : decide (0 < k) = true := by simp; omega
          have g8 : 0 < k := by omega
          have g3 : ((k : Int) - 1).toNat = k - 1 := by omega
          have g6 : IntKind.i64.wrap (x.para - y.para) = wrap64 (x.para - y.para) := IntWalk.i64_left _
          have g1 : IntKind.i64.wrap ((k : Int) - 1) = (k : Int) - 1 := IntWalk.i64_in _ (by omega)
          go_quiet ((go_at_call 17; exact Calls.quiet_of_same (within_q _ _ _ _)))
          clear g1 g3 g6
          go_wp2
          go_ret
          exact ⟨ret_bool (BAD.out (by rw [HOK2.out, t3])).symm, (by repeat (first | exact Ext.refl _ | assumption | refine Ext.trans ?_ (Ext.alloc _ _) | refine Ext.trans ?_ (Ext.drew _) | refine Ext.trans ?_ (Ext.drewN _ _) | refine Ext.trans ?_ (by assumption)))⟩
        · go_wp2_with (go_at_call 17; refine (within_any _ _ _ _).mono ?_; rintro e w' ⟨rfl, rfl⟩)
          have g2 : (0 : Int) ≤ (k : Int) - 1 := by omega
          have g4 : (k : Int) - 1 < l.length := by omega
          have g5 : (0 : Int) < k := by omega
          have g7 : decide (0 < k) = true := by simp; omega
          have g8 : 0 < k := by omega
          have g3 : ((k : Int) - 1).toNat = k - 1 := by omega
          have g6 : IntKind.i64.wrap (x.para - y.para) = wrap64 (x.para - y.para) := IntWalk.i64_left _
          have g1 : IntKind.i64.wrap ((k : Int) - 1) = (k : Int) - 1 := IntWalk.i64_in _ (by omega)
          go_quiet ((go_at_call 17; exact Calls.quiet_of_same (within_q _ _ _ _)))
          clear g1 g3 g6
          go_wp2
          go_roundw
          case rel => exact ⟨k + 1, by omega, by go_num, by rw [galTo_succ HX.out, HG.out, HOK2.out, t3]; rfl, (by repeat (first | exact Ext.refl _ | assumption | refine Ext.trans ?_ (Ext.alloc _ _) | refine Ext.trans ?_ (Ext.drew _) | refine Ext.trans ?_ (Ext.drewN _ _) | refine Ext.trans ?_ (by assumption)))⟩
          case measure => simp [intOf]; omega
    · have hkl : k = l.length := by omega
      subst hkl
      clear hlt
      go_wp2_with (go_at_call 17; refine (within_any _ _ _ _).mono ?_; rintro e w' ⟨rfl, rfl⟩)
      go_ret
      exact ⟨ret_bool (by rw [gal, HG.out]; simp), (by repeat (first | exact Ext.refl _ | assumption | refine Ext.trans ?_ (Ext.alloc _ _) | refine Ext.trans ?_ (Ext.drew _) | refine Ext.trans ?_ (Ext.drewN _ _) | refine Ext.trans ?_ (by assumption)))⟩

set_option maxRecDepth 100000 in
theorem spec_pgGood (A : Option Addr) (c : Nat) (l : List SetL) (lo hi : Nat) (w : World) (hl : l.length ≤ 1048577) (hr : RdS w lo hi A l) :
    Calls Tryd.prog 9 #[.slice A l.length c] w fun e w' => e = .returned (.bool (gal l)) ∧ Ext w w' := by
  go_enter Tryd.func9, Tryd.ntmps9
  go_wp2
  go_loopw [3, 8] (fun p i wr => ∃ k : Nat, k ≤ l.length ∧ i = .int .i64 k ∧ p = .int .i64 (prevP l k) ∧ galTo l k = true ∧ Ext w wr) (fun _ i _ => l.length - (intOf i).toNat)
  case atStart => exact ⟨0, Nat.zero_le _, rfl, rfl, rfl, Ext.refl _⟩
  case round =>
    obtain ⟨k, hk, rfl, rfl, hg, hE⟩ := hrel
    have HG := Lib.hid hg; clear hg
    by_cases hlt : k < l.length
    · obtain ⟨x, b, off, HX, rfl, h1, h2, h3, c0, c1, c2⟩ := RdS.get (hr.ext hE) hlt
      obtain ⟨hpb0, hpb1⟩ := prevP_bound hk HG.out
      have bad : okAt l k x = false → gal l = false := gal_bad HX.out
      have BAD := Lib.hid bad; clear bad
      cases t1 : inB x.depth 1 40
      · go_wp2_with (go_at_call 16; refine (l1In_any _ _ _ _).mono ?_; rintro e w' ⟨rfl, rfl⟩)
        go_ret
        exact ⟨ret_bool (BAD.out (by simp [okAt, t1])).symm, (by repeat (first | exact Ext.refl _ | assumption | refine Ext.trans ?_ (Ext.alloc _ _) | refine Ext.trans ?_ (Ext.drew _) | refine Ext.trans ?_ (Ext.drewN _ _) | refine Ext.trans ?_ (by assumption)))⟩
      cases t2 : inB x.note 0 60
      · go_wp2_with (go_at_call 16; refine (l1In_any _ _ _ _).mono ?_; rintro e w' ⟨rfl, rfl⟩)
        go_ret
        exact ⟨ret_bool (BAD.out (by simp [okAt, t2])).symm, (by repeat (first | exact Ext.refl _ | assumption | refine Ext.trans ?_ (Ext.alloc _ _) | refine Ext.trans ?_ (Ext.drew _) | refine Ext.trans ?_ (Ext.drewN _ _) | refine Ext.trans ?_ (by assumption)))⟩
      cases t3 : inB x.para (prevP l k) (prevP l k + 1)
      · go_wp2_with (go_at_call 16; refine (l1In_any _ _ _ _).mono ?_; rintro e w' ⟨rfl, rfl⟩)
        go_ret
        exact ⟨ret_bool (BAD.out (by simp [okAt, t3])).symm, (by repeat (first | exact Ext.refl _ | assumption | refine Ext.trans ?_ (Ext.alloc _ _) | refine Ext.trans ?_ (Ext.drew _) | refine Ext.trans ?_ (Ext.drewN _ _) | refine Ext.trans ?_ (by assumption)))⟩
      by_cases hk0 : k = 0
      · subst hk0
        simp only [Nat.zero_mul, Nat.add_zero] at c0 c1 c2
        cases t4 : (x.para != 0)
        · go_wp2_with (go_at_call 16; refine (l1In_any _ _ _ _).mono ?_; rintro e w' ⟨rfl, rfl⟩)
          go_roundw
          case rel => exact ⟨1, by omega, by go_num, by rw [prevP_succ HX.out], by rw [galTo_succ HX.out, HG.out, okAt, t1, t2, t3]; simpa using t4, (by repeat (first | exact Ext.refl _ | assumption | refine Ext.trans ?_ (Ext.alloc _ _) | refine Ext.trans ?_ (Ext.drew _) | refine Ext.trans ?_ (Ext.drewN _ _) | refine Ext.trans ?_ (by assumption)))⟩
          case measure => simp [intOf]; omega
        · go_wp2_with (go_at_call 16; refine (l1In_any _ _ _ _).mono ?_; rintro e w' ⟨rfl, rfl⟩)
          go_ret
          exact ⟨ret_bool (BAD.out (by rw [okAt, t1, t2, t3]; simpa using t4)).symm, (by repeat (first | exact Ext.refl _ | assumption | refine Ext.trans ?_ (Ext.alloc _ _) | refine Ext.trans ?_ (Ext.drew _) | refine Ext.trans ?_ (Ext.drewN _ _) | refine Ext.trans ?_ (by assumption)))⟩
      · have hz : ((k : Int) == 0) = false := by simp; omega
        go_wp2_with (go_at_call 16; refine (l1In_any _ _ _ _).mono ?_; rintro e w' ⟨rfl, rfl⟩)
        go_roundw
        case rel => exact ⟨k + 1, by omega, by go_num, by rw [prevP_succ HX.out], by rw [galTo_succ HX.out, HG.out, okAt, t1, t2, t3]; simp [hk0], (by repeat (first | exact Ext.refl _ | assumption | refine Ext.trans ?_ (Ext.alloc _ _) | refine Ext.trans ?_ (Ext.drew _) | refine Ext.trans ?_ (Ext.drewN _ _) | refine Ext.trans ?_ (by assumption)))⟩
        case measure => simp [intOf]; omega
    · have hkl : k = l.length := by omega
      subst hkl
      clear hlt
      go_wp2_with (go_at_call 16; refine (l1In_any _ _ _ _).mono ?_; rintro e w' ⟨rfl, rfl⟩)
      go_ret
      exact ⟨ret_bool (by rw [gal, HG.out]; simp), (by repeat (first | exact Ext.refl _ | assumption | refine Ext.trans ?_ (Ext.alloc _ _) | refine Ext.trans ?_ (Ext.drew _) | refine Ext.trans ?_ (Ext.drewN _ _) | refine Ext.trans ?_ (by assumption)))⟩
theorem szSetLineS_small (A : Option Addr) (n c : Nat) (left : Int) (w : World) (h : (n : Int) ≤ left) (h0 : 0 ≤ left) (h1 : left ≤ 1048576) :
    Calls Tryd.prog 4 #[.slice A n c, .int .i64 left] w fun e w' => e = .returned (.int .i64 (left - n)) ∧ w = w' := by
  go_enter Tryd.func4, Tryd.ntmps4
  go_wp2
  go_ret
  exact ⟨rfl, rfl⟩
theorem szSetLineS_big (A : Option Addr) (n c : Nat) (left : Int) (w : World) (hn : n ≤ 9223372036854775807) (h : left < n) (h0 : 0 ≤ left) (h1 : left ≤ 1048576) :
    Calls Tryd.prog 4 #[.slice A n c, .int .i64 left] w fun e w' => e = .returned (.int .i64 (-1)) ∧ w = w' := by
  go_enter Tryd.func4, Tryd.ntmps4
  go_wp2
  go_ret
  exact ⟨rfl, rfl⟩
theorem toSetLine_any (x : SetL) (w : World) : Calls Tryd.prog 11 #[.agg #[.int .i64 x.depth, .int .i64 x.note, .int .i64 x.para]] w fun e w' => e = .returned (.agg #[.int .i64 x.depth, .int .i64 x.note, .int .i64 x.para]) ∧ Ext w w' := by
  go_enter Tryd.func11, Tryd.ntmps11
  go_wp2
  exact bodyPost_ret (v := .agg #[.int .i64 x.depth, .int .i64 x.note, .int .i64 x.para]) (by simp [results, Tryd.results11, go_sem]) rfl ⟨rfl, (by repeat (first | exact Ext.refl _ | assumption | refine Ext.trans ?_ (Ext.alloc _ _) | refine Ext.trans ?_ (Ext.drew _) | refine Ext.trans ?_ (Ext.drewN _ _) | refine Ext.trans ?_ (by assumption)))⟩
theorem eqSetLine_same (x : SetL) (w : World) : Calls Tryd.prog 15 #[.agg #[.int .i64 x.depth, .int .i64 x.note, .int .i64 x.para], .agg #[.int .i64 x.depth, .int .i64 x.note, .int .i64 x.para]] w fun e w' => e = .returned (.bool true) ∧ Ext w w' := by
  go_enter Tryd.func15, Tryd.ntmps15
  go_wp2
  go_ret
  exact ⟨rfl, (by repeat (first | exact Ext.refl _ | assumption | refine Ext.trans ?_ (Ext.alloc _ _) | refine Ext.trans ?_ (Ext.drew _) | refine Ext.trans ?_ (Ext.drewN _ _) | refine Ext.trans ?_ (by assumption)))⟩
theorem setInfo : (Tryd.prog.info? 32).map (fun i => (i.zero, i.size, i.bytes)) = some (some (.agg #[.int .i64 0, .int .i64 0, .int .i64 0]), 3, 24) := by kernel_rfl
def Filled (cur : Array Value) (l : List SetL) (k : Nat) : Prop := cur.size = l.length * 3 ∧ ∀ (j : Nat) u, ((l.take k).flatMap SetL.enc)[j]? = some u → cur[j]? = some u
theorem Filled.full {cur : Array Value} {l : List SetL} (h : Filled cur l l.length) : ∀ (j : Nat) u, (l.flatMap SetL.enc)[j]? = some u → cur[j]? = some u := by
  have := h.2
  rwa [List.take_of_length_le (Nat.le_refl _)] at this
theorem Filled.zero {cur : Array Value} {l : List SetL} (h : cur.size = l.length * 3) : Filled cur l 0 := ⟨h, fun j u hu => by simp at hu⟩
theorem Filled.step {cur : Array Value} {l : List SetL} {k : Nat} {x : SetL} (h : Filled cur l k) (hx : l[k]? = some x) :
    Filled (((cur.setIfInBounds (k * 3) (.int .i64 x.depth)).setIfInBounds (k * 3 + 1) (.int .i64 x.note)).setIfInBounds (k * 3 + 2) (.int .i64 x.para)) l (k + 1) := by
  have hk : k < l.length := (List.getElem?_eq_some_iff.1 hx).1
  obtain ⟨hs, hc⟩ := h
  refine ⟨by simpa using hs, fun j u hu => ?_⟩
  rw [take_snoc hx, List.flatMap_append] at hu
  have hl : ((l.take k).flatMap SetL.enc).length = k * 3 := by rw [flat_len _ 3 SetL.enc_len, List.length_take]; omega
  simp only [Array.getElem?_setIfInBounds]
  by_cases hj : j < k * 3
  · rw [List.getElem?_append_left (by omega)] at hu
    rw [if_neg (by omega), if_neg (by omega), if_neg (by omega)]
    exact hc j u hu
  · rw [List.getElem?_append_right (by omega), hl] at hu
    have hj2 : j - k * 3 < 3 := by
      have := (List.getElem?_eq_some_iff.1 hu).1
      simpa [SetL.enc] using this
    have : j = k * 3 ∨ j = k * 3 + 1 ∨ j = k * 3 + 2 := by omega
    rcases this with rfl | rfl | rfl
    · rw [Nat.sub_self] at hu
      simp [SetL.enc] at hu
      simp [hu]; omega
    · rw [show k * 3 + 1 - k * 3 = 1 by omega] at hu
      simp [SetL.enc] at hu
      simp [hu]; omega
    · rw [show k * 3 + 2 - k * 3 = 2 by omega] at hu
      simp [SetL.enc] at hu
      simp [hu]; omega
theorem toSetLineS_any (A : Option Addr) (c : Nat) (l : List SetL) (lo hi : Nat) (w : World) (hl : l.length ≤ 1048577) (hr : RdA w lo hi A (l.flatMap SetL.enc)) :
    Calls Tryd.prog 6 #[.slice A l.length c] w fun e w' => ∃ g, e = .returned (.slice (some ⟨g, 0, none⟩) l.length l.length) ∧ RdS w' w.heap.size w'.heap.size (some ⟨g, 0, none⟩) l ∧ Ext w w' := by
  obtain ⟨i0, hi0, hz0, hz1, hz2⟩ := info_parts setInfo
  have hmk := fun W => run_make_rowN (P := Tryd.prog) 26 32 i0 _ Tryd.underlying26 hi0 hz0 l.length l.length (Nat.le_refl _) (by rw [hz2]; omega) (by omega) W
  rw [hz1] at hmk
  generalize hcs : madeCells (Value.agg #[.int .i64 0, .int .i64 0, .int .i64 0]).cells (l.length * 3) = cs0 at hmk
  have hsz : cs0.size = l.length * 3 := by rw [← hcs, size_madeCells]
  have HSZ := Lib.hid hsz
  clear hcs hsz hi0 hz0 hz1 hz2
  go_enter Tryd.func6, Tryd.ntmps6
  go_wp2
  clear hmk
  go_loopw [4] (fun i wr => ∃ (k : Nat) (cur : Array Value), k ≤ l.length ∧ i = .int .i64 k ∧ Blk wr w.heap.size 32 cur ∧ Filled cur l k ∧ Ext w wr) (fun i _ => l.length - (intOf i).toNat)
  case atStart => exact ⟨0, cs0, Nat.zero_le _, rfl, Blk.new _ _ _, Filled.zero HSZ.out, (by repeat (first | exact Ext.refl _ | assumption | refine Ext.trans ?_ (Ext.alloc _ _) | refine Ext.trans ?_ (Ext.drew _) | refine Ext.trans ?_ (Ext.drewN _ _) | refine Ext.trans ?_ (by assumption)))⟩
  case round =>
    obtain ⟨k, cur, hk, rfl, hB, hF, hE⟩ := hrel
    by_cases hlt : k < l.length
    · obtain ⟨x, b, off, HX, rfl, h1, h2, h3, c0, c1, c2⟩ := getS (hr.ext hE) hlt
      have hcs := hF.1
      obtain ⟨v0, hv0⟩ : ∃ v, cur[k * 3]? = some v := ⟨_, Array.getElem?_eq_getElem (by omega)⟩
      obtain ⟨v1, hv1⟩ : ∃ v, cur[k * 3 + 1]? = some v := ⟨_, Array.getElem?_eq_getElem (by omega)⟩
      obtain ⟨v2, hv2⟩ : ∃ v, cur[k * 3 + 2]? = some v := ⟨_, Array.getElem?_eq_getElem (by omega)⟩
      have q0 := hB.cell hv0
      have q1 := hB.cell hv1
      have q2 := hB.cell hv2
      have r0 := hB.frozen (k * 3)
      have r1 := hB.frozen (k * 3 + 1)
      have r2 := hB.frozen (k * 3 + 2)
      have hgl := hB.lt
      clear hcs hv0 hv1 hv2
      go_wp2_with (go_at_call 11; refine (toSetLine_any x _).mono ?_; rintro e w1 ⟨rfl, hE1⟩; obtain ⟨hc1, hf1⟩ := bcell hE1; have hs1 := hE1.size; (try simp only [World.size_alloc] at hs1))
      go_roundw
      case rel => exact ⟨k + 1, _, by omega, by go_num, (((hB.ext hE1).set_ _ _).set_ _ _).set_ _ _, hF.step HX.out, Ext.setCell (Ext.setCell (Ext.setCell (hE.trans hE1) (Nat.le_refl _) _) (Nat.le_refl _) _) (Nat.le_refl _) _⟩
      case measure => simp [intOf]; omega
    · have hkl : k = l.length := by omega
      subst hkl
      clear hlt
      go_wp2
      go_ret
      exact ⟨_, rfl, hB.rd (Nat.le_refl _) hF.full, hE⟩
theorem eqSetLineS_same (A B : Option Addr) (c d : Nat) (l : List SetL) (lo hi lo' hi' : Nat) (w : World) (hl : l.length ≤ 4611686018427387904) (hr : RdS w lo hi A l) (hr' : RdS w lo' hi' B l) :
    Calls Tryd.prog 8 #[.slice A l.length c, .slice B l.length d] w fun e w' => e = .returned (.bool true) ∧ Ext w w' := by
  go_enter Tryd.func8, Tryd.ntmps8
  go_wp2
  go_loopw [5] (fun i wr => ∃ k : Nat, k ≤ l.length ∧ i = .int .i64 k ∧ Ext w wr) (fun i _ => l.length - (intOf i).toNat)
  case atStart => exact ⟨0, Nat.zero_le _, rfl, Ext.refl _⟩
  case round =>
    obtain ⟨k, hk, rfl, hE⟩ := hrel
    by_cases hlt : k < l.length
    · obtain ⟨x, b, off, HX, rfl, h1, h2, h3, c0, c1, c2⟩ := RdS.get (hr.ext hE) hlt
      obtain ⟨x', b', off', HX', rfl, h1', h2', h3', d0, d1, d2⟩ := RdS.get (hr'.ext hE) hlt
      obtain rfl : x = x' := by have := HX.out.symm.trans HX'.out; injection this
      have hi0 : (0 : Int) ≤ k := by omega
      have hi1 : (k : Int) < l.length := by omega
      have e0 : ∀ w', Ext wr w' → w'.cell? ⟨b, off + k * 3, none⟩ = _ := fun _ h => h.cell c0
      have e1 : ∀ w', Ext wr w' → w'.cell? ⟨b, off + k * 3 + 1, none⟩ = _ := fun _ h => h.cell c1
      have e2 : ∀ w', Ext wr w' → w'.cell? ⟨b, off + k * 3 + 2, none⟩ = _ := fun _ h => h.cell c2
      have e4 : ∀ w', Ext wr w' → w'.cell? ⟨b', off' + k * 3, none⟩ = _ := fun _ h => h.cell d0
      have e5 : ∀ w', Ext wr w' → w'.cell? ⟨b', off' + k * 3 + 1, none⟩ = _ := fun _ h => h.cell d1
      have e6 : ∀ w', Ext wr w' → w'.cell? ⟨b', off' + k * 3 + 2, none⟩ = _ := fun _ h => h.cell d2
      go_wp2_with fail
      go_region_held3 (fun w' => Ext wr w') (exact (by repeat (first | exact Ext.refl _ | assumption | refine Ext.trans ?_ (Ext.alloc _ _) | refine Ext.trans ?_ (Ext.drew _) | refine Ext.trans ?_ (Ext.drewN _ _) | refine Ext.trans ?_ (by assumption))))
        (first | (go_at_call 15; refine (eqSetLine_same x _).mono ?_; rintro e w1 ⟨rfl, hE1⟩))
      go_wp2
      go_roundw
      case rel => exact ⟨k + 1, by omega, by go_num, (by repeat (first | exact Ext.refl _ | assumption | refine Ext.trans ?_ (Ext.alloc _ _) | refine Ext.trans ?_ (Ext.drew _) | refine Ext.trans ?_ (Ext.drewN _ _) | refine Ext.trans ?_ (by assumption)))⟩
      case measure => simp [intOf]; omega
    · go_wp2
      go_ret
      exact ⟨rfl, hE⟩
def pa (l : List SetL) (i : Nat) : Int := match l[i]? with | some x => x.para | none => 0
theorem pa_at {l : List SetL} {i : Nat} {x : SetL} (h : l[i]? = some x) : pa l i = x.para := by simp [pa, h]
def lastP (l : List SetL) (i : Nat) : Bool := decide (i + 1 = l.length) || decide (pa l (i + 1) ≠ pa l i)
theorem ne_beq (a b : Int) : decide (a ≠ b) = (a != b) := by rw [Bool.eq_iff_iff]; simp
theorem impl_isLast (A : Option Addr) (c : Nat) (l : List SetL) (i : Nat) (lo hi : Nat) (w : World) (hl : l.length ≤ 1048577) (hil : i < l.length) (hr : RdS w lo hi A l) :
    Calls Tryd.prog 14 #[.slice A l.length c, .int .i64 i] w fun e w' => e = .returned (.bool (lastP l i)) ∧ Ext w w' := by
  obtain ⟨x, b, off, HX, rfl, _, _, h3, _, _, c2⟩ := RdS.get hr hil
  by_cases he : i + 1 = l.length
  · have hv : lastP l i = true := by simp [lastP, he]
    rw [hv]; clear hv
    have t1 : ((i : Int) == (l.length : Int) - 1) = true := by simp; omega
    have q1 : IntKind.i64.wrap ((l.length : Int) - 1) = (l.length : Int) - 1 := IntWalk.i64_in _ (by omega)
    have HE := Lib.hid he; clear he
    go_enter Tryd.func14, Tryd.ntmps14
    go_wp2
    go_quiet (fail)
    go_wp2
    go_ret
    exact ⟨rfl, (by repeat (first | exact Ext.refl _ | assumption | refine Ext.trans ?_ (Ext.alloc _ _) | refine Ext.trans ?_ (Ext.drew _) | refine Ext.trans ?_ (Ext.drewN _ _) | refine Ext.trans ?_ (by assumption)))⟩
  · obtain ⟨y, b', off', HY, eA, _, _, _, _, _, d2⟩ := RdS.get hr (k := i + 1) (by omega)
    injection eA with eA; injection eA with eb eo _; subst eb; subst eo
    have hv : lastP l i = (y.para != x.para) := by simp only [lastP, pa_at HX.out, pa_at HY.out, he, ne_beq, decide_false, Bool.false_or]
    rw [hv]; clear hv
    have t1 : ((i : Int) == (l.length : Int) - 1) = false := by simp; omega
    have g1 : (0 : Int) ≤ (i : Int) + 1 := by omega
    have g2 : (i : Int) + 1 < l.length := by omega
    have g3 : (0 : Int) ≤ (i : Int) := by omega
    have g4 : (i : Int) < l.length := by omega
    have q1 : IntKind.i64.wrap ((l.length : Int) - 1) = (l.length : Int) - 1 := IntWalk.i64_in _ (by omega)
    have q2 : IntKind.i64.wrap ((i : Int) + 1) = (i : Int) + 1 := IntWalk.i64_in _ (by omega)
    have q3 : ((i : Int) + 1).toNat = i + 1 := by omega
    have HE := Lib.hid he; clear he
    go_enter Tryd.func14, Tryd.ntmps14
    go_wp2
    go_quiet (fail)
    go_wp2
    go_ret
    exact ⟨rfl, (by repeat (first | exact Ext.refl _ | assumption | refine Ext.trans ?_ (Ext.alloc _ _) | refine Ext.trans ?_ (Ext.drew _) | refine Ext.trans ?_ (Ext.drewN _ _) | refine Ext.trans ?_ (by assumption)))⟩
end Go.Proofs.YtblecbdkpjmfeaaDoor
