/- The walks of the program's WordsThatFit. -/
import Derived.Test.YtmfoankgfiofdaaParE
import Derived.Test.YtmfoankgfiofdaaGrP
namespace Go.Proofs.Ytmfoankgfiofdaa
open Go.RowKit
set_option linter.unusedVariables false
theorem impl_isLine (A : Option Addr) (c n : Nat) (l : List Int) (lo hi : Nat) (w : World) (hn : l.length = n) (h1 : 1 ≤ l.length) (h2 : l.length ≤ 20) (hw : ∀ x ∈ l, 1 ≤ x ∧ x ≤ 600) (hr : RdI w lo hi A l) :
    Calls Try.prog 71 #[.slice A n c] w fun e w' => e = .returned (.bool true) ∧ w = w' := by
  subst hn
  have HW := Lib.hid hw; clear hw
  go_enter Try.func71, Try.ntmps71
  go_wp2
  go_loop [7] (fun i => ∃ k : Nat, k ≤ l.length ∧ i = .int .i64 k) (fun i => l.length - (intOf i).toNat)
  case atStart => exact ⟨0, Nat.zero_le _, rfl⟩
  case round =>
    obtain ⟨k, hk, rfl⟩ := hrel
    by_cases hlt : k < l.length
    · obtain ⟨x, b, off, HX, rfl, _, _, h3, c0, _⟩ := RdI.get hr hlt
      have t1 : inB x 1 600 = true := inB_iff.2 (HW.out x (List.mem_of_getElem? HX.out))
      go_wp2_with (go_at_call 40; refine (within_any _ _ _ _).mono ?_; rintro e w' ⟨rfl, rfl⟩)
      go_round
      case rel => exact ⟨k + 1, by omega, by go_num⟩
      case measure => simp [intOf]; omega
    · have hkl : k = l.length := by omega
      subst hkl
      clear hlt
      have HV : Hid (inB l.length 1 20 = true) := inB_iff.2 ⟨by omega, by omega⟩
      go_wp2_with (go_at_call 40; refine (within_any _ _ _ _).mono ?_; rintro e w' ⟨rfl, rfl⟩)
      go_ret
      exact ⟨ret_bool HV.out, rfl⟩
theorem impl_isSetLine (A : Option Addr) (c n : Nat) (l : List Int) (r : Rul) (m : Int) (lo hi : Nat) (w : World) (hn : l.length = n) (h1 : 1 ≤ l.length) (h2 : l.length ≤ 20) (hw : ∀ x ∈ l, 1 ≤ x ∧ x ≤ 600) (hrr : ruleOk r = true) (hmm : inB m 1 2000 = true) (hr0 : RdI w lo hi A l) :
    Calls Try.prog 69 #[.slice A n c, .agg #[.int .i64 r.least, .int .i64 r.normal, .int .i64 r.most], .int .i64 m] w fun e w' => e = .returned (.bool true) ∧ Ext w w' := by
  subst hn
  have HW := Lib.hid hw; clear hw
  have hr := hr0.ext (Ext.alloc w (.cells #[.int .i64 r.least, .int .i64 r.normal, .int .i64 r.most] 28))
  go_enter Try.func69, Try.ntmps69
  go_wp2_with (first | (go_at_call 71; refine (impl_isLine A c _ l lo hi _ rfl h1 h2 HW.out hr).mono ?_; rintro e w' ⟨rfl, rfl⟩) | (go_at_call 58; refine (impl_IsRule r _).mono ?_; rintro e w1 ⟨rfl, hE1⟩; obtain ⟨hc1, hf1⟩ := bcell hE1; have hs1 := hE1.size; (try simp only [World.size_alloc] at hs1)) | (go_at_call 59; refine (isMeasure_any _ _).mono ?_; rintro e w' ⟨rfl, rfl⟩))
  go_ret
  exact ⟨rfl, (by repeat (first | exact Ext.refl _ | assumption | refine Ext.trans ?_ (Ext.alloc _ _) | refine Ext.trans ?_ (Ext.drew _) | refine Ext.trans ?_ (Ext.drewN _ _) | refine Ext.trans ?_ (by assumption)))⟩
theorem impl_WordsThatFit (A : Option Addr) (c n : Nat) (l : List Int) (r : Rul) (m : Int) (lo hi : Nat) (w : World) (hn : l.length = n) (hcap : n ≤ c) (h1 : 1 ≤ l.length) (h2 : l.length ≤ 20) (hw : ∀ x ∈ l, 1 ≤ x ∧ x ≤ 600) (hrr : ruleOk r = true) (hmm : inB m 1 2000 = true) (hr : RdI w lo hi A l) :
    Calls Try.prog 51 #[.slice A n c, .agg #[.int .i64 r.least, .int .i64 r.normal, .int .i64 r.most], .int .i64 m] w fun e w' => e = .returned (.tuple #[.int .i64 (gN l r m 0 : Nat), .bool true]) ∧ Ext w w' := by
  subst hn
  obtain ⟨r1, r2, r3, r4⟩ := ruleOk_iff.1 hrr
  have hm := inB_iff.1 hmm
  have HRR := Lib.hid hrr; have HMM := Lib.hid hmm; clear hrr hmm
  have HW := Lib.hid hw; clear hw
  obtain ⟨_, b, off, _, rfl, _, _, g3, _, _⟩ := RdI.get hr (k := 0) (by omega)
  obtain ⟨w0, hw0⟩ : ∃ w0, w0 = w.alloc (.cells #[.int .i64 r.least, .int .i64 r.normal, .int .i64 r.most] 28) := ⟨_, rfl⟩
  have x0 : w0.cell? ⟨w.heap.size, 0, none⟩ = some (.int .i64 r.least) := by rw [hw0]; exact box_new (Ext.refl _) rfl
  have x1 : w0.cell? ⟨w.heap.size, 1, none⟩ = some (.int .i64 r.normal) := by rw [hw0]; exact box_new (Ext.refl _) rfl
  have x2 : w0.cell? ⟨w.heap.size, 2, none⟩ = some (.int .i64 r.most) := by rw [hw0]; exact box_new (Ext.refl _) rfl
  have hE0 : Ext w w0 := by rw [hw0]; exact Ext.alloc _ _
  have hlt0 : w.heap.size < w0.heap.size := by rw [hw0]; simp
  have HW0 := Lib.hid hw0
  clear hw0
  have hr' := hr.ext hE0
  go_enter Try.func51, Try.ntmps51
  go_wp2_with fail
  rw [← HW0.out]
  refine (impl_isSetLine _ c _ l r m lo hi _ rfl h1 h2 HW.out HRR.out HMM.out hr').mono ?_
  rintro e w1 ⟨rfl, hE1⟩
  go_wp2_with fail
  go_loopw [8] (fun i wr => ∃ k : Nat, k ≤ l.length ∧ i = .int .i64 k ∧ gGo l r m 0 (20 - k) k = gN l r m 0 ∧ Ext w0 wr) (fun i _ => l.length - (intOf i).toNat)
  case atStart => exact ⟨0, Nat.zero_le _, rfl, rfl, hE1⟩
  case round =>
    obtain ⟨k, hk, rfl, hg, hE⟩ := hrel
    have HG := Lib.hid hg; clear hg
    have y0 : ∀ x : XW wr, x.v.cell? ⟨w.heap.size, 0, none⟩ = _ := fun x => x.h.cell (hE.cell x0)
    by_cases hlt : k < l.length
    · have hcut := cutL_len l (i := 0) (k := k + 1) (by omega)
      have HC : Hid ((cutL l 0 (k + 1)).length = k + 1) := by show _ = _; omega
      have hCM : ∀ x ∈ cutL l 0 (k + 1), 1 ≤ x ∧ x ≤ 600 := fun x hx => HW.out x (cutL_mem hx)
      obtain ⟨s1, s2⟩ := sumW_bound (by omega) hCM
      rw [HC.out] at s1 s2
      have hRc : RdI wr lo hi (some ⟨b, off, none⟩) (cutL l 0 (k + 1)) := by have := (hr'.ext hE).cut 0 (k + 1); rw [Nat.add_zero] at this; exact this
      have p1 : 0 ≤ (k : Int) * r.least := Int.mul_nonneg (by omega) (by omega)
      have p4 : (k : Int) * r.least ≤ 24 * 54 := Int.mul_le_mul (by omega) (by omega) (by omega) (by omega)
      obtain ⟨S, hS⟩ : ∃ S, S = sumW (cutL l 0 (k + 1)) := ⟨_, rfl⟩
      have HS := Lib.hid hS
      rw [← hS] at s1 s2
      clear hS hcut hCM
      have k1 : IntKind.i64.wrap ((k : Int) + 1) = ((k + 1 : Nat) : Int) := by rw [IntWalk.i64_in _ (by omega)]; omega
      have k2 : IntKind.i64.wrap ((k : Int) * r.least) = (k : Int) * r.least := IntWalk.i64_in _ (by omega)
      have k3 : IntKind.i64.wrap (S + (k : Int) * r.least) = S + (k : Int) * r.least := IntWalk.i64_in _ (by omega)
      have t1 : decide ((k : Int) < (l.length : Int)) = true := by simp; omega
      have t1' : decide (k < l.length) = true := by simp; omega
      by_cases hok : S + (k : Int) * r.least ≤ m
      · have HOK : Hid (gOk l r m 0 k = true) := by show _ = _; simp only [gOk, Nat.zero_add, ← HS.out]; simp; omega
        go_wp2_with fail
        refine wp_region_xw (w0 := wr) (by kernel_rfl) (by kernel_rfl) (by repeat (first | exact Ext.refl _ | assumption | refine Ext.trans ?_ (Ext.alloc _ _) | refine Ext.trans ?_ (Ext.drew _) | refine Ext.trans ?_ (Ext.drewN _ _) | refine Ext.trans ?_ (by assumption))) ?_; (repeat (go_big_quiet_step ((go_at_call 66; exact XW.same (u := .int .i64 S) (by rw [HS.out]; exact impl_sum _ c _ (cutL l 0 (k + 1)) lo hi _ HC.out (by omega) (hRc.ext (XW.h _))))))); refine wpQuiet_nil ?_; intro _ hw'; obtain ⟨⟨w3, hEw3⟩, hw''⟩ := hw'; subst hw''
        go_wp2
        go_roundw
        case rel => exact ⟨k + 1, by omega, by go_num, by rw [← HG.out, show 20 - k = (20 - (k + 1)) + 1 from by omega, gGo_yes HOK.out], (by repeat (first | exact Ext.refl _ | assumption | refine Ext.trans ?_ (Ext.alloc _ _) | refine Ext.trans ?_ (Ext.drew _) | refine Ext.trans ?_ (Ext.drewN _ _) | refine Ext.trans ?_ (by assumption)))⟩
        case measure => simp [intOf]; omega
      · have HOK : Hid (gOk l r m 0 k = false) := by show _ = _; simp only [gOk, Nat.zero_add, ← HS.out]; simp; omega
        go_wp2_with fail
        refine wp_region_xw (w0 := wr) (by kernel_rfl) (by kernel_rfl) (by repeat (first | exact Ext.refl _ | assumption | refine Ext.trans ?_ (Ext.alloc _ _) | refine Ext.trans ?_ (Ext.drew _) | refine Ext.trans ?_ (Ext.drewN _ _) | refine Ext.trans ?_ (by assumption))) ?_; (repeat (go_big_quiet_step ((go_at_call 66; exact XW.same (u := .int .i64 S) (by rw [HS.out]; exact impl_sum _ c _ (cutL l 0 (k + 1)) lo hi _ HC.out (by omega) (hRc.ext (XW.h _))))))); refine wpQuiet_nil ?_; intro _ hw'; obtain ⟨⟨w3, hEw3⟩, hw''⟩ := hw'; subst hw''
        go_wp2
        go_ret2
        exact ⟨by rw [← HG.out, gGo_no HOK.out]; rfl, (by repeat (first | exact Ext.refl _ | assumption | refine Ext.trans ?_ (Ext.alloc _ _) | refine Ext.trans ?_ (Ext.drew _) | refine Ext.trans ?_ (Ext.drewN _ _) | refine Ext.trans ?_ (by assumption)))⟩
    · have hkl : k = l.length := by omega
      subst hkl
      clear hlt
      have HOK : Hid (gOk l r m 0 l.length = false) := by show _ = _; simp [gOk]
      have t1 : decide ((l.length : Int) < (l.length : Int)) = false := by simp
      have t1' : decide (l.length < l.length) = false := by simp
      go_wp2_with fail
      refine wp_region_xw (w0 := wr) (by kernel_rfl) (by kernel_rfl) (by repeat (first | exact Ext.refl _ | assumption | refine Ext.trans ?_ (Ext.alloc _ _) | refine Ext.trans ?_ (Ext.drew _) | refine Ext.trans ?_ (Ext.drewN _ _) | refine Ext.trans ?_ (by assumption))) ?_; (repeat (go_big_quiet_step (fail))); refine wpQuiet_nil ?_; intro _ hw'; obtain ⟨⟨w3, hEw3⟩, hw''⟩ := hw'; subst hw''
      go_wp2
      go_ret2
      exact ⟨by rw [← HG.out, gGo_no HOK.out]; rfl, (by repeat (first | exact Ext.refl _ | assumption | refine Ext.trans ?_ (Ext.alloc _ _) | refine Ext.trans ?_ (Ext.drew _) | refine Ext.trans ?_ (Ext.drewN _ _) | refine Ext.trans ?_ (by assumption)))⟩
end Go.Proofs.Ytmfoankgfiofdaa
