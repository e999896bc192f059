/- The walks of the costs of lines: the program's and the reference's. -/
import Derived.Test.YtmfoankgfiofdaaParB
namespace Go.Proofs.Ytmfoankgfiofdaa
open Go.RowKit
set_option linter.unusedVariables false
def lc (l : List Int) (r : Rul) (m : Int) : Int := if lineOk l r m then costs (spc l m) r else 0
def jsP (l : List Int) (r : Rul) (m : Int) : List Int × Bool := if fits l r m then (spc l m, true) else ([], false)
theorem jsP_bad {l : List Int} {r : Rul} {m : Int} (h : fits l r m = false) : jsP l r m = ([], false) := by simp only [jsP, h]; rfl
theorem jsP_good {l : List Int} {r : Rul} {m : Int} (h : fits l r m = true) : jsP l r m = (spc l m, true) := by simp only [jsP, h]; rfl
theorem impl_justify (A : Option Addr) (c n : Nat) (l : List Int) (r : Rul) (m : Int) (lo hi : Nat) (w : World) (hn : l.length = n) (h1 : 1 ≤ l.length) (h2 : l.length ≤ 24) (hw : ∀ x ∈ l, 1 ≤ x ∧ x ≤ 600) (r1 : 1 ≤ r.least) (r2 : r.least ≤ r.normal) (r3 : r.normal ≤ r.most) (r4 : r.most ≤ 54) (m1 : 1 ≤ m) (m2 : m ≤ 2000) (hr : RdI w lo hi A l) :
    Calls Try.prog 64 #[.slice A n c, .agg #[.int .i64 r.least, .int .i64 r.normal, .int .i64 r.most], .int .i64 m] w (RetI2 w (jsP l r m)) := by
  subst hn
  obtain ⟨s1, s2⟩ := sumW_bound (by omega) hw
  have HW := Lib.hid hw; clear hw
  have p1 : 0 ≤ ((l.length : Int) - 1) * r.least := Int.mul_nonneg (by omega) (by omega)
  have p2 : 0 ≤ ((l.length : Int) - 1) * r.most := Int.mul_nonneg (by omega) (by omega)
  have p3 : 0 ≤ ((l.length : Int) - 1) * r.normal := Int.mul_nonneg (by omega) (by omega)
  have p4 : ((l.length : Int) - 1) * r.least ≤ 24 * 54 := Int.mul_le_mul (by omega) (by omega) (by omega) (by omega)
  have p5 : ((l.length : Int) - 1) * r.most ≤ 24 * 54 := Int.mul_le_mul (by omega) (by omega) (by omega) (by omega)
  have p6 : ((l.length : Int) - 1) * r.normal ≤ 24 * 54 := Int.mul_le_mul (by omega) (by omega) (by omega) (by omega)
  have hr' := hr.ext (Ext.alloc w (.cells #[.int .i64 r.least, .int .i64 r.normal, .int .i64 r.most] 28))
  cases h : fits l r m
  · rw [jsP_bad h]
    unfold fits at h
    go_enter Try.func64, Try.ntmps64
    go_wp2_with (first | (go_at_call 66; refine (impl_sum A c _ l lo hi _ rfl (by omega) hr').mono ?_; rintro e w' ⟨rfl, rfl⟩) | (go_at_call 40; refine (within_any _ _ _ _).mono ?_; rintro e w' ⟨rfl, rfl⟩))
    go_ret2
    exact retI2_lit (by repeat (first | exact Ext.refl _ | assumption | refine Ext.trans ?_ (Ext.alloc _ _) | refine Ext.trans ?_ (Ext.drew _) | refine Ext.trans ?_ (Ext.drewN _ _) | refine Ext.trans ?_ (by assumption)))
  rw [jsP_good h]
  unfold fits at h
  have hf := inB_iff.1 h
  go_enter Try.func64, Try.ntmps64
  go_wp2_with (first | (go_at_call 66; refine (impl_sum A c _ l lo hi _ rfl (by omega) hr').mono ?_; rintro e w' ⟨rfl, rfl⟩) | (go_at_call 40; refine (within_any _ _ _ _).mono ?_; rintro e w' ⟨rfl, rfl⟩))
  clear h
  go_loopw [10, 11] (fun v i wr => ∃ k : Nat, k ≤ l.length - 1 ∧ i = .int .i64 k ∧ wr.ownsRow w.heap.size 3 1 v k ((leadL (m - sumW l) ((l.length : Int) - 1) k).map (Value.int .i64)) ∧ Ext w wr) (fun _ i _ => l.length - 1 - (intOf i).toNat)
  case atStart => exact ⟨0, Nat.zero_le _, rfl, (by have h0 := own_lit0 (w := w.alloc (.cells #[.int .i64 r.least, .int .i64 r.normal, .int .i64 r.most] 28)) 3 1 (Ext.alloc w _).size (Ext.refl _); rw [show (w.alloc (.cells #[.int .i64 r.least, .int .i64 r.normal, .int .i64 r.most] 28)).heap.size = w.heap.size + 1 from by simp] at h0; exact h0), (by repeat (first | exact Ext.refl _ | assumption | refine Ext.trans ?_ (Ext.alloc _ _) | refine Ext.trans ?_ (Ext.drew _) | refine Ext.trans ?_ (Ext.drewN _ _) | refine Ext.trans ?_ (by assumption)))⟩
  case round =>
    obtain ⟨k, hk, rfl, hown, hE⟩ := hrel
    by_cases hlt : k < l.length - 1
    · have q1 : 0 ≤ (m - sumW l) / ((l.length : Int) - 1) := Int.ediv_nonneg (by omega) (by omega)
      have q2 : (m - sumW l) / ((l.length : Int) - 1) ≤ m - sumW l := Int.ediv_le_self _ (by omega)
      by_cases ht : (k : Int) < (m - sumW l) % ((l.length : Int) - 1)
      · have HL : Hid (leadAt (m - sumW l) ((l.length : Int) - 1) k = (m - sumW l) / ((l.length : Int) - 1) + 1) := if_pos ht
        go_wp2_with (first | (at_builtin; refine wp_app _ w rfl (.tmp 48) (.tmp 50) 22 rfl 3 _ 1 8 Try.underlying22 intInfo0 rfl (by omega) _ k _ rfl (ownsRow_ext hown (Ext.alloc _ _)) (hE.trans (Ext.alloc _ _)) _ _ _ 1 1 [.int .i64 ((m - sumW l) / ((l.length : Int) - 1) + 1)] rfl rfl (rdA_new rfl (Ext.refl _)) (by simp [Value.oneCell']) (by omega) (by simp) ?_; intro v3 w3 hown3 hE3 hg3 hat3))
        go_roundw
        case rel => exact ⟨k + 1, by omega, by go_num, by rw [leadL_succ, List.map_append, HL.out]; exact hown3, hE3⟩
        case measure => simp [intOf]; omega
      · have HL : Hid (leadAt (m - sumW l) ((l.length : Int) - 1) k = (m - sumW l) / ((l.length : Int) - 1)) := if_neg ht
        go_wp2_with (first | (at_builtin; refine wp_app _ w rfl (.tmp 48) (.tmp 50) 22 rfl 3 _ 1 8 Try.underlying22 intInfo0 rfl (by omega) _ k _ rfl (ownsRow_ext hown (Ext.alloc _ _)) (hE.trans (Ext.alloc _ _)) _ _ _ 1 1 [.int .i64 ((m - sumW l) / ((l.length : Int) - 1))] rfl rfl (rdA_new rfl (Ext.refl _)) (by simp [Value.oneCell']) (by omega) (by simp) ?_; intro v3 w3 hown3 hE3 hg3 hat3))
        go_roundw
        case rel => exact ⟨k + 1, by omega, by go_num, by rw [leadL_succ, List.map_append, HL.out]; exact hown3, hE3⟩
        case measure => simp [intOf]; omega
    · have hkl : l.length - 1 = k := by omega
      have HKL := Lib.hid hkl; clear hkl
      obtain ⟨A', c', rfl, hc', _⟩ := own_form hown
      go_wp2
      go_ret2
      exact ⟨A', c', by simp only [spc, HKL.out, leadL_len]; rfl, by simp only [spc, HKL.out, leadL_len]; exact hc', by simp only [spc, HKL.out]; exact Rd.of_own hown, hE⟩

theorem spec_juSpaces (A : Option Addr) (c n : Nat) (l : List Int) (r : Rul) (m : Int) (lo hi : Nat) (w : World) (hn : l.length = n) (h1 : 1 ≤ l.length) (h2 : l.length ≤ 24) (hw : ∀ x ∈ l, 1 ≤ x ∧ x ≤ 600) (r1 : 1 ≤ r.least) (r2 : r.least ≤ r.normal) (r3 : r.normal ≤ r.most) (r4 : r.most ≤ 54) (m1 : 1 ≤ m) (m2 : m ≤ 2000) (hf : fits l r m = true) (hr : RdI w lo hi A l) :
    Calls Try.prog 70 #[.slice A n c, .int .i64 m] w (RetI w (spc l m)) := by
  subst hn
  obtain ⟨s1, s2⟩ := sumW_bound (by omega) hw
  have HW := Lib.hid hw; clear hw
  have p1 : 0 ≤ ((l.length : Int) - 1) * r.least := Int.mul_nonneg (by omega) (by omega)
  have p2 : 0 ≤ ((l.length : Int) - 1) * r.most := Int.mul_nonneg (by omega) (by omega)
  have p3 : 0 ≤ ((l.length : Int) - 1) * r.normal := Int.mul_nonneg (by omega) (by omega)
  have p4 : ((l.length : Int) - 1) * r.least ≤ 24 * 54 := Int.mul_le_mul (by omega) (by omega) (by omega) (by omega)
  have p5 : ((l.length : Int) - 1) * r.most ≤ 24 * 54 := Int.mul_le_mul (by omega) (by omega) (by omega) (by omega)
  have p6 : ((l.length : Int) - 1) * r.normal ≤ 24 * 54 := Int.mul_le_mul (by omega) (by omega) (by omega) (by omega)
  have hf := inB_iff.1 hf
  go_enter Try.func70, Try.ntmps70
  go_wp2_with (first | (go_at_call 50; refine (spec_juSum A c _ l lo hi _ rfl (by omega) hr).mono ?_; rintro e w' ⟨rfl, rfl⟩))
  go_loopw [7, 8] (fun v i wr => ∃ k : Nat, k ≤ l.length - 1 ∧ i = .int .i64 k ∧ wr.ownsRow w.heap.size 3 1 v k ((leadL (m - sumW l) ((l.length : Int) - 1) k).map (Value.int .i64)) ∧ Ext w wr) (fun _ i _ => l.length - 1 - (intOf i).toNat)
  case atStart => exact ⟨0, Nat.zero_le _, rfl, own_nil _ _ _ _, (by repeat (first | exact Ext.refl _ | assumption | refine Ext.trans ?_ (Ext.alloc _ _) | refine Ext.trans ?_ (Ext.drew _) | refine Ext.trans ?_ (Ext.drewN _ _) | refine Ext.trans ?_ (by assumption)))⟩
  case round =>
    obtain ⟨k, hk, rfl, hown, hE⟩ := hrel
    by_cases hlt : k < l.length - 1
    · have q1 : 0 ≤ (m - sumW l) / ((l.length : Int) - 1) := Int.ediv_nonneg (by omega) (by omega)
      have q2 : (m - sumW l) / ((l.length : Int) - 1) ≤ m - sumW l := Int.ediv_le_self _ (by omega)
      by_cases ht : (k : Int) < (m - sumW l) % ((l.length : Int) - 1)
      · have HL : Hid (leadAt (m - sumW l) ((l.length : Int) - 1) k = (m - sumW l) / ((l.length : Int) - 1) + 1) := if_pos ht
        go_wp2_with (first | (at_builtin; refine wp_app _ w rfl (.tmp 32) (.tmp 34) 22 rfl 3 _ 1 8 Try.underlying22 intInfo0 rfl (by omega) _ k _ rfl (ownsRow_ext hown (Ext.alloc _ _)) (hE.trans (Ext.alloc _ _)) _ _ _ 1 1 [.int .i64 ((m - sumW l) / ((l.length : Int) - 1) + 1)] rfl rfl (rdA_new rfl (Ext.refl _)) (by simp [Value.oneCell']) (by omega) (by simp) ?_; intro v3 w3 hown3 hE3 hg3 hat3))
        go_roundw
        case rel => exact ⟨k + 1, by omega, by go_num, by rw [leadL_succ, List.map_append, HL.out]; exact hown3, hE3⟩
        case measure => simp [intOf]; omega
      · have HL : Hid (leadAt (m - sumW l) ((l.length : Int) - 1) k = (m - sumW l) / ((l.length : Int) - 1)) := if_neg ht
        go_wp2_with (first | (at_builtin; refine wp_app _ w rfl (.tmp 32) (.tmp 34) 22 rfl 3 _ 1 8 Try.underlying22 intInfo0 rfl (by omega) _ k _ rfl (ownsRow_ext hown (Ext.alloc _ _)) (hE.trans (Ext.alloc _ _)) _ _ _ 1 1 [.int .i64 ((m - sumW l) / ((l.length : Int) - 1))] rfl rfl (rdA_new rfl (Ext.refl _)) (by simp [Value.oneCell']) (by omega) (by simp) ?_; intro v3 w3 hown3 hE3 hg3 hat3))
        go_roundw
        case rel => exact ⟨k + 1, by omega, by go_num, by rw [leadL_succ, List.map_append, HL.out]; exact hown3, hE3⟩
        case measure => simp [intOf]; omega
    · have hkl : l.length - 1 = k := by omega
      have HKL := Lib.hid hkl; clear hkl
      obtain ⟨A', c', rfl, hc', _⟩ := own_form hown
      go_wp2
      go_ret
      exact ⟨A', c', by simp only [spc, HKL.out, leadL_len]; rfl, by simp only [spc, HKL.out, leadL_len]; exact hc', by simp only [spc, HKL.out]; exact Rd.of_own hown, hE⟩

theorem impl_costOf (A : Option Addr) (c n : Nat) (s : List Int) (r : Rul) (lo hi : Nat) (w : World) (hn : s.length = n) (hl : n ≤ 1048577) (hr : RdI w lo hi A s) :
    Calls Try.prog 65 #[.slice A n c, .agg #[.int .i64 r.least, .int .i64 r.normal, .int .i64 r.most]] w fun e w' => e = .returned (.int .i64 (costs s r)) ∧ Ext w w' := by
  subst hn
  have hr' := hr.ext (Ext.alloc w (.cells #[.int .i64 r.least, .int .i64 r.normal, .int .i64 r.most] 28))
  go_enter Try.func65, Try.ntmps65
  go_wp2
  go_loop [5, 10] (fun x i => ∃ k : Nat, k ≤ s.length ∧ i = .int .i64 k ∧ x = .int .i64 (costs (s.take k) r)) (fun _ i => s.length - (intOf i).toNat)
  case atStart => exact ⟨0, Nat.zero_le _, rfl, by simp [costs]⟩
  case round =>
    obtain ⟨k, hk, rfl, rfl⟩ := hrel
    by_cases hlt : k < s.length
    · obtain ⟨x, b, off, HX, rfl, _, _, h3, c0, _⟩ := RdI.get hr' hlt
      go_wp2
      go_round
      case rel => exact ⟨k + 1, by omega, by go_num, by rw [costs_snoc r HX.out]⟩
      case measure => simp [intOf]; omega
    · go_wp2
      go_ret
      exact ⟨by rw [List.take_of_length_le (by omega)]; rfl, (by repeat (first | exact Ext.refl _ | assumption | refine Ext.trans ?_ (Ext.alloc _ _) | refine Ext.trans ?_ (Ext.drew _) | refine Ext.trans ?_ (Ext.drewN _ _) | refine Ext.trans ?_ (by assumption)))⟩
theorem spec_juCost (A : Option Addr) (c n : Nat) (l : List Int) (r : Rul) (m : Int) (lo hi : Nat) (w : World) (hn : l.length = n) (h1 : 1 ≤ l.length) (h2 : l.length ≤ 24) (hw : ∀ x ∈ l, 1 ≤ x ∧ x ≤ 600) (r1 : 1 ≤ r.least) (r2 : r.least ≤ r.normal) (r3 : r.normal ≤ r.most) (r4 : r.most ≤ 54) (m1 : 1 ≤ m) (m2 : m ≤ 2000) (hf : fits l r m = true) (hr : RdI w lo hi A l) :
    Calls Try.prog 62 #[.slice A n c, .agg #[.int .i64 r.least, .int .i64 r.normal, .int .i64 r.most], .int .i64 m] w fun e w' => e = .returned (.int .i64 (costs (spc l m) r)) ∧ Ext w w' := by
  subst hn
  have hr' := hr.ext (Ext.alloc w (.cells #[.int .i64 r.least, .int .i64 r.normal, .int .i64 r.most] 28))
  obtain ⟨w0, hw0⟩ : ∃ w0, w0 = w.alloc (.cells #[.int .i64 r.least, .int .i64 r.normal, .int .i64 r.most] 28) := ⟨_, rfl⟩
  have x1 : w0.cell? ⟨w.heap.size, 1, none⟩ = some (.int .i64 r.normal) := by rw [hw0]; exact box_new (Ext.refl _) rfl
  have hE0 : Ext w w0 := by rw [hw0]; exact Ext.alloc _ _
  have hlt0 : w.heap.size < w0.heap.size := by rw [hw0]; simp
  have HW0 := Lib.hid hw0
  rw [← hw0] at hr'
  clear hw0
  have hsl : (spc l m).length ≤ 24 := by rw [spc, leadL_len]; omega
  go_enter Try.func62, Try.ntmps62
  go_wp2_with fail
  rw [← HW0.out]
  refine (spec_juSpaces A c _ l r m lo hi _ rfl h1 h2 hw r1 r2 r3 r4 m1 m2 hf hr').mono ?_
  rintro e w1 ⟨A1, c1, rfl, hc1, hR1, hE1⟩
  have x1' := hE1.cell x1
  have hlt1 : w.heap.size < w1.heap.size := by have := hE1.size; omega
  obtain ⟨s, hs⟩ : ∃ s, s = spc l m := ⟨_, rfl⟩
  rw [← hs] at hR1 hc1 hsl ⊢
  have HS := Lib.hid hs; clear hs
  go_wp2_with fail
  go_loop [7, 14] (fun x i => ∃ k : Nat, k ≤ s.length ∧ i = .int .i64 k ∧ x = .int .i64 (costs (s.take k) r)) (fun _ i => s.length - (intOf i).toNat)
  case atStart => exact ⟨0, Nat.zero_le _, rfl, by simp [costs]⟩
  case round =>
    obtain ⟨k, hk, rfl, rfl⟩ := hrel
    by_cases hlt : k < s.length
    · obtain ⟨x, b, off, HX, rfl, _, _, h3, c0, _⟩ := RdI.get hR1 hlt
      go_wp2
      go_round
      case rel => exact ⟨k + 1, by omega, by go_num, by rw [costs_snoc r HX.out]⟩
      case measure => simp [intOf]; omega
    · go_wp2
      go_ret
      exact ⟨by rw [← HS.out, List.take_of_length_le (by omega)]; rfl, (by repeat (first | exact Ext.refl _ | assumption | refine Ext.trans ?_ (Ext.alloc _ _) | refine Ext.trans ?_ (Ext.drew _) | refine Ext.trans ?_ (Ext.drewN _ _) | refine Ext.trans ?_ (by assumption)))⟩
theorem impl_lineCost (A : Option Addr) (c n : Nat) (l : List Int) (r : Rul) (m : Int) (lo hi : Nat) (w : World) (hn : l.length = n) (h1 : 1 ≤ l.length) (h2 : l.length ≤ 24) (hw : ∀ x ∈ l, 1 ≤ x ∧ x ≤ 600) (r1 : 1 ≤ r.least) (r2 : r.least ≤ r.normal) (r3 : r.normal ≤ r.most) (r4 : r.most ≤ 54) (m1 : 1 ≤ m) (m2 : m ≤ 2000) (hr : RdI w lo hi A l) :
    Calls Try.prog 45 #[.slice A n c, .agg #[.int .i64 r.least, .int .i64 r.normal, .int .i64 r.most], .int .i64 m] w fun e w' => e = .returned (.tuple #[.int .i64 (lc l r m), .bool (lineOk l r m)]) ∧ Ext w w' := by
  subst hn
  have hr' := hr.ext (Ext.alloc w (.cells #[.int .i64 r.least, .int .i64 r.normal, .int .i64 r.most] 28))
  by_cases h20 : l.length ≤ 20
  case neg =>
    have e1 : lineOk l r m = false := by simp [lineOk, h20]
    have e2 : lc l r m = 0 := by simp [lc, e1]
    rw [e1, e2]; clear e1 e2
    go_enter Try.func45, Try.ntmps45
    go_wp2
    go_ret2
    exact ⟨rfl, (by repeat (first | exact Ext.refl _ | assumption | refine Ext.trans ?_ (Ext.alloc _ _) | refine Ext.trans ?_ (Ext.drew _) | refine Ext.trans ?_ (Ext.drewN _ _) | refine Ext.trans ?_ (by assumption)))⟩
  obtain ⟨w0, hw0⟩ : ∃ w0, w0 = w.alloc (.cells #[.int .i64 r.least, .int .i64 r.normal, .int .i64 r.most] 28) := ⟨_, rfl⟩
  have x0 : w0.cell? ⟨w.heap.size, 0, none⟩ = some (.int .i64 r.least) := by rw [hw0]; exact box_new (Ext.refl _) rfl
  have x1 : w0.cell? ⟨w.heap.size, 1, none⟩ = some (.int .i64 r.normal) := by rw [hw0]; exact box_new (Ext.refl _) rfl
  have x2 : w0.cell? ⟨w.heap.size, 2, none⟩ = some (.int .i64 r.most) := by rw [hw0]; exact box_new (Ext.refl _) rfl
  have hE0 : Ext w w0 := by rw [hw0]; exact Ext.alloc _ _
  have hlt0 : w.heap.size < w0.heap.size := by rw [hw0]; simp
  have HW0 := Lib.hid hw0
  rw [← hw0] at hr'
  clear hw0
  cases hf : fits l r m
  · have e1 : lineOk l r m = false := by simp [lineOk, hf]
    have e2 : lc l r m = 0 := by simp [lc, e1]
    rw [e1, e2]; clear e1 e2
    go_enter Try.func45, Try.ntmps45
    go_wp2_with fail
    rw [← HW0.out]
    refine (impl_justify A c _ l r m lo hi _ rfl h1 h2 hw r1 r2 r3 r4 m1 m2 hr').mono ?_
    rw [jsP_bad hf]
    rintro e w1 ⟨A1, c1, rfl, hc1, hR1, hE1⟩
    have y0 := hE1.cell x0; have y1 := hE1.cell x1; have y2 := hE1.cell x2
    have hlt1 : w.heap.size < w1.heap.size := by have := hE1.size; omega
    simp only at hc1 hR1
    go_wp2_with fail
    refine (impl_costOf A1 c1 _ [] r _ _ _ rfl (by simp) hR1).mono ?_
    rintro e w2 ⟨rfl, hE2⟩
    go_wp2_with fail
    go_ret2
    exact ⟨rfl, (by repeat (first | exact Ext.refl _ | assumption | refine Ext.trans ?_ (Ext.alloc _ _) | refine Ext.trans ?_ (Ext.drew _) | refine Ext.trans ?_ (Ext.drewN _ _) | refine Ext.trans ?_ (by assumption)))⟩
  · have e1 : lineOk l r m = true := by simp [lineOk, hf, h20]
    have e2 : lc l r m = costs (spc l m) r := by simp [lc, e1]
    rw [e1, e2]; clear e1 e2
    have hsl : (spc l m).length ≤ 24 := by rw [spc, leadL_len]; omega
    go_enter Try.func45, Try.ntmps45
    go_wp2_with fail
    rw [← HW0.out]
    refine (impl_justify A c _ l r m lo hi _ rfl h1 h2 hw r1 r2 r3 r4 m1 m2 hr').mono ?_
    rw [jsP_good hf]
    rintro e w1 ⟨A1, c1, rfl, hc1, hR1, hE1⟩
    have y0 := hE1.cell x0; have y1 := hE1.cell x1; have y2 := hE1.cell x2
    have hlt1 : w.heap.size < w1.heap.size := by have := hE1.size; omega
    simp only at hc1 hR1
    go_wp2_with fail
    refine (impl_costOf A1 c1 _ (spc l m) r _ _ _ rfl (by omega) hR1).mono ?_
    rintro e w2 ⟨rfl, hE2⟩
    go_wp2_with fail
    go_ret2
    exact ⟨rfl, (by repeat (first | exact Ext.refl _ | assumption | refine Ext.trans ?_ (Ext.alloc _ _) | refine Ext.trans ?_ (Ext.drew _) | refine Ext.trans ?_ (Ext.drewN _ _) | refine Ext.trans ?_ (by assumption)))⟩
theorem impl_canEnd (A : Option Addr) (c n : Nat) (l : List Int) (r : Rul) (m : Int) (lo hi : Nat) (w : World) (hn : l.length = n) (h1 : 1 ≤ l.length) (h2 : l.length ≤ 24) (hw : ∀ x ∈ l, 1 ≤ x ∧ x ≤ 600) (r1 : 1 ≤ r.least) (r2 : r.least ≤ r.normal) (r3 : r.normal ≤ r.most) (r4 : r.most ≤ 54) (m1 : 1 ≤ m) (m2 : m ≤ 2000) (hr : RdI w lo hi A l) :
    Calls Try.prog 46 #[.slice A n c, .agg #[.int .i64 r.least, .int .i64 r.normal, .int .i64 r.most], .int .i64 m] w fun e w' => e = .returned (.bool (canEnd l r m)) ∧ Ext w w' := by
  subst hn
  obtain ⟨s1, s2⟩ := sumW_bound (by omega) hw
  have HW := Lib.hid hw; clear hw
  have p1 : 0 ≤ ((l.length : Int) - 1) * r.least := Int.mul_nonneg (by omega) (by omega)
  have p2 : 0 ≤ ((l.length : Int) - 1) * r.most := Int.mul_nonneg (by omega) (by omega)
  have p3 : 0 ≤ ((l.length : Int) - 1) * r.normal := Int.mul_nonneg (by omega) (by omega)
  have p4 : ((l.length : Int) - 1) * r.least ≤ 24 * 54 := Int.mul_le_mul (by omega) (by omega) (by omega) (by omega)
  have p5 : ((l.length : Int) - 1) * r.most ≤ 24 * 54 := Int.mul_le_mul (by omega) (by omega) (by omega) (by omega)
  have p6 : ((l.length : Int) - 1) * r.normal ≤ 24 * 54 := Int.mul_le_mul (by omega) (by omega) (by omega) (by omega)
  obtain ⟨w0, hw0⟩ : ∃ w0, w0 = w.alloc (.cells #[.int .i64 r.least, .int .i64 r.normal, .int .i64 r.most] 28) := ⟨_, rfl⟩
  have x1 : w0.cell? ⟨w.heap.size, 1, none⟩ = some (.int .i64 r.normal) := by rw [hw0]; exact box_new (Ext.refl _) rfl
  have hE0 : Ext w w0 := by rw [hw0]; exact Ext.alloc _ _
  have HW0 := Lib.hid hw0
  have hr' := hr.ext hE0
  clear hw0
  have y1 : ∀ x : XW w0, x.v.cell? ⟨w.heap.size, 1, none⟩ = _ := fun x => x.h.cell x1
  have k1 : IntKind.i64.wrap ((l.length : Int) - 1) = (l.length : Int) - 1 := IntWalk.i64_in _ (by omega)
  have k2 : IntKind.i64.wrap (((l.length : Int) - 1) * r.normal) = ((l.length : Int) - 1) * r.normal := IntWalk.i64_in _ (by omega)
  have k3 : IntKind.i64.wrap (sumW l + ((l.length : Int) - 1) * r.normal) = sumW l + ((l.length : Int) - 1) * r.normal := IntWalk.i64_in _ (by omega)
  by_cases h20 : l.length ≤ 20
  case neg =>
    have t1 : decide ((l.length : Int) ≤ 20) = false := by simp; omega
    have t2 : decide (l.length ≤ 20) = false := by simp; omega
    have e1 : canEnd l r m = false := by simp [canEnd, h20]
    rw [e1]; clear e1
    go_enter Try.func46, Try.ntmps46
    go_wp2_with fail
    rw [← HW0.out]
    refine wp_region_xw (w0 := w0) (by kernel_rfl) (by kernel_rfl) (by repeat (first | exact Ext.refl _ | assumption | refine Ext.trans ?_ (Ext.alloc _ _) | refine Ext.trans ?_ (Ext.drew _) | refine Ext.trans ?_ (Ext.drewN _ _) | refine Ext.trans ?_ (by assumption))) ?_; (repeat (go_big_quiet_step (fail))); refine wpQuiet_nil ?_; intro w1 hw'; obtain ⟨⟨_, hEw1⟩, hw''⟩ := hw'; subst hw''
    go_wp2
    go_ret
    exact ⟨rfl, (by repeat (first | exact Ext.refl _ | assumption | refine Ext.trans ?_ (Ext.alloc _ _) | refine Ext.trans ?_ (Ext.drew _) | refine Ext.trans ?_ (Ext.drewN _ _) | refine Ext.trans ?_ (by assumption)))⟩
  have t1 : decide ((l.length : Int) ≤ 20) = true := by simp; omega
  have t2 : decide (l.length ≤ 20) = true := by simp; omega
  have t3 : (l.length : Int) ≤ 20 := by omega
  have e1 : canEnd l r m = decide (sumW l + ((l.length : Int) - 1) * r.normal ≤ m) := by simp [canEnd, h20]
  rw [e1]; clear e1
  go_enter Try.func46, Try.ntmps46
  go_wp2_with fail
  rw [← HW0.out]
  refine wp_region_xw (w0 := w0) (by kernel_rfl) (by kernel_rfl) (by repeat (first | exact Ext.refl _ | assumption | refine Ext.trans ?_ (Ext.alloc _ _) | refine Ext.trans ?_ (Ext.drew _) | refine Ext.trans ?_ (Ext.drewN _ _) | refine Ext.trans ?_ (by assumption))) ?_; (repeat (go_big_quiet_step ((go_at_call 66; exact XW.same (impl_sum A c _ l lo hi _ rfl (by omega) (hr'.ext (XW.h _))))))); refine wpQuiet_nil ?_; intro w1 hw'; obtain ⟨⟨_, hEw1⟩, hw''⟩ := hw'; subst hw''
  go_wp2
  go_ret
  exact ⟨rfl, (by repeat (first | exact Ext.refl _ | assumption | refine Ext.trans ?_ (Ext.alloc _ _) | refine Ext.trans ?_ (Ext.drew _) | refine Ext.trans ?_ (Ext.drewN _ _) | refine Ext.trans ?_ (by assumption)))⟩
end Go.Proofs.Ytmfoankgfiofdaa
