/- The walks of JustifyLine: the program's and the reference's. (Printed by mkFoJ.py.) -/
import Derived.Test.YtnkkpphjahpadaaFoG
namespace Go.Proofs.Ytnkkpphjahpadaa
open Go.RowKit
set_option linter.unusedVariables false
theorem w64 {n : Int} (h : -9223372036854775808 ≤ n) (h' : n ≤ 9223372036854775807) : wrap64 n = n := IntWalk.wrap64_in n ⟨h, h'⟩
structure Rul where
  least : Int
  normal : Int
  most : Int
def Rul.val (r : Rul) : Value := .agg #[.int .i64 r.least, .int .i64 r.normal, .int .i64 r.most]
def ruleOk (r : Rul) : Bool := ((decide (1 ≤ r.least) && decide (r.least ≤ r.normal)) && decide (r.normal ≤ r.most)) && decide (r.most ≤ 54)
theorem ruleOk_iff {r : Rul} : ruleOk r = true ↔ 1 ≤ r.least ∧ r.least ≤ r.normal ∧ r.normal ≤ r.most ∧ r.most ≤ 54 := by simp [ruleOk, and_assoc]
/-- The sum of widths, as Go adds them. -/
def sumW (l : List Int) : Int := l.foldl (fun n x => wrap64 (n + x)) 0
theorem sumW_snoc {l : List Int} {k : Nat} {x : Int} (h : l[k]? = some x) : sumW (l.take (k + 1)) = wrap64 (sumW (l.take k) + x) := by rw [take_snoc h]; simp [sumW]
theorem sumW_bound {l : List Int} (hl : l.length ≤ 1000) (h : ∀ x ∈ l, 1 ≤ x ∧ x ≤ 600) : (l.length : Int) ≤ sumW l ∧ sumW l ≤ 600 * l.length := by
  have key : ∀ (l : List Int) (a : Int), 0 ≤ a → a + 600 * l.length ≤ 1000000 → (∀ x ∈ l, 1 ≤ x ∧ x ≤ 600) → a + l.length ≤ l.foldl (fun n x => wrap64 (n + x)) a ∧ l.foldl (fun n x => wrap64 (n + x)) a ≤ a + 600 * l.length := by
    intro l
    induction l with
    | nil => intro a _ _ _; simp
    | cons x l ih =>
      intro a h0 h1 h2
      have hx := h2 x List.mem_cons_self
      simp only [List.length_cons, Int.natCast_add] at h1 ⊢
      rw [List.foldl_cons, w64 (by omega) (by omega)]
      have := ih (a + x) (by omega) (by omega) (fun y hy => h2 y (List.mem_cons_of_mem _ hy))
      omega
  have := key l 0 (by omega) (by omega) h
  unfold sumW
  omega
/-- The spaces of a line that can be justified: the first r of n are one greater. -/
def leadAt (left gaps : Int) (i : Nat) : Int := if (i : Int) < left % gaps then left / gaps + 1 else left / gaps
def leadL (left gaps : Int) (n : Nat) : List Int := (List.range n).map (leadAt left gaps)
theorem leadL_len (left gaps : Int) (n : Nat) : (leadL left gaps n).length = n := by simp [leadL]
theorem leadL_succ (left gaps : Int) (n : Nat) : leadL left gaps (n + 1) = leadL left gaps n ++ [leadAt left gaps n] := by simp [leadL, List.range_succ]
def fits (l : List Int) (r : Rul) (m : Int) : Bool := inB (m - sumW l) (((l.length : Int) - 1) * r.least) (((l.length : Int) - 1) * r.most)
def spc (l : List Int) (m : Int) : List Int := leadL (m - sumW l) ((l.length : Int) - 1) (l.length - 1)
theorem impl_IsRule (r : Rul) (w : World) : Calls Try.prog 138 #[.agg #[.int .i64 r.least, .int .i64 r.normal, .int .i64 r.most]] w fun e w' => e = .returned (.bool (ruleOk r)) ∧ Ext w w' := by
  obtain ⟨a, b, c⟩ := r
  by_cases h1 : 1 ≤ a
  case neg =>
    have hv : ruleOk ⟨a, b, c⟩ = false := by simp [ruleOk, h1]
    rw [hv]; clear hv
    go_enter Try.func138, Try.ntmps138
    go_wp2
    go_ret
    exact ⟨rfl, (by repeat (first | exact Ext.refl _ | assumption | refine Ext.trans ?_ (Ext.alloc _ _) | refine Ext.trans ?_ (Ext.drew _) | refine Ext.trans ?_ (Ext.drewN _ _) | refine Ext.trans ?_ (by assumption)))⟩
  by_cases h2 : a ≤ b
  case neg =>
    have hv : ruleOk ⟨a, b, c⟩ = false := by simp [ruleOk, h2]
    rw [hv]; clear hv
    go_enter Try.func138, Try.ntmps138
    go_wp2
    go_ret
    exact ⟨rfl, (by repeat (first | exact Ext.refl _ | assumption | refine Ext.trans ?_ (Ext.alloc _ _) | refine Ext.trans ?_ (Ext.drew _) | refine Ext.trans ?_ (Ext.drewN _ _) | refine Ext.trans ?_ (by assumption)))⟩
  by_cases h3 : b ≤ c
  case neg =>
    have hv : ruleOk ⟨a, b, c⟩ = false := by simp [ruleOk, h3]
    rw [hv]; clear hv
    go_enter Try.func138, Try.ntmps138
    go_wp2
    go_ret
    exact ⟨rfl, (by repeat (first | exact Ext.refl _ | assumption | refine Ext.trans ?_ (Ext.alloc _ _) | refine Ext.trans ?_ (Ext.drew _) | refine Ext.trans ?_ (Ext.drewN _ _) | refine Ext.trans ?_ (by assumption)))⟩
  by_cases h4 : c ≤ 54
  case neg =>
    have hv : ruleOk ⟨a, b, c⟩ = false := by simp [ruleOk, h4]
    rw [hv]; clear hv
    go_enter Try.func138, Try.ntmps138
    go_wp2
    go_ret
    exact ⟨rfl, (by repeat (first | exact Ext.refl _ | assumption | refine Ext.trans ?_ (Ext.alloc _ _) | refine Ext.trans ?_ (Ext.drew _) | refine Ext.trans ?_ (Ext.drewN _ _) | refine Ext.trans ?_ (by assumption)))⟩
  have hv : ruleOk ⟨a, b, c⟩ = true := by simp [ruleOk, h1, h2, h3, h4]
  rw [hv]; clear hv
  go_enter Try.func138, Try.ntmps138
  go_wp2
  go_ret
  exact ⟨rfl, (by repeat (first | exact Ext.refl _ | assumption | refine Ext.trans ?_ (Ext.alloc _ _) | refine Ext.trans ?_ (Ext.drew _) | refine Ext.trans ?_ (Ext.drewN _ _) | refine Ext.trans ?_ (by assumption)))⟩
theorem spec_juRule (r : Rul) (w : World) : Calls Try.prog 134 #[.agg #[.int .i64 r.least, .int .i64 r.normal, .int .i64 r.most]] w fun e w' => e = .returned (.bool (ruleOk r)) ∧ Ext w w' := by
  obtain ⟨a, b, c⟩ := r
  by_cases h1 : 1 ≤ a
  case neg =>
    have hv : ruleOk ⟨a, b, c⟩ = false := by simp [ruleOk, h1]
    rw [hv]; clear hv
    go_enter Try.func134, Try.ntmps134
    go_wp2
    go_ret
    exact ⟨rfl, (by repeat (first | exact Ext.refl _ | assumption | refine Ext.trans ?_ (Ext.alloc _ _) | refine Ext.trans ?_ (Ext.drew _) | refine Ext.trans ?_ (Ext.drewN _ _) | refine Ext.trans ?_ (by assumption)))⟩
  by_cases h2 : a ≤ b
  case neg =>
    have hv : ruleOk ⟨a, b, c⟩ = false := by simp [ruleOk, h2]
    rw [hv]; clear hv
    go_enter Try.func134, Try.ntmps134
    go_wp2
    go_ret
    exact ⟨rfl, (by repeat (first | exact Ext.refl _ | assumption | refine Ext.trans ?_ (Ext.alloc _ _) | refine Ext.trans ?_ (Ext.drew _) | refine Ext.trans ?_ (Ext.drewN _ _) | refine Ext.trans ?_ (by assumption)))⟩
  by_cases h3 : b ≤ c
  case neg =>
    have hv : ruleOk ⟨a, b, c⟩ = false := by simp [ruleOk, h3]
    rw [hv]; clear hv
    go_enter Try.func134, Try.ntmps134
    go_wp2
    go_ret
    exact ⟨rfl, (by repeat (first | exact Ext.refl _ | assumption | refine Ext.trans ?_ (Ext.alloc _ _) | refine Ext.trans ?_ (Ext.drew _) | refine Ext.trans ?_ (Ext.drewN _ _) | refine Ext.trans ?_ (by assumption)))⟩
  by_cases h4 : c ≤ 54
  case neg =>
    have hv : ruleOk ⟨a, b, c⟩ = false := by simp [ruleOk, h4]
    rw [hv]; clear hv
    go_enter Try.func134, Try.ntmps134
    go_wp2
    go_ret
    exact ⟨rfl, (by repeat (first | exact Ext.refl _ | assumption | refine Ext.trans ?_ (Ext.alloc _ _) | refine Ext.trans ?_ (Ext.drew _) | refine Ext.trans ?_ (Ext.drewN _ _) | refine Ext.trans ?_ (by assumption)))⟩
  have hv : ruleOk ⟨a, b, c⟩ = true := by simp [ruleOk, h1, h2, h3, h4]
  rw [hv]; clear hv
  go_enter Try.func134, Try.ntmps134
  go_wp2
  go_ret
  exact ⟨rfl, (by repeat (first | exact Ext.refl _ | assumption | refine Ext.trans ?_ (Ext.alloc _ _) | refine Ext.trans ?_ (Ext.drew _) | refine Ext.trans ?_ (Ext.drewN _ _) | refine Ext.trans ?_ (by assumption)))⟩
theorem isMeasure_any (n : Int) (w : World) : Calls Try.prog 139 #[.int .i64 n] w fun e w' => e = .returned (.bool (inB n 1 2000)) ∧ w = w' := by
  go_enter Try.func139, Try.ntmps139
  go_wp2_with (go_at_call 85; refine (within_any _ _ _ _).mono ?_; rintro e w' ⟨rfl, rfl⟩)
  go_ret
  exact ⟨rfl, rfl⟩
theorem juMeasure_any (n : Int) (w : World) : Calls Try.prog 135 #[.int .i64 n] w fun e w' => e = .returned (.bool (inB n 1 2000)) ∧ w = w' := by
  go_enter Try.func135, Try.ntmps135
  go_wp2_with (go_at_call 81; refine (l1In_any _ _ _ _).mono ?_; rintro e w' ⟨rfl, rfl⟩)
  go_ret
  exact ⟨rfl, rfl⟩
theorem impl_sum (A : Option Addr) (c n : Nat) (l : List Int) (lo hi : Nat) (w : World) (hn : l.length = n) (hl : n ≤ 4000000) (hr : RdI w lo hi A l) :
    Calls Try.prog 140 #[.slice A n c] w fun e w' => e = .returned (.int .i64 (sumW l)) ∧ w = w' := by
  subst hn
  go_enter Try.func140, Try.ntmps140
  go_wp2
  go_loop [3, 8] (fun s i => ∃ k : Nat, k ≤ l.length ∧ i = .int .i64 k ∧ s = .int .i64 (sumW (l.take k))) (fun _ i => l.length - (intOf i).toNat)
  case atStart => exact ⟨0, Nat.zero_le _, rfl, by simp [sumW]⟩
  case round =>
    obtain ⟨k, hk, rfl, rfl⟩ := hrel
    by_cases hlt : k < l.length
    · obtain ⟨x, b, off, HX, rfl, h1, h2, h3, c0, _⟩ := RdI.get hr hlt
      go_wp2
      go_round
      case rel => exact ⟨k + 1, by omega, by go_num, by rw [sumW_snoc HX.out]⟩
      case measure => simp [intOf]; omega
    · go_wp2
      go_ret
      exact ⟨by rw [List.take_of_length_le (by omega)]; rfl, rfl⟩
theorem spec_juSum (A : Option Addr) (c n : Nat) (l : List Int) (lo hi : Nat) (w : World) (hn : l.length = n) (hl : n ≤ 4000000) (hr : RdI w lo hi A l) :
    Calls Try.prog 136 #[.slice A n c] w fun e w' => e = .returned (.int .i64 (sumW l)) ∧ w = w' := by
  subst hn
  go_enter Try.func136, Try.ntmps136
  go_wp2
  go_loop [3, 8] (fun s i => ∃ k : Nat, k ≤ l.length ∧ i = .int .i64 k ∧ s = .int .i64 (sumW (l.take k))) (fun _ i => l.length - (intOf i).toNat)
  case atStart => exact ⟨0, Nat.zero_le _, rfl, by simp [sumW]⟩
  case round =>
    obtain ⟨k, hk, rfl, rfl⟩ := hrel
    by_cases hlt : k < l.length
    · obtain ⟨x, b, off, HX, rfl, h1, h2, h3, c0, _⟩ := RdI.get hr hlt
      go_wp2
      go_round
      case rel => exact ⟨k + 1, by omega, by go_num, by rw [sumW_snoc HX.out]⟩
      case measure => simp [intOf]; omega
    · go_wp2
      go_ret
      exact ⟨by rw [List.take_of_length_le (by omega)]; rfl, rfl⟩
def RetI (w : World) (xs : List Int) (e : Ending) (w' : World) : Prop := ∃ A c, e = .returned (.slice A xs.length c) ∧ xs.length ≤ c ∧ RdI w' w.heap.size w'.heap.size A xs ∧ Ext w w'
theorem toRule_any (x : Rul) (w : World) : Calls Try.prog 46 #[.agg #[.int .i64 x.least, .int .i64 x.normal, .int .i64 x.most]] w fun e w' => e = .returned (.agg #[.int .i64 x.least, .int .i64 x.normal, .int .i64 x.most]) ∧ Ext w w' := by
  go_enter Try.func46, Try.ntmps46
  go_wp2
  exact bodyPost_ret (v := .agg #[.int .i64 x.least, .int .i64 x.normal, .int .i64 x.most]) (by simp [results, Try.results46, go_sem]) rfl ⟨rfl, (by repeat (first | exact Ext.refl _ | assumption | refine Ext.trans ?_ (Ext.alloc _ _) | refine Ext.trans ?_ (Ext.drew _) | refine Ext.trans ?_ (Ext.drewN _ _) | refine Ext.trans ?_ (by assumption)))⟩
def jsP (l : List Int) (r : Rul) (m : Int) : List Int × Bool := if fits l r m then (spc l m, true) else ([], false)
theorem jsP_bad {l : List Int} {r : Rul} {m : Int} (h : fits l r m = false) : jsP l r m = ([], false) := by simp only [jsP, h]; rfl
theorem jsP_good {l : List Int} {r : Rul} {m : Int} (h : fits l r m = true) : jsP l r m = (spc l m, true) := by simp only [jsP, h]; rfl
theorem impl_justify (A : Option Addr) (c n : Nat) (l : List Int) (r : Rul) (m : Int) (lo hi : Nat) (w : World) (hn : l.length = n) (h1 : 1 ≤ l.length) (h2 : l.length ≤ 24) (hw : ∀ x ∈ l, 1 ≤ x ∧ x ≤ 600) (r1 : 1 ≤ r.least) (r2 : r.least ≤ r.normal) (r3 : r.normal ≤ r.most) (r4 : r.most ≤ 54) (m1 : 1 ≤ m) (m2 : m ≤ 2000) (hr : RdI w lo hi A l) :
    Calls Try.prog 120 #[.slice A n c, .agg #[.int .i64 r.least, .int .i64 r.normal, .int .i64 r.most], .int .i64 m] w (RetI2 w (jsP l r m)) := by
  subst hn
  obtain ⟨s1, s2⟩ := sumW_bound (by omega) hw
  have HW := Lib.hid hw; clear hw
  have p1 : 0 ≤ ((l.length : Int) - 1) * r.least := Int.mul_nonneg (by omega) (by omega)
  have p2 : 0 ≤ ((l.length : Int) - 1) * r.most := Int.mul_nonneg (by omega) (by omega)
  have p3 : 0 ≤ ((l.length : Int) - 1) * r.normal := Int.mul_nonneg (by omega) (by omega)
  have p4 : ((l.length : Int) - 1) * r.least ≤ 24 * 54 := Int.mul_le_mul (by omega) (by omega) (by omega) (by omega)
  have p5 : ((l.length : Int) - 1) * r.most ≤ 24 * 54 := Int.mul_le_mul (by omega) (by omega) (by omega) (by omega)
  have p6 : ((l.length : Int) - 1) * r.normal ≤ 24 * 54 := Int.mul_le_mul (by omega) (by omega) (by omega) (by omega)
  have hr' := hr.ext (Ext.alloc w (.cells #[.int .i64 r.least, .int .i64 r.normal, .int .i64 r.most] 59))
  cases h : fits l r m
  · rw [jsP_bad h]
    unfold fits at h
    go_enter Try.func120, Try.ntmps120
    go_wp2_with (first | (go_at_call 140; refine (impl_sum A c _ l lo hi _ rfl (by omega) hr').mono ?_; rintro e w' ⟨rfl, rfl⟩) | (go_at_call 85; refine (within_any _ _ _ _).mono ?_; rintro e w' ⟨rfl, rfl⟩))
    go_ret2
    exact retI2_lit (by repeat (first | exact Ext.refl _ | assumption | refine Ext.trans ?_ (Ext.alloc _ _) | refine Ext.trans ?_ (Ext.drew _) | refine Ext.trans ?_ (Ext.drewN _ _) | refine Ext.trans ?_ (by assumption)))
  rw [jsP_good h]
  unfold fits at h
  have hf := inB_iff.1 h
  go_enter Try.func120, Try.ntmps120
  go_wp2_with (first | (go_at_call 140; refine (impl_sum A c _ l lo hi _ rfl (by omega) hr').mono ?_; rintro e w' ⟨rfl, rfl⟩) | (go_at_call 85; refine (within_any _ _ _ _).mono ?_; rintro e w' ⟨rfl, rfl⟩))
  clear h
  go_loopw [10, 11] (fun v i wr => ∃ k : Nat, k ≤ l.length - 1 ∧ i = .int .i64 k ∧ wr.ownsRow w.heap.size 3 1 v k ((leadL (m - sumW l) ((l.length : Int) - 1) k).map (Value.int .i64)) ∧ Ext w wr) (fun _ i _ => l.length - 1 - (intOf i).toNat)
  case atStart => exact ⟨0, Nat.zero_le _, rfl, (by have h0 := own_lit0 (w := w.alloc (.cells #[.int .i64 r.least, .int .i64 r.normal, .int .i64 r.most] 59)) 3 1 (Ext.alloc w _).size (Ext.refl _); rw [show (w.alloc (.cells #[.int .i64 r.least, .int .i64 r.normal, .int .i64 r.most] 59)).heap.size = w.heap.size + 1 from by simp] at h0; exact h0), (by repeat (first | exact Ext.refl _ | assumption | refine Ext.trans ?_ (Ext.alloc _ _) | refine Ext.trans ?_ (Ext.drew _) | refine Ext.trans ?_ (Ext.drewN _ _) | refine Ext.trans ?_ (by assumption)))⟩
  case round =>
    obtain ⟨k, hk, rfl, hown, hE⟩ := hrel
    by_cases hlt : k < l.length - 1
    · have q1 : 0 ≤ (m - sumW l) / ((l.length : Int) - 1) := Int.ediv_nonneg (by omega) (by omega)
      have q2 : (m - sumW l) / ((l.length : Int) - 1) ≤ m - sumW l := Int.ediv_le_self _ (by omega)
      by_cases ht : (k : Int) < (m - sumW l) % ((l.length : Int) - 1)
      · have HL : Hid (leadAt (m - sumW l) ((l.length : Int) - 1) k = (m - sumW l) / ((l.length : Int) - 1) + 1) := if_pos ht
        go_wp2_with (first | (at_builtin; refine wp_app _ w rfl (.tmp 48) (.tmp 50) 34 rfl 3 _ 1 8 Try.underlying34 intInfo0 rfl (by omega) _ k _ rfl (ownsRow_ext hown (Ext.alloc _ _)) (hE.trans (Ext.alloc _ _)) _ _ _ 1 1 [.int .i64 ((m - sumW l) / ((l.length : Int) - 1) + 1)] rfl rfl (rdA_new rfl (Ext.refl _)) (by simp [Value.oneCell']) (by omega) (by simp) ?_; intro v3 w3 hown3 hE3 hg3 hat3))
        go_roundw
        case rel => exact ⟨k + 1, by omega, by go_num, by rw [leadL_succ, List.map_append, HL.out]; exact hown3, hE3⟩
        case measure => simp [intOf]; omega
      · have HL : Hid (leadAt (m - sumW l) ((l.length : Int) - 1) k = (m - sumW l) / ((l.length : Int) - 1)) := if_neg ht
        go_wp2_with (first | (at_builtin; refine wp_app _ w rfl (.tmp 48) (.tmp 50) 34 rfl 3 _ 1 8 Try.underlying34 intInfo0 rfl (by omega) _ k _ rfl (ownsRow_ext hown (Ext.alloc _ _)) (hE.trans (Ext.alloc _ _)) _ _ _ 1 1 [.int .i64 ((m - sumW l) / ((l.length : Int) - 1))] rfl rfl (rdA_new rfl (Ext.refl _)) (by simp [Value.oneCell']) (by omega) (by simp) ?_; intro v3 w3 hown3 hE3 hg3 hat3))
        go_roundw
        case rel => exact ⟨k + 1, by omega, by go_num, by rw [leadL_succ, List.map_append, HL.out]; exact hown3, hE3⟩
        case measure => simp [intOf]; omega
    · have hkl : l.length - 1 = k := by omega
      have HKL := Lib.hid hkl; clear hkl
      obtain ⟨A', c', rfl, hc', _⟩ := own_form hown
      go_wp2
      go_ret2
      exact ⟨A', c', by simp only [spc, HKL.out, leadL_len]; rfl, by simp only [spc, HKL.out, leadL_len]; exact hc', by simp only [spc, HKL.out]; exact Rd.of_own hown, hE⟩

theorem spec_juSpaces (A : Option Addr) (c n : Nat) (l : List Int) (r : Rul) (m : Int) (lo hi : Nat) (w : World) (hn : l.length = n) (h1 : 1 ≤ l.length) (h2 : l.length ≤ 24) (hw : ∀ x ∈ l, 1 ≤ x ∧ x ≤ 600) (r1 : 1 ≤ r.least) (r2 : r.least ≤ r.normal) (r3 : r.normal ≤ r.most) (r4 : r.most ≤ 54) (m1 : 1 ≤ m) (m2 : m ≤ 2000) (hf : fits l r m = true) (hr : RdI w lo hi A l) :
    Calls Try.prog 117 #[.slice A n c, .int .i64 m] w (RetI w (spc l m)) := by
  subst hn
  obtain ⟨s1, s2⟩ := sumW_bound (by omega) hw
  have HW := Lib.hid hw; clear hw
  have p1 : 0 ≤ ((l.length : Int) - 1) * r.least := Int.mul_nonneg (by omega) (by omega)
  have p2 : 0 ≤ ((l.length : Int) - 1) * r.most := Int.mul_nonneg (by omega) (by omega)
  have p3 : 0 ≤ ((l.length : Int) - 1) * r.normal := Int.mul_nonneg (by omega) (by omega)
  have p4 : ((l.length : Int) - 1) * r.least ≤ 24 * 54 := Int.mul_le_mul (by omega) (by omega) (by omega) (by omega)
  have p5 : ((l.length : Int) - 1) * r.most ≤ 24 * 54 := Int.mul_le_mul (by omega) (by omega) (by omega) (by omega)
  have p6 : ((l.length : Int) - 1) * r.normal ≤ 24 * 54 := Int.mul_le_mul (by omega) (by omega) (by omega) (by omega)
  have hf := inB_iff.1 hf
  go_enter Try.func117, Try.ntmps117
  go_wp2_with (first | (go_at_call 136; refine (spec_juSum A c _ l lo hi _ rfl (by omega) hr).mono ?_; rintro e w' ⟨rfl, rfl⟩))
  go_loopw [7, 8] (fun v i wr => ∃ k : Nat, k ≤ l.length - 1 ∧ i = .int .i64 k ∧ wr.ownsRow w.heap.size 3 1 v k ((leadL (m - sumW l) ((l.length : Int) - 1) k).map (Value.int .i64)) ∧ Ext w wr) (fun _ i _ => l.length - 1 - (intOf i).toNat)
  case atStart => exact ⟨0, Nat.zero_le _, rfl, own_nil _ _ _ _, (by repeat (first | exact Ext.refl _ | assumption | refine Ext.trans ?_ (Ext.alloc _ _) | refine Ext.trans ?_ (Ext.drew _) | refine Ext.trans ?_ (Ext.drewN _ _) | refine Ext.trans ?_ (by assumption)))⟩
  case round =>
    obtain ⟨k, hk, rfl, hown, hE⟩ := hrel
    by_cases hlt : k < l.length - 1
    · have q1 : 0 ≤ (m - sumW l) / ((l.length : Int) - 1) := Int.ediv_nonneg (by omega) (by omega)
      have q2 : (m - sumW l) / ((l.length : Int) - 1) ≤ m - sumW l := Int.ediv_le_self _ (by omega)
      by_cases ht : (k : Int) < (m - sumW l) % ((l.length : Int) - 1)
      · have HL : Hid (leadAt (m - sumW l) ((l.length : Int) - 1) k = (m - sumW l) / ((l.length : Int) - 1) + 1) := if_pos ht
        go_wp2_with (first | (at_builtin; refine wp_app _ w rfl (.tmp 32) (.tmp 34) 34 rfl 3 _ 1 8 Try.underlying34 intInfo0 rfl (by omega) _ k _ rfl (ownsRow_ext hown (Ext.alloc _ _)) (hE.trans (Ext.alloc _ _)) _ _ _ 1 1 [.int .i64 ((m - sumW l) / ((l.length : Int) - 1) + 1)] rfl rfl (rdA_new rfl (Ext.refl _)) (by simp [Value.oneCell']) (by omega) (by simp) ?_; intro v3 w3 hown3 hE3 hg3 hat3))
        go_roundw
        case rel => exact ⟨k + 1, by omega, by go_num, by rw [leadL_succ, List.map_append, HL.out]; exact hown3, hE3⟩
        case measure => simp [intOf]; omega
      · have HL : Hid (leadAt (m - sumW l) ((l.length : Int) - 1) k = (m - sumW l) / ((l.length : Int) - 1)) := if_neg ht
        go_wp2_with (first | (at_builtin; refine wp_app _ w rfl (.tmp 32) (.tmp 34) 34 rfl 3 _ 1 8 Try.underlying34 intInfo0 rfl (by omega) _ k _ rfl (ownsRow_ext hown (Ext.alloc _ _)) (hE.trans (Ext.alloc _ _)) _ _ _ 1 1 [.int .i64 ((m - sumW l) / ((l.length : Int) - 1))] rfl rfl (rdA_new rfl (Ext.refl _)) (by simp [Value.oneCell']) (by omega) (by simp) ?_; intro v3 w3 hown3 hE3 hg3 hat3))
        go_roundw
        case rel => exact ⟨k + 1, by omega, by go_num, by rw [leadL_succ, List.map_append, HL.out]; exact hown3, hE3⟩
        case measure => simp [intOf]; omega
    · have hkl : l.length - 1 = k := by omega
      have HKL := Lib.hid hkl; clear hkl
      obtain ⟨A', c', rfl, hc', _⟩ := own_form hown
      go_wp2
      go_ret
      exact ⟨A', c', by simp only [spc, HKL.out, leadL_len]; rfl, by simp only [spc, HKL.out, leadL_len]; exact hc', by simp only [spc, HKL.out]; exact Rd.of_own hown, hE⟩

theorem juWhy_good (A : Option Addr) (c n : Nat) (l : List Int) (r : Rul) (m : Int) (lo hi : Nat) (w : World) (hn : l.length = n) (h1 : 1 ≤ l.length) (h2 : l.length ≤ 24) (hw : ∀ x ∈ l, 1 ≤ x ∧ x ≤ 600) (r1 : 1 ≤ r.least) (r2 : r.least ≤ r.normal) (r3 : r.normal ≤ r.most) (r4 : r.most ≤ 54) (m1 : 1 ≤ m) (m2 : m ≤ 2000) (hf : fits l r m = true) (hr : RdI w lo hi A l) :
    Calls Try.prog 116 #[.slice A n c, .agg #[.int .i64 r.least, .int .i64 r.normal, .int .i64 r.most], .int .i64 m] w fun e w' => e = .returned (.int .i64 0) ∧ Ext w w' := by
  subst hn
  obtain ⟨s1, s2⟩ := sumW_bound (by omega) hw
  have HW := Lib.hid hw; clear hw
  have p1 : 0 ≤ ((l.length : Int) - 1) * r.least := Int.mul_nonneg (by omega) (by omega)
  have p2 : 0 ≤ ((l.length : Int) - 1) * r.most := Int.mul_nonneg (by omega) (by omega)
  have p3 : 0 ≤ ((l.length : Int) - 1) * r.normal := Int.mul_nonneg (by omega) (by omega)
  have p4 : ((l.length : Int) - 1) * r.least ≤ 24 * 54 := Int.mul_le_mul (by omega) (by omega) (by omega) (by omega)
  have p5 : ((l.length : Int) - 1) * r.most ≤ 24 * 54 := Int.mul_le_mul (by omega) (by omega) (by omega) (by omega)
  have p6 : ((l.length : Int) - 1) * r.normal ≤ 24 * 54 := Int.mul_le_mul (by omega) (by omega) (by omega) (by omega)
  have hf := inB_iff.1 hf
  have hr' := hr.ext (Ext.alloc w (.cells #[.int .i64 r.least, .int .i64 r.normal, .int .i64 r.most] 59))
  go_enter Try.func116, Try.ntmps116
  go_wp2_with (first | (go_at_call 136; refine (spec_juSum A c _ l lo hi _ rfl (by omega) hr').mono ?_; rintro e w' ⟨rfl, rfl⟩))
  go_ret
  exact ⟨rfl, (by repeat (first | exact Ext.refl _ | assumption | refine Ext.trans ?_ (Ext.alloc _ _) | refine Ext.trans ?_ (Ext.drew _) | refine Ext.trans ?_ (Ext.drewN _ _) | refine Ext.trans ?_ (by assumption)))⟩
theorem juWhy_b0 (A : Option Addr) (c n : Nat) (l : List Int) (r : Rul) (m : Int) (lo hi : Nat) (w : World) (hn : l.length = n) (h1 : 1 ≤ l.length) (h2 : l.length ≤ 24) (hw : ∀ x ∈ l, 1 ≤ x ∧ x ≤ 600) (r1 : 1 ≤ r.least) (r2 : r.least ≤ r.normal) (r3 : r.normal ≤ r.most) (r4 : r.most ≤ 54) (m1 : 1 ≤ m) (m2 : m ≤ 2000) (hf : fits l r m = false) (g0 : l.length ≤ 1) (g1 : m - sumW l < ((l.length : Int) - 1) * r.least) (hr : RdI w lo hi A l) :
    Calls Try.prog 116 #[.slice A n c, .agg #[.int .i64 r.least, .int .i64 r.normal, .int .i64 r.most], .int .i64 m] w fun e w' => (∃ v : Int, v ≠ 0 ∧ e = .returned (.int .i64 v)) ∧ Ext w w' := by
  subst hn
  obtain ⟨s1, s2⟩ := sumW_bound (by omega) hw
  have HW := Lib.hid hw; clear hw
  have p1 : 0 ≤ ((l.length : Int) - 1) * r.least := Int.mul_nonneg (by omega) (by omega)
  have p2 : 0 ≤ ((l.length : Int) - 1) * r.most := Int.mul_nonneg (by omega) (by omega)
  have p3 : 0 ≤ ((l.length : Int) - 1) * r.normal := Int.mul_nonneg (by omega) (by omega)
  have p4 : ((l.length : Int) - 1) * r.least ≤ 24 * 54 := Int.mul_le_mul (by omega) (by omega) (by omega) (by omega)
  have p5 : ((l.length : Int) - 1) * r.most ≤ 24 * 54 := Int.mul_le_mul (by omega) (by omega) (by omega) (by omega)
  have p6 : ((l.length : Int) - 1) * r.normal ≤ 24 * 54 := Int.mul_le_mul (by omega) (by omega) (by omega) (by omega)
  have hnf : ¬ (((l.length : Int) - 1) * r.least ≤ m - sumW l ∧ m - sumW l ≤ ((l.length : Int) - 1) * r.most) := fun h => by rw [fits, inB_iff.2 h] at hf; cases hf
  clear hf p3 p6
  have hr' := hr.ext (Ext.alloc w (.cells #[.int .i64 r.least, .int .i64 r.normal, .int .i64 r.most] 59))
  go_enter Try.func116, Try.ntmps116
  go_wp2_with (first | (go_at_call 136; refine (spec_juSum A c _ l lo hi _ rfl (by omega) hr').mono ?_; rintro e w' ⟨rfl, rfl⟩))
  go_ret
  exact ⟨⟨_, by omega, rfl⟩, (by repeat (first | exact Ext.refl _ | assumption | refine Ext.trans ?_ (Ext.alloc _ _) | refine Ext.trans ?_ (Ext.drew _) | refine Ext.trans ?_ (Ext.drewN _ _) | refine Ext.trans ?_ (by assumption)))⟩
theorem juWhy_b1 (A : Option Addr) (c n : Nat) (l : List Int) (r : Rul) (m : Int) (lo hi : Nat) (w : World) (hn : l.length = n) (h1 : 1 ≤ l.length) (h2 : l.length ≤ 24) (hw : ∀ x ∈ l, 1 ≤ x ∧ x ≤ 600) (r1 : 1 ≤ r.least) (r2 : r.least ≤ r.normal) (r3 : r.normal ≤ r.most) (r4 : r.most ≤ 54) (m1 : 1 ≤ m) (m2 : m ≤ 2000) (hf : fits l r m = false) (g0 : l.length ≤ 1) (g1 : ¬ m - sumW l < ((l.length : Int) - 1) * r.least) (hr : RdI w lo hi A l) :
    Calls Try.prog 116 #[.slice A n c, .agg #[.int .i64 r.least, .int .i64 r.normal, .int .i64 r.most], .int .i64 m] w fun e w' => (∃ v : Int, v ≠ 0 ∧ e = .returned (.int .i64 v)) ∧ Ext w w' := by
  subst hn
  obtain ⟨s1, s2⟩ := sumW_bound (by omega) hw
  have HW := Lib.hid hw; clear hw
  have p1 : 0 ≤ ((l.length : Int) - 1) * r.least := Int.mul_nonneg (by omega) (by omega)
  have p2 : 0 ≤ ((l.length : Int) - 1) * r.most := Int.mul_nonneg (by omega) (by omega)
  have p3 : 0 ≤ ((l.length : Int) - 1) * r.normal := Int.mul_nonneg (by omega) (by omega)
  have p4 : ((l.length : Int) - 1) * r.least ≤ 24 * 54 := Int.mul_le_mul (by omega) (by omega) (by omega) (by omega)
  have p5 : ((l.length : Int) - 1) * r.most ≤ 24 * 54 := Int.mul_le_mul (by omega) (by omega) (by omega) (by omega)
  have p6 : ((l.length : Int) - 1) * r.normal ≤ 24 * 54 := Int.mul_le_mul (by omega) (by omega) (by omega) (by omega)
  have hnf : ¬ (((l.length : Int) - 1) * r.least ≤ m - sumW l ∧ m - sumW l ≤ ((l.length : Int) - 1) * r.most) := fun h => by rw [fits, inB_iff.2 h] at hf; cases hf
  clear hf p3 p6
  have hr' := hr.ext (Ext.alloc w (.cells #[.int .i64 r.least, .int .i64 r.normal, .int .i64 r.most] 59))
  go_enter Try.func116, Try.ntmps116
  go_wp2_with (first | (go_at_call 136; refine (spec_juSum A c _ l lo hi _ rfl (by omega) hr').mono ?_; rintro e w' ⟨rfl, rfl⟩))
  go_ret
  exact ⟨⟨_, by omega, rfl⟩, (by repeat (first | exact Ext.refl _ | assumption | refine Ext.trans ?_ (Ext.alloc _ _) | refine Ext.trans ?_ (Ext.drew _) | refine Ext.trans ?_ (Ext.drewN _ _) | refine Ext.trans ?_ (by assumption)))⟩
theorem juWhy_b2 (A : Option Addr) (c n : Nat) (l : List Int) (r : Rul) (m : Int) (lo hi : Nat) (w : World) (hn : l.length = n) (h1 : 1 ≤ l.length) (h2 : l.length ≤ 24) (hw : ∀ x ∈ l, 1 ≤ x ∧ x ≤ 600) (r1 : 1 ≤ r.least) (r2 : r.least ≤ r.normal) (r3 : r.normal ≤ r.most) (r4 : r.most ≤ 54) (m1 : 1 ≤ m) (m2 : m ≤ 2000) (hf : fits l r m = false) (g0 : ¬ l.length = 1) (g1 : m - sumW l < ((l.length : Int) - 1) * r.least) (hr : RdI w lo hi A l) :
    Calls Try.prog 116 #[.slice A n c, .agg #[.int .i64 r.least, .int .i64 r.normal, .int .i64 r.most], .int .i64 m] w fun e w' => (∃ v : Int, v ≠ 0 ∧ e = .returned (.int .i64 v)) ∧ Ext w w' := by
  subst hn
  obtain ⟨s1, s2⟩ := sumW_bound (by omega) hw
  have HW := Lib.hid hw; clear hw
  have p1 : 0 ≤ ((l.length : Int) - 1) * r.least := Int.mul_nonneg (by omega) (by omega)
  have p2 : 0 ≤ ((l.length : Int) - 1) * r.most := Int.mul_nonneg (by omega) (by omega)
  have p3 : 0 ≤ ((l.length : Int) - 1) * r.normal := Int.mul_nonneg (by omega) (by omega)
  have p4 : ((l.length : Int) - 1) * r.least ≤ 24 * 54 := Int.mul_le_mul (by omega) (by omega) (by omega) (by omega)
  have p5 : ((l.length : Int) - 1) * r.most ≤ 24 * 54 := Int.mul_le_mul (by omega) (by omega) (by omega) (by omega)
  have p6 : ((l.length : Int) - 1) * r.normal ≤ 24 * 54 := Int.mul_le_mul (by omega) (by omega) (by omega) (by omega)
  have hnf : ¬ (((l.length : Int) - 1) * r.least ≤ m - sumW l ∧ m - sumW l ≤ ((l.length : Int) - 1) * r.most) := fun h => by rw [fits, inB_iff.2 h] at hf; cases hf
  clear hf p3 p6
  have hr' := hr.ext (Ext.alloc w (.cells #[.int .i64 r.least, .int .i64 r.normal, .int .i64 r.most] 59))
  go_enter Try.func116, Try.ntmps116
  go_wp2_with (first | (go_at_call 136; refine (spec_juSum A c _ l lo hi _ rfl (by omega) hr').mono ?_; rintro e w' ⟨rfl, rfl⟩))
  go_ret
  exact ⟨⟨_, by omega, rfl⟩, (by repeat (first | exact Ext.refl _ | assumption | refine Ext.trans ?_ (Ext.alloc _ _) | refine Ext.trans ?_ (Ext.drew _) | refine Ext.trans ?_ (Ext.drewN _ _) | refine Ext.trans ?_ (by assumption)))⟩
theorem juWhy_b3 (A : Option Addr) (c n : Nat) (l : List Int) (r : Rul) (m : Int) (lo hi : Nat) (w : World) (hn : l.length = n) (h1 : 1 ≤ l.length) (h2 : l.length ≤ 24) (hw : ∀ x ∈ l, 1 ≤ x ∧ x ≤ 600) (r1 : 1 ≤ r.least) (r2 : r.least ≤ r.normal) (r3 : r.normal ≤ r.most) (r4 : r.most ≤ 54) (m1 : 1 ≤ m) (m2 : m ≤ 2000) (hf : fits l r m = false) (g0 : ¬ l.length = 1) (g1 : ¬ m - sumW l < ((l.length : Int) - 1) * r.least) (hr : RdI w lo hi A l) :
    Calls Try.prog 116 #[.slice A n c, .agg #[.int .i64 r.least, .int .i64 r.normal, .int .i64 r.most], .int .i64 m] w fun e w' => (∃ v : Int, v ≠ 0 ∧ e = .returned (.int .i64 v)) ∧ Ext w w' := by
  subst hn
  obtain ⟨s1, s2⟩ := sumW_bound (by omega) hw
  have HW := Lib.hid hw; clear hw
  have p1 : 0 ≤ ((l.length : Int) - 1) * r.least := Int.mul_nonneg (by omega) (by omega)
  have p2 : 0 ≤ ((l.length : Int) - 1) * r.most := Int.mul_nonneg (by omega) (by omega)
  have p3 : 0 ≤ ((l.length : Int) - 1) * r.normal := Int.mul_nonneg (by omega) (by omega)
  have p4 : ((l.length : Int) - 1) * r.least ≤ 24 * 54 := Int.mul_le_mul (by omega) (by omega) (by omega) (by omega)
  have p5 : ((l.length : Int) - 1) * r.most ≤ 24 * 54 := Int.mul_le_mul (by omega) (by omega) (by omega) (by omega)
  have p6 : ((l.length : Int) - 1) * r.normal ≤ 24 * 54 := Int.mul_le_mul (by omega) (by omega) (by omega) (by omega)
  have hnf : ¬ (((l.length : Int) - 1) * r.least ≤ m - sumW l ∧ m - sumW l ≤ ((l.length : Int) - 1) * r.most) := fun h => by rw [fits, inB_iff.2 h] at hf; cases hf
  clear hf p3 p6
  have hr' := hr.ext (Ext.alloc w (.cells #[.int .i64 r.least, .int .i64 r.normal, .int .i64 r.most] 59))
  go_enter Try.func116, Try.ntmps116
  go_wp2_with (first | (go_at_call 136; refine (spec_juSum A c _ l lo hi _ rfl (by omega) hr').mono ?_; rintro e w' ⟨rfl, rfl⟩))
  go_ret
  exact ⟨⟨_, by omega, rfl⟩, (by repeat (first | exact Ext.refl _ | assumption | refine Ext.trans ?_ (Ext.alloc _ _) | refine Ext.trans ?_ (Ext.drew _) | refine Ext.trans ?_ (Ext.drewN _ _) | refine Ext.trans ?_ (by assumption)))⟩
theorem juWhy_bad (A : Option Addr) (c n : Nat) (l : List Int) (r : Rul) (m : Int) (lo hi : Nat) (w : World) (hn : l.length = n) (h1 : 1 ≤ l.length) (h2 : l.length ≤ 24) (hw : ∀ x ∈ l, 1 ≤ x ∧ x ≤ 600) (r1 : 1 ≤ r.least) (r2 : r.least ≤ r.normal) (r3 : r.normal ≤ r.most) (r4 : r.most ≤ 54) (m1 : 1 ≤ m) (m2 : m ≤ 2000) (hf : fits l r m = false) (hr : RdI w lo hi A l) :
    Calls Try.prog 116 #[.slice A n c, .agg #[.int .i64 r.least, .int .i64 r.normal, .int .i64 r.most], .int .i64 m] w fun e w' => (∃ v : Int, v ≠ 0 ∧ e = .returned (.int .i64 v)) ∧ Ext w w' := by
  by_cases g0 : l.length = 1
  · by_cases g1 : m - sumW l < ((l.length : Int) - 1) * r.least
    · exact juWhy_b0 A c n l r m lo hi w hn h1 h2 hw r1 r2 r3 r4 m1 m2 hf (by omega) g1 hr
    · exact juWhy_b1 A c n l r m lo hi w hn h1 h2 hw r1 r2 r3 r4 m1 m2 hf (by omega) g1 hr
  · by_cases g1 : m - sumW l < ((l.length : Int) - 1) * r.least
    · exact juWhy_b2 A c n l r m lo hi w hn h1 h2 hw r1 r2 r3 r4 m1 m2 hf g0 g1 hr
    · exact juWhy_b3 A c n l r m lo hi w hn h1 h2 hw r1 r2 r3 r4 m1 m2 hf g0 g1 hr
def lnOk (l : List Int) : Bool := (l.all fun x => inB x 1 600) && inB l.length 1 20
theorem lnOk_parts {l : List Int} (h : lnOk l = true) : (∀ x ∈ l, 1 ≤ x ∧ x ≤ 600) ∧ 1 ≤ l.length ∧ l.length ≤ 20 := by
  simp only [lnOk, Bool.and_eq_true, List.all_eq_true] at h
  have := inB_iff.1 h.2
  exact ⟨fun x hx => inB_iff.1 (h.1 x hx), by omega, by omega⟩
def jlB (l : List Int) (r : Rul) (m : Int) : Bool := (lnOk l && ruleOk r) && inB m 1 2000
def jlP (l : List Int) (r : Rul) (m : Int) : List Int × Bool := if jlB l r m then jsP l r m else ([], false)
theorem jlP_bad {l : List Int} {r : Rul} {m : Int} (h : jlB l r m = false) : jlP l r m = ([], false) := by simp [jlP, h]
theorem jlP_good {l : List Int} {r : Rul} {m : Int} (h : jlB l r m = true) : jlP l r m = jsP l r m := by simp [jlP, h]
theorem jlB_parts {l : List Int} {r : Rul} {m : Int} (h : jlB l r m = true) : ((∀ x ∈ l, 1 ≤ x ∧ x ≤ 600) ∧ 1 ≤ l.length ∧ l.length ≤ 20) ∧ (1 ≤ r.least ∧ r.least ≤ r.normal ∧ r.normal ≤ r.most ∧ r.most ≤ 54) ∧ 1 ≤ m ∧ m ≤ 2000 := by
  simp only [jlB, Bool.and_eq_true] at h
  exact ⟨lnOk_parts h.1.1, ruleOk_iff.1 h.1.2, inB_iff.1 h.2⟩
theorem jlP_len (l : List Int) (r : Rul) (m : Int) : (jlP l r m).1.length ≤ 4000000 := by
  cases h : jlB l r m
  · rw [jlP_bad h]; simp
  · rw [jlP_good h]
    obtain ⟨⟨_, _, h2⟩, _⟩ := jlB_parts h
    cases h' : fits l r m
    · rw [jsP_bad h']; simp
    · rw [jsP_good h']
      show (spc l m).length ≤ _
      rw [spc, leadL_len]; omega
theorem impl_isLine (A : Option Addr) (c n : Nat) (l : List Int) (lo hi : Nat) (w : World) (hn : l.length = n) (hl : n ≤ 4000000) (hr : RdI w lo hi A l) :
    Calls Try.prog 137 #[.slice A n c] w fun e w' => e = .returned (.bool (lnOk l)) ∧ w = w' := by
  subst hn
  go_enter Try.func137, Try.ntmps137
  go_wp2
  go_loop [7] (fun i => ∃ k : Nat, k ≤ l.length ∧ i = .int .i64 k ∧ (l.take k).all (fun x => inB x 1 600) = true) (fun i => l.length - (intOf i).toNat)
  case atStart => exact ⟨0, Nat.zero_le _, rfl, rfl⟩
  case round =>
    obtain ⟨k, hk, rfl, ha⟩ := hrel
    have HA := Lib.hid ha; clear ha
    by_cases hlt : k < l.length
    · obtain ⟨x, b, off, HX, rfl, _, _, h3, c0, _⟩ := RdI.get hr hlt
      cases t1 : inB x 1 600
      · go_wp2_with (go_at_call 85; refine (within_any _ _ _ _).mono ?_; rintro e w' ⟨rfl, rfl⟩)
        go_ret
        exact ⟨ret_bool (by rw [lnOk, all_no HX.out t1]; rfl), rfl⟩
      · go_wp2_with (go_at_call 85; refine (within_any _ _ _ _).mono ?_; rintro e w' ⟨rfl, rfl⟩)
        go_round
        case rel => exact ⟨k + 1, by omega, by go_num, by rw [all_take _ HX.out, HA.out, t1]; rfl⟩
        case measure => simp [intOf]; omega
    · have hkl : k = l.length := by omega
      subst hkl
      clear hlt
      have HV : Hid (lnOk l = inB l.length 1 20) := by
        show _ = _
        have h := HA.out
        rw [List.take_of_length_le (Nat.le_refl _)] at h
        rw [lnOk, h]; rfl
      go_wp2_with (go_at_call 85; refine (within_any _ _ _ _).mono ?_; rintro e w' ⟨rfl, rfl⟩)
      go_ret
      exact ⟨ret_bool HV.out.symm, rfl⟩
theorem l1All_w (A : Option Addr) (c n : Nat) (l : List Int) (lo hi : Nat) (w : World) (hn : l.length = n) (hl : n ≤ 4000000) (hr : RdI w lo hi A l) :
    Calls Try.prog 83 #[.slice A n c, .int .i64 1, .int .i64 600] w fun e w' => e = .returned (.bool (l.all fun x => inB x 1 600)) ∧ w = w' := by
  subst hn
  go_enter Try.func83, Try.ntmps83
  go_wp2
  go_loop [11] (fun i => ∃ k : Nat, k ≤ l.length ∧ i = .int .i64 k ∧ (l.take k).all (fun x => inB x 1 600) = true) (fun i => l.length - (intOf i).toNat)
  case atStart => exact ⟨0, Nat.zero_le _, rfl, rfl⟩
  case round =>
    obtain ⟨k, hk, rfl, ha⟩ := hrel
    have HA := Lib.hid ha; clear ha
    by_cases hlt : k < l.length
    · obtain ⟨x, b, off, HX, rfl, _, _, h3, c0, _⟩ := RdI.get hr hlt
      cases t1 : inB x 1 600
      · go_wp2_with (go_at_call 81; refine (l1In_any _ _ _ _).mono ?_; rintro e w' ⟨rfl, rfl⟩)
        go_ret
        exact ⟨ret_bool (by rw [all_no HX.out t1]), rfl⟩
      · go_wp2_with (go_at_call 81; refine (l1In_any _ _ _ _).mono ?_; rintro e w' ⟨rfl, rfl⟩)
        go_round
        case rel => exact ⟨k + 1, by omega, by go_num, by rw [all_take _ HX.out, HA.out, t1]; rfl⟩
        case measure => simp [intOf]; omega
    · have hkl : k = l.length := by omega
      subst hkl
      clear hlt
      go_wp2
      go_ret
      exact ⟨ret_bool (by have := HA.out; rw [List.take_of_length_le (Nat.le_refl _)] at this; rw [this]), rfl⟩
theorem spec_juLine (A : Option Addr) (c n : Nat) (l : List Int) (lo hi : Nat) (w : World) (hn : l.length = n) (hl : n ≤ 4000000) (hr : RdI w lo hi A l) :
    Calls Try.prog 133 #[.slice A n c] w fun e w' => e = .returned (.bool (lnOk l)) ∧ w = w' := by
  subst hn
  cases t1 : inB l.length 1 20
  · rw [show lnOk l = false by rw [lnOk, t1]; simp]
    go_enter Try.func133, Try.ntmps133
    go_wp2_with (go_at_call 81; refine (l1In_any _ _ _ _).mono ?_; rintro e w' ⟨rfl, rfl⟩)
    go_ret
    exact ⟨rfl, rfl⟩
  · rw [show lnOk l = l.all (fun x => inB x 1 600) by rw [lnOk, t1]; simp]
    go_enter Try.func133, Try.ntmps133
    go_wp2_with (first | (go_at_call 81; refine (l1In_any _ _ _ _).mono ?_; rintro e w' ⟨rfl, rfl⟩) | (go_at_call 83; refine (l1All_w A c _ l lo hi _ rfl hl hr).mono ?_; rintro e w' ⟨rfl, rfl⟩))
    go_ret
    exact ⟨rfl, rfl⟩
theorem impl_isSetLine (A : Option Addr) (c n : Nat) (l : List Int) (r : Rul) (m : Int) (lo hi : Nat) (w : World) (hn : l.length = n) (hl : n ≤ 4000000) (hr0 : RdI w lo hi A l) :
    Calls Try.prog 119 #[.slice A n c, .agg #[.int .i64 r.least, .int .i64 r.normal, .int .i64 r.most], .int .i64 m] w fun e w' => e = .returned (.bool (jlB l r m)) ∧ Ext w w' := by
  subst hn
  have hr := hr0.ext (Ext.alloc w (.cells #[.int .i64 r.least, .int .i64 r.normal, .int .i64 r.most] 59))
  cases t1 : lnOk l
  · rw [show jlB l r m = false by simp [jlB, t1]]
    go_enter Try.func119, Try.ntmps119
    go_wp2_with (first | (go_at_call 137; refine (impl_isLine A c _ l lo hi _ rfl hl hr).mono ?_; rintro e w' ⟨rfl, rfl⟩) | (go_at_call 138; refine (impl_IsRule r _).mono ?_; rintro e w1 ⟨rfl, hE1⟩; obtain ⟨hc1, hf1⟩ := bcell hE1; have hs1 := hE1.size; (try simp only [World.size_alloc] at hs1)) | (go_at_call 139; refine (isMeasure_any _ _).mono ?_; rintro e w' ⟨rfl, rfl⟩))
    go_ret
    exact ⟨rfl, (by repeat (first | exact Ext.refl _ | assumption | refine Ext.trans ?_ (Ext.alloc _ _) | refine Ext.trans ?_ (Ext.drew _) | refine Ext.trans ?_ (Ext.drewN _ _) | refine Ext.trans ?_ (by assumption)))⟩
  cases t2 : ruleOk r
  · rw [show jlB l r m = false by simp [jlB, t1, t2]]
    go_enter Try.func119, Try.ntmps119
    go_wp2_with (first | (go_at_call 137; refine (impl_isLine A c _ l lo hi _ rfl hl hr).mono ?_; rintro e w' ⟨rfl, rfl⟩) | (go_at_call 138; refine (impl_IsRule r _).mono ?_; rintro e w1 ⟨rfl, hE1⟩; obtain ⟨hc1, hf1⟩ := bcell hE1; have hs1 := hE1.size; (try simp only [World.size_alloc] at hs1)) | (go_at_call 139; refine (isMeasure_any _ _).mono ?_; rintro e w' ⟨rfl, rfl⟩))
    go_ret
    exact ⟨rfl, (by repeat (first | exact Ext.refl _ | assumption | refine Ext.trans ?_ (Ext.alloc _ _) | refine Ext.trans ?_ (Ext.drew _) | refine Ext.trans ?_ (Ext.drewN _ _) | refine Ext.trans ?_ (by assumption)))⟩
  · rw [show jlB l r m = inB m 1 2000 by simp [jlB, t1, t2]]
    go_enter Try.func119, Try.ntmps119
    go_wp2_with (first | (go_at_call 137; refine (impl_isLine A c _ l lo hi _ rfl hl hr).mono ?_; rintro e w' ⟨rfl, rfl⟩) | (go_at_call 138; refine (impl_IsRule r _).mono ?_; rintro e w1 ⟨rfl, hE1⟩; obtain ⟨hc1, hf1⟩ := bcell hE1; have hs1 := hE1.size; (try simp only [World.size_alloc] at hs1)) | (go_at_call 139; refine (isMeasure_any _ _).mono ?_; rintro e w' ⟨rfl, rfl⟩))
    go_ret
    exact ⟨rfl, (by repeat (first | exact Ext.refl _ | assumption | refine Ext.trans ?_ (Ext.alloc _ _) | refine Ext.trans ?_ (Ext.drew _) | refine Ext.trans ?_ (Ext.drewN _ _) | refine Ext.trans ?_ (by assumption)))⟩
theorem spec_juAsked (A : Option Addr) (c n : Nat) (l : List Int) (r : Rul) (m : Int) (lo hi : Nat) (w : World) (hn : l.length = n) (hl : n ≤ 4000000) (hr0 : RdI w lo hi A l) :
    Calls Try.prog 115 #[.slice A n c, .agg #[.int .i64 r.least, .int .i64 r.normal, .int .i64 r.most], .int .i64 m] w fun e w' => e = .returned (.bool (jlB l r m)) ∧ Ext w w' := by
  subst hn
  have hr := hr0.ext (Ext.alloc w (.cells #[.int .i64 r.least, .int .i64 r.normal, .int .i64 r.most] 59))
  cases t1 : lnOk l
  · rw [show jlB l r m = false by simp [jlB, t1]]
    go_enter Try.func115, Try.ntmps115
    go_wp2_with (first | (go_at_call 133; refine (spec_juLine A c _ l lo hi _ rfl hl hr).mono ?_; rintro e w' ⟨rfl, rfl⟩) | (go_at_call 134; refine (spec_juRule r _).mono ?_; rintro e w1 ⟨rfl, hE1⟩; obtain ⟨hc1, hf1⟩ := bcell hE1; have hs1 := hE1.size; (try simp only [World.size_alloc] at hs1)) | (go_at_call 135; refine (juMeasure_any _ _).mono ?_; rintro e w' ⟨rfl, rfl⟩))
    go_ret
    exact ⟨rfl, (by repeat (first | exact Ext.refl _ | assumption | refine Ext.trans ?_ (Ext.alloc _ _) | refine Ext.trans ?_ (Ext.drew _) | refine Ext.trans ?_ (Ext.drewN _ _) | refine Ext.trans ?_ (by assumption)))⟩
  cases t2 : ruleOk r
  · rw [show jlB l r m = false by simp [jlB, t1, t2]]
    go_enter Try.func115, Try.ntmps115
    go_wp2_with (first | (go_at_call 133; refine (spec_juLine A c _ l lo hi _ rfl hl hr).mono ?_; rintro e w' ⟨rfl, rfl⟩) | (go_at_call 134; refine (spec_juRule r _).mono ?_; rintro e w1 ⟨rfl, hE1⟩; obtain ⟨hc1, hf1⟩ := bcell hE1; have hs1 := hE1.size; (try simp only [World.size_alloc] at hs1)) | (go_at_call 135; refine (juMeasure_any _ _).mono ?_; rintro e w' ⟨rfl, rfl⟩))
    go_ret
    exact ⟨rfl, (by repeat (first | exact Ext.refl _ | assumption | refine Ext.trans ?_ (Ext.alloc _ _) | refine Ext.trans ?_ (Ext.drew _) | refine Ext.trans ?_ (Ext.drewN _ _) | refine Ext.trans ?_ (by assumption)))⟩
  · rw [show jlB l r m = inB m 1 2000 by simp [jlB, t1, t2]]
    go_enter Try.func115, Try.ntmps115
    go_wp2_with (first | (go_at_call 133; refine (spec_juLine A c _ l lo hi _ rfl hl hr).mono ?_; rintro e w' ⟨rfl, rfl⟩) | (go_at_call 134; refine (spec_juRule r _).mono ?_; rintro e w1 ⟨rfl, hE1⟩; obtain ⟨hc1, hf1⟩ := bcell hE1; have hs1 := hE1.size; (try simp only [World.size_alloc] at hs1)) | (go_at_call 135; refine (juMeasure_any _ _).mono ?_; rintro e w' ⟨rfl, rfl⟩))
    go_ret
    exact ⟨rfl, (by repeat (first | exact Ext.refl _ | assumption | refine Ext.trans ?_ (Ext.alloc _ _) | refine Ext.trans ?_ (Ext.drew _) | refine Ext.trans ?_ (Ext.drewN _ _) | refine Ext.trans ?_ (by assumption)))⟩
theorem impl_JustifyLine (A : Option Addr) (c n : Nat) (l : List Int) (r : Rul) (m : Int) (lo hi : Nat) (w : World) (hn : l.length = n) (hl : n ≤ 4000000) (hr0 : RdI w lo hi A l) :
    Calls Try.prog 91 #[.slice A n c, .agg #[.int .i64 r.least, .int .i64 r.normal, .int .i64 r.most], .int .i64 m] w (RetI2 w (jlP l r m)) := by
  have hr := hr0.ext (Ext.alloc w (.cells #[.int .i64 r.least, .int .i64 r.normal, .int .i64 r.most] 59))
  cases h : jlB l r m
  · rw [jlP_bad h]
    go_enter Try.func91, Try.ntmps91
    go_wp2_with (go_at_call 119; refine (impl_isSetLine A c _ l r m lo hi _ hn hl hr).mono ?_; rintro e w1 ⟨rfl, hE1⟩; obtain ⟨hc1, hf1⟩ := bcell hE1; have hs1 := hE1.size; (try simp only [World.size_alloc] at hs1))
    go_ret2
    exact retI2_lit (by repeat (first | exact Ext.refl _ | assumption | refine Ext.trans ?_ (Ext.alloc _ _) | refine Ext.trans ?_ (Ext.drew _) | refine Ext.trans ?_ (Ext.drewN _ _) | refine Ext.trans ?_ (by assumption)))
  · rw [jlP_good h]
    obtain ⟨⟨hw, g1, g2⟩, ⟨r1, r2, r3, r4⟩, m1, m2⟩ := jlB_parts h
    have HW := Lib.hid hw; clear hw
    go_enter Try.func91, Try.ntmps91
    go_wp2_with (go_at_call 119; refine (impl_isSetLine A c _ l r m lo hi _ hn hl hr).mono ?_; rintro e w1 ⟨rfl, hE1⟩; obtain ⟨hc1, hf1⟩ := bcell hE1; have hs1 := hE1.size; (try simp only [World.size_alloc] at hs1))
    have hz := hs1
    refine (impl_justify A c n l r m lo hi _ hn g1 (by omega) HW.out r1 r2 r3 r4 m1 m2 (hr.ext hE1)).mono ?_
    rintro e w5 ⟨A5, c5, rfl, hc5, hR5, hE5⟩
    go_wp2_with fail
    go_ret2
    exact ⟨A5, c5, rfl, hc5, hR5.wide (by omega) (Nat.le_refl _) (Nat.le_refl _), ((Ext.alloc _ _).trans hE1).trans hE5⟩
theorem spec_JustifyLine (A : Option Addr) (c n : Nat) (l : List Int) (r : Rul) (m : Int) (lo hi : Nat) (w : World) (hn : l.length = n) (hl : n ≤ 4000000) (hr0 : RdI w lo hi A l) :
    Calls Try.prog 89 #[.slice A n c, .agg #[.int .i64 r.least, .int .i64 r.normal, .int .i64 r.most], .int .i64 m] w (RetI2 w (jlP l r m)) := by
  have hr := hr0.ext (Ext.alloc w (.cells #[.int .i64 r.least, .int .i64 r.normal, .int .i64 r.most] 59))
  cases h : jlB l r m
  · rw [jlP_bad h]
    go_enter Try.func89, Try.ntmps89
    go_wp2_with (go_at_call 115; refine (spec_juAsked A c _ l r m lo hi _ hn hl hr).mono ?_; rintro e w1 ⟨rfl, hE1⟩; obtain ⟨hc1, hf1⟩ := bcell hE1; have hs1 := hE1.size; (try simp only [World.size_alloc] at hs1))
    go_ret2
    exact retI2_lit (by repeat (first | exact Ext.refl _ | assumption | refine Ext.trans ?_ (Ext.alloc _ _) | refine Ext.trans ?_ (Ext.drew _) | refine Ext.trans ?_ (Ext.drewN _ _) | refine Ext.trans ?_ (by assumption)))
  · rw [jlP_good h]
    obtain ⟨⟨hw, g1, g2⟩, ⟨r1, r2, r3, r4⟩, m1, m2⟩ := jlB_parts h
    have HW := Lib.hid hw; clear hw
    cases h2 : fits l r m
    · rw [jsP_bad h2]
      go_enter Try.func89, Try.ntmps89
      go_wp2_with (go_at_call 115; refine (spec_juAsked A c _ l r m lo hi _ hn hl hr).mono ?_; rintro e w1 ⟨rfl, hE1⟩; obtain ⟨hc1, hf1⟩ := bcell hE1; have hs1 := hE1.size; (try simp only [World.size_alloc] at hs1))
      refine (juWhy_bad A c n l r m lo hi _ hn g1 (by omega) HW.out r1 r2 r3 r4 m1 m2 h2 (hr.ext hE1)).mono ?_
      rintro e w5 ⟨⟨v, hv, rfl⟩, hE5⟩
      have t5 : (v != 0) = true := by simpa using hv
      go_wp2_with fail
      go_ret2
      exact retI2_lit (by repeat (first | exact Ext.refl _ | assumption | refine Ext.trans ?_ (Ext.alloc _ _) | refine Ext.trans ?_ (Ext.drew _) | refine Ext.trans ?_ (Ext.drewN _ _) | refine Ext.trans ?_ (by assumption)))
    · rw [jsP_good h2]
      go_enter Try.func89, Try.ntmps89
      go_wp2_with (go_at_call 115; refine (spec_juAsked A c _ l r m lo hi _ hn hl hr).mono ?_; rintro e w1 ⟨rfl, hE1⟩; obtain ⟨hc1, hf1⟩ := bcell hE1; have hs1 := hE1.size; (try simp only [World.size_alloc] at hs1))
      refine (juWhy_good A c n l r m lo hi _ hn g1 (by omega) HW.out r1 r2 r3 r4 m1 m2 h2 (hr.ext hE1)).mono ?_
      rintro e w5 ⟨rfl, hE5⟩
      go_wp2_with fail
      refine (spec_juSpaces A c n l r m lo hi _ hn g1 (by omega) HW.out r1 r2 r3 r4 m1 m2 h2 ((hr.ext hE1).ext hE5)).mono ?_
      rintro e w6 ⟨A6, c6, rfl, hc6, hR6, hE6⟩
      have hz5 := hE5.size
      go_wp2_with fail
      go_ret2
      exact ⟨A6, c6, rfl, hc6, Rd.wide hR6 (by omega) (Nat.le_refl _) (Nat.le_refl _), (((Ext.alloc _ _).trans hE1).trans hE5).trans hE6⟩
end Go.Proofs.Ytnkkpphjahpadaa
