/- A number below a hundred as text: the reference's walk; the library's is laid. -/
import Derived.Test.YtclcclhdmciggaaDoorProg
import Derived.Test.YtclcclhdmciggaaDoorShelf
import Derived.Test.YtclcclhdmciggaaDoorMem
import Derived.Test.YtclcclhdmciggaaDoorXw
import Derived.Deep.RegionWith
import Derived.Laws.IdiomStrings
import Derived.Lib.ItoaNum
namespace Go.Proofs.YtclcclhdmciggaaDoor
open Go.RowKit
set_option linter.unusedVariables false
/-- n's digits. -/
def numS (n : Nat) : ByteArray := ⟨(Lib.decDigits n).toArray⟩
theorem dig_u8 {n : Nat} (h : n < 10) : IntKind.u8.wrap (48 + (n : Int)) = ((UInt8.ofNat (48 + n)).toNat : Int) := by
  have h1 : (UInt8.ofNat (48 + n)).toNat = 48 + n := by rw [UInt8.toNat_ofNat']; omega
  rw [h1]
  have : ∀ m : Fin 10, IntKind.u8.wrap (48 + (m.val : Int)) = ((48 + m.val : Nat) : Int) := by decide
  exact this ⟨n, h⟩
/-- 'string([]byte{b})'. -/
theorem str_one (b : UInt8) (W : World) (X : Nat) (h : W.cell? ⟨X, 0, none⟩ = some (.int .u8 (b.toNat : Int))) :
    (convert 36 9 (.slice (some ⟨X, 0, none⟩) 1 1)).run Tryd.prog W = .ok (.string ⟨#[b]⟩) W :=
  run_convert_bytes_back W 36 9 5 ⟨X, 0, none⟩ 1 [b] Tryd.underlying36 Tryd.underlying5 Tryd.underlying9 (fun j hj => by
    have : j = 0 := by simpa using hj
    subst this
    exact h)
theorem spec_l1Num1 (n : Nat) (w : World) (hn : n < 10) : Calls Tryd.prog 14 #[.int .i64 (n : Int)] w fun e w' => e = .returned (.string (numS n)) ∧ Ext w w' := by
  have hv : numS n = ⟨#[UInt8.ofNat (48 + n)]⟩ := by rw [numS, Lib.decDigits_one hn]
  rw [hv]
  have k1 := dig_u8 hn
  have k2 : IntKind.i64.wrap (48 + (n : Int)) = 48 + (n : Int) := IntWalk.i64_in _ (by omega)
  obtain ⟨b, hb⟩ : ∃ b, b = UInt8.ofNat (48 + n) := ⟨_, rfl⟩
  rw [← hb] at k1 ⊢
  have hcv := str_one b
  have g1 : (n : Int) < 10 := by omega
  clear hb hv
  go_enter Tryd.func14, Tryd.ntmps14
  go_wp2_with fail
  go_ret
  exact ⟨rfl, (by repeat (first | exact Ext.refl _ | assumption | refine Ext.trans ?_ (Ext.alloc _ _) | refine Ext.trans ?_ (Ext.drew _) | refine Ext.trans ?_ (Ext.drewN _ _) | refine Ext.trans ?_ (by assumption)))⟩
theorem numS_size {n : Nat} (h : n < 100) : (numS n).size ≤ 2 := by
  by_cases h10 : n < 10
  · rw [numS, Lib.decDigits_one h10]; exact Nat.le_succ 1
  · rw [numS, Lib.decDigits_two h10 h]; exact Nat.le_refl 2
theorem spec_l1Num_any (n : Nat) (w : World) (hn : n < 100) : Calls Tryd.prog 14 #[.int .i64 (n : Int)] w fun e w' => e = .returned (.string (numS n)) ∧ Ext w w' := by
  by_cases h10 : n < 10
  · exact spec_l1Num1 n w h10
  have hv : numS n = numS (n / 10) ++ ⟨#[UInt8.ofNat (48 + n % 10)]⟩ := by
    rw [numS, numS, Lib.decDigits_two h10 hn, Lib.decDigits_one (show n / 10 < 10 by omega)]; rfl
  rw [hv]
  have k1 := dig_u8 (show n % 10 < 10 by omega)
  have e1 : ((n : Int) / 10) = ((n / 10 : Nat) : Int) := by omega
  have e2 : Int.tdiv (n : Int) 10 = ((n / 10 : Nat) : Int) := by rw [Int.tdiv_eq_ediv_of_nonneg (by omega)]; omega
  have e3 : Int.tmod (n : Int) 10 = ((n % 10 : Nat) : Int) := by rw [Int.tmod_eq_emod_of_nonneg (by omega)]; omega
  have k2 : IntKind.i64.wrap (48 + ((n % 10 : Nat) : Int)) = 48 + ((n % 10 : Nat) : Int) := IntWalk.i64_in _ (by omega)
  obtain ⟨q, hq⟩ : ∃ q, q = n / 10 := ⟨_, rfl⟩
  obtain ⟨r, hr⟩ : ∃ r, r = n % 10 := ⟨_, rfl⟩
  have hq10 : q < 10 := by omega
  have hr10 : r < 10 := by omega
  rw [← hq] at e1 e2 ⊢
  rw [← hr] at e3 k1 k2 ⊢
  obtain ⟨b, hb⟩ : ∃ b, b = UInt8.ofNat (48 + r) := ⟨_, rfl⟩
  rw [← hb] at k1 ⊢
  have hcv := str_one b
  have g1 : ¬ (n : Int) < 10 := by omega
  have k3 : IntKind.i64.wrap (q : Int) = (q : Int) := IntWalk.i64_in _ (by omega)
  have hz := numS_size (n := q) (by omega)
  have hz1 : ¬ 9223372036854775807 < (numS q).size + 1 := by omega
  clear hb hv hq hr
  go_enter Tryd.func14, Tryd.ntmps14
  go_wp2_with fail
  go_region_with (first | (go_at_call 14; refine (spec_l1Num1 q _ hq10).mono ?_; rintro e w2 ⟨rfl, hE2⟩; have hcx : w2.cell? ⟨w.heap.size, 0, none⟩ = some (.int .u8 (b.toNat : Int)) := box_new ((Ext.drew _).trans hE2) (j := 0) rfl) | (go_at_call 14; refine (spec_l1Num1 q _ hq10).mono ?_; rintro e w2 ⟨rfl, hE2⟩))
  all_goals
    go_wp2_with fail
    go_ret
    exact ⟨rfl, (by repeat (first | exact Ext.refl _ | assumption | refine Ext.trans ?_ (Ext.alloc _ _) | refine Ext.trans ?_ (Ext.drew _) | refine Ext.trans ?_ (Ext.drewN _ _) | refine Ext.trans ?_ (by assumption)))⟩
end Go.Proofs.YtclcclhdmciggaaDoor
