/- The walks of isLive and clash: the program's and the reference's. -/
import Derived.Test.YtclcclhdmciggaaMkB
import Derived.Test.YtclcclhdmciggaaMcP
namespace Go.Proofs.Ytclcclhdmciggaa
open Go.RowKit
set_option linter.unusedVariables false
theorem live_bad {ms : List Mrk} {i k : Nat} {m x : Mrk} (hm : ms[i]? = some m) (hx : ms[i + 1 + k]? = some x) (h : stetAt m x = true) : liveB ms i = false := by
  have : (ms.drop (i + 1)).any (stetAt m) = true := by
    rw [List.any_eq_true]
    exact ⟨x, List.mem_iff_getElem?.2 ⟨k, by rw [List.getElem?_drop]; exact hx⟩, h⟩
  rw [liveB_of hm, this]; rfl
def noStet (ms : List Mrk) (m : Mrk) (i k : Nat) : Bool := !(((ms.drop (i + 1)).take k).any (stetAt m))
theorem noStet_succ {ms : List Mrk} {i k : Nat} {m x : Mrk} (hx : ms[i + 1 + k]? = some x) : noStet ms m i (k + 1) = (noStet ms m i k && !stetAt m x) := by
  rw [noStet, take_snoc (x := x) (by rw [List.getElem?_drop]; exact hx)]
  simp [noStet, Bool.not_or]
theorem live_end {ms : List Mrk} {i : Nat} {m : Mrk} (hm : ms[i]? = some m) (h : noStet ms m i (ms.length - (i + 1)) = true) : liveB ms i = !decide (m.kind = 4) := by
  rw [liveB_of hm]
  rw [noStet, List.take_of_length_le (by simp)] at h
  rw [h]; rfl
theorem impl_isLive (B : Option Addr) (d : Nat) (ms : List Mrk) (i lo hi : Nat) (w : World) (hl : ms.length ≤ 1048577) (hcap : ms.length ≤ d) (hil : i < ms.length) (hr : RdM w lo hi B ms) :
    Calls Try.prog 51 #[.slice B ms.length d, .int .i64 i] w fun e w' => e = .returned (.bool (liveB ms i)) ∧ Ext w w' := by
  obtain ⟨m, b, off, HM, rfl, h3, c0, c1, c2, c3⟩ := RdM.get hr hil
  by_cases hci : d = i + 1
  · have hv : liveB ms i = !decide (m.kind = 4) := live_end HM.out (by rw [show ms.length - (i + 1) = 0 by omega]; rfl)
    have HV := Lib.hid hv; clear hv
    subst hci
    go_enter Try.func51, Try.ntmps51
    go_wp2
    go_loopw [17] (fun i wr => i = .int .i64 0 ∧ wr.cell? ⟨w.heap.size, 2, none⟩ = some (.int .i64 m.kind) ∧ Ext w wr) (fun i _ => 0)
    case atStart => exact ⟨rfl, box_new (Ext.refl _) rfl, (by repeat (first | exact Ext.refl _ | assumption | refine Ext.trans ?_ (Ext.alloc _ _) | refine Ext.trans ?_ (Ext.drew _) | refine Ext.trans ?_ (Ext.drewN _ _) | refine Ext.trans ?_ (by assumption)))⟩
    case round =>
      obtain ⟨rfl, x2, hE⟩ := hrel
      go_wp2
      go_ret
      exact ⟨ret_bool (by rw [HV.out]; by_cases q : m.kind = 4 <;> simp [q]), (by repeat (first | exact Ext.refl _ | assumption | refine Ext.trans ?_ (Ext.alloc _ _) | refine Ext.trans ?_ (Ext.drew _) | refine Ext.trans ?_ (Ext.drewN _ _) | refine Ext.trans ?_ (by assumption)))⟩
  · have hcd : i + 1 < d := by omega
    have hbad : ∀ (k : Nat) (x : Mrk), ms[i + 1 + k]? = some x → stetAt m x = true → liveB ms i = false := fun k x hx h => live_bad HM.out hx h
    have BAD := Lib.hid hbad; clear hbad hci
    go_enter Try.func51, Try.ntmps51
    go_wp2
    go_loopw [17] (fun j wr => ∃ k : Nat, k ≤ ms.length - (i + 1) ∧ j = .int .i64 k ∧ noStet ms m i k = true ∧ wr.cell? ⟨w.heap.size, 0, none⟩ = some (.int .i64 m.line) ∧ wr.cell? ⟨w.heap.size, 1, none⟩ = some (.int .i64 m.place) ∧ wr.cell? ⟨w.heap.size, 2, none⟩ = some (.int .i64 m.kind) ∧ Ext (w.alloc (.cells #[.int .i64 m.line, .int .i64 m.place, .int .i64 m.kind, .string m.text] 34)) wr) (fun j _ => ms.length - (i + 1) - (intOf j).toNat)
    case atStart => exact ⟨0, Nat.zero_le _, rfl, rfl, box_new (Ext.refl _) rfl, box_new (Ext.refl _) rfl, box_new (Ext.refl _) rfl, Ext.refl _⟩
    case round =>
      obtain ⟨k, hk, rfl, hn, x0, x1, x2, hE'⟩ := hrel
      have hE : Ext w wr := (Ext.alloc _ _).trans hE'
      have hsz : w.heap.size < wr.heap.size := by have := hE'.size; simp at this; omega
      have HN := Lib.hid hn; clear hn
      by_cases hlt : k < ms.length - (i + 1)
      · obtain ⟨x, b', off', HX, eA, _, d0, d1, d2, d3⟩ := RdM.get (hr.ext hE) (k := i + 1 + k) (by omega)
        injection eA with eA; injection eA with eb eo _; subst eb; subst eo
        have hb := BAD.out k x HX.out
        have BD := Lib.hid hb; clear hb
        have hs := noStet_succ (m := m) HX.out
        have HS := Lib.hid hs; clear hs HX
        rw [show off + (i + 1 + k) * 4 = off + (i + 1) * 4 + k * 4 by omega] at d0 d1 d2 d3
        obtain ⟨xl, xp, xk, xt⟩ := x
        simp only at d0 d1 d2 d3
        by_cases t1 : xk = 4
        · subst t1
          by_cases t2 : xl = m.line
          · subst t2
            by_cases t3 : xp = m.place
            · subst t3
              go_wp2
              go_ret
              exact ⟨ret_bool (BD.out (by simp [stetAt])).symm, (by repeat (first | exact Ext.refl _ | assumption | refine Ext.trans ?_ (Ext.alloc _ _) | refine Ext.trans ?_ (Ext.drew _) | refine Ext.trans ?_ (Ext.drewN _ _) | refine Ext.trans ?_ (by assumption)))⟩
            · go_wp2
              go_roundw
              case rel => exact ⟨k + 1, by omega, by go_num, by rw [HS.out, HN.out]; simp [stetAt, t3], (Ext.alloc _ _).cell x0, (Ext.alloc _ _).cell x1, (Ext.alloc _ _).cell x2, hE'.trans (Ext.alloc _ _)⟩
              case measure => simp [intOf]; omega
          · go_wp2
            go_roundw
            case rel => exact ⟨k + 1, by omega, by go_num, by rw [HS.out, HN.out]; simp [stetAt, t2], (Ext.alloc _ _).cell x0, (Ext.alloc _ _).cell x1, (Ext.alloc _ _).cell x2, hE'.trans (Ext.alloc _ _)⟩
            case measure => simp [intOf]; omega
        · go_wp2
          go_roundw
          case rel => exact ⟨k + 1, by omega, by go_num, by rw [HS.out, HN.out]; simp [stetAt, t1], (Ext.alloc _ _).cell x0, (Ext.alloc _ _).cell x1, (Ext.alloc _ _).cell x2, hE'.trans (Ext.alloc _ _)⟩
          case measure => simp [intOf]; omega
      · have hkl : k = ms.length - (i + 1) := by omega
        subst hkl
        clear hlt
        go_wp2
        go_ret
        exact ⟨ret_bool (by rw [live_end HM.out HN.out]; by_cases q : m.kind = 4 <;> simp [q]), (by repeat (first | exact Ext.refl _ | assumption | refine Ext.trans ?_ (Ext.alloc _ _) | refine Ext.trans ?_ (Ext.drew _) | refine Ext.trans ?_ (Ext.drewN _ _) | refine Ext.trans ?_ (by assumption)))⟩
theorem impl_clash (m n : Mrk) (w : World) : Calls Try.prog 52 #[.agg #[.int .i64 m.line, .int .i64 m.place, .int .i64 m.kind, .string m.text], .agg #[.int .i64 n.line, .int .i64 n.place, .int .i64 n.kind, .string n.text]] w fun e w' => e = .returned (.bool (clashB m n)) ∧ Ext w w' := by
  obtain ⟨ml, mp, mk, mt⟩ := m
  obtain ⟨nl, np, nk, nt⟩ := n
  by_cases h1 : ml = nl
  · subst h1
    by_cases h2 : mp = np
    · subst h2
      have hv : clashB ⟨ml, mp, mk, mt⟩ ⟨ml, mp, nk, nt⟩ = (decide (mk = 2) == decide (nk = 2)) := by simp [clashB]
      rw [hv]; clear hv
      by_cases h3 : mk = 2
      · subst h3
        by_cases h4 : nk = 2
        · subst h4
          go_enter Try.func52, Try.ntmps52
          go_wp2
          go_ret
          exact ⟨rfl, (by repeat (first | exact Ext.refl _ | assumption | refine Ext.trans ?_ (Ext.alloc _ _) | refine Ext.trans ?_ (Ext.drew _) | refine Ext.trans ?_ (Ext.drewN _ _) | refine Ext.trans ?_ (by assumption)))⟩
        · go_enter Try.func52, Try.ntmps52
          go_wp2
          go_ret
          exact ⟨ret_bool (by simp [h4]), (by repeat (first | exact Ext.refl _ | assumption | refine Ext.trans ?_ (Ext.alloc _ _) | refine Ext.trans ?_ (Ext.drew _) | refine Ext.trans ?_ (Ext.drewN _ _) | refine Ext.trans ?_ (by assumption)))⟩
      · by_cases h4 : nk = 2
        · subst h4
          go_enter Try.func52, Try.ntmps52
          go_wp2
          go_ret
          exact ⟨ret_bool (by simp [h3]), (by repeat (first | exact Ext.refl _ | assumption | refine Ext.trans ?_ (Ext.alloc _ _) | refine Ext.trans ?_ (Ext.drew _) | refine Ext.trans ?_ (Ext.drewN _ _) | refine Ext.trans ?_ (by assumption)))⟩
        · go_enter Try.func52, Try.ntmps52
          go_wp2
          go_ret
          exact ⟨ret_bool (by simp [h3, h4, show (mk == 2) = false by simpa using h3, show (nk == 2) = false by simpa using h4]), (by repeat (first | exact Ext.refl _ | assumption | refine Ext.trans ?_ (Ext.alloc _ _) | refine Ext.trans ?_ (Ext.drew _) | refine Ext.trans ?_ (Ext.drewN _ _) | refine Ext.trans ?_ (by assumption)))⟩
    · have hv : clashB ⟨ml, mp, mk, mt⟩ ⟨ml, np, nk, nt⟩ = false := by simp [clashB, h2]
      rw [hv]; clear hv
      go_enter Try.func52, Try.ntmps52
      go_wp2
      go_ret
      exact ⟨rfl, (by repeat (first | exact Ext.refl _ | assumption | refine Ext.trans ?_ (Ext.alloc _ _) | refine Ext.trans ?_ (Ext.drew _) | refine Ext.trans ?_ (Ext.drewN _ _) | refine Ext.trans ?_ (by assumption)))⟩
  · have hv : clashB ⟨ml, mp, mk, mt⟩ ⟨nl, np, nk, nt⟩ = false := by simp [clashB, h1]
    rw [hv]; clear hv
    go_enter Try.func52, Try.ntmps52
    go_wp2
    go_ret
    exact ⟨rfl, (by repeat (first | exact Ext.refl _ | assumption | refine Ext.trans ?_ (Ext.alloc _ _) | refine Ext.trans ?_ (Ext.drew _) | refine Ext.trans ?_ (Ext.drewN _ _) | refine Ext.trans ?_ (by assumption)))⟩
theorem spec_pfClash (m n : Mrk) (w : World) : Calls Try.prog 50 #[.agg #[.int .i64 m.line, .int .i64 m.place, .int .i64 m.kind, .string m.text], .agg #[.int .i64 n.line, .int .i64 n.place, .int .i64 n.kind, .string n.text]] w fun e w' => e = .returned (.bool (clashB m n)) ∧ Ext w w' := by
  obtain ⟨ml, mp, mk, mt⟩ := m
  obtain ⟨nl, np, nk, nt⟩ := n
  by_cases h1 : ml = nl
  · subst h1
    by_cases h2 : mp = np
    · subst h2
      have hv : clashB ⟨ml, mp, mk, mt⟩ ⟨ml, mp, nk, nt⟩ = (decide (mk = 2) == decide (nk = 2)) := by simp [clashB]
      rw [hv]; clear hv
      by_cases h3 : mk = 2
      · subst h3
        by_cases h4 : nk = 2
        · subst h4
          go_enter Try.func50, Try.ntmps50
          go_wp2
          go_ret
          exact ⟨rfl, (by repeat (first | exact Ext.refl _ | assumption | refine Ext.trans ?_ (Ext.alloc _ _) | refine Ext.trans ?_ (Ext.drew _) | refine Ext.trans ?_ (Ext.drewN _ _) | refine Ext.trans ?_ (by assumption)))⟩
        · go_enter Try.func50, Try.ntmps50
          go_wp2
          go_ret
          exact ⟨ret_bool (by simp [h4]), (by repeat (first | exact Ext.refl _ | assumption | refine Ext.trans ?_ (Ext.alloc _ _) | refine Ext.trans ?_ (Ext.drew _) | refine Ext.trans ?_ (Ext.drewN _ _) | refine Ext.trans ?_ (by assumption)))⟩
      · by_cases h4 : nk = 2
        · subst h4
          go_enter Try.func50, Try.ntmps50
          go_wp2
          go_ret
          exact ⟨ret_bool (by simp [h3]), (by repeat (first | exact Ext.refl _ | assumption | refine Ext.trans ?_ (Ext.alloc _ _) | refine Ext.trans ?_ (Ext.drew _) | refine Ext.trans ?_ (Ext.drewN _ _) | refine Ext.trans ?_ (by assumption)))⟩
        · go_enter Try.func50, Try.ntmps50
          go_wp2
          go_ret
          exact ⟨ret_bool (by simp [h3, h4, show (mk == 2) = false by simpa using h3, show (nk == 2) = false by simpa using h4]), (by repeat (first | exact Ext.refl _ | assumption | refine Ext.trans ?_ (Ext.alloc _ _) | refine Ext.trans ?_ (Ext.drew _) | refine Ext.trans ?_ (Ext.drewN _ _) | refine Ext.trans ?_ (by assumption)))⟩
    · have hv : clashB ⟨ml, mp, mk, mt⟩ ⟨ml, np, nk, nt⟩ = false := by simp [clashB, h2]
      rw [hv]; clear hv
      go_enter Try.func50, Try.ntmps50
      go_wp2
      go_ret
      exact ⟨rfl, (by repeat (first | exact Ext.refl _ | assumption | refine Ext.trans ?_ (Ext.alloc _ _) | refine Ext.trans ?_ (Ext.drew _) | refine Ext.trans ?_ (Ext.drewN _ _) | refine Ext.trans ?_ (by assumption)))⟩
  · have hv : clashB ⟨ml, mp, mk, mt⟩ ⟨nl, np, nk, nt⟩ = false := by simp [clashB, h1]
    rw [hv]; clear hv
    go_enter Try.func50, Try.ntmps50
    go_wp2
    go_ret
    exact ⟨rfl, (by repeat (first | exact Ext.refl _ | assumption | refine Ext.trans ?_ (Ext.alloc _ _) | refine Ext.trans ?_ (Ext.drew _) | refine Ext.trans ?_ (Ext.drewN _ _) | refine Ext.trans ?_ (by assumption)))⟩
end Go.Proofs.Ytclcclhdmciggaa
