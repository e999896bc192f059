/- The walks of AreParallel: the program's and the reference's; and the plain functions that they compute. -/
import Derived.Test.YtnhddepmhelgiaaProg
import Derived.Test.YtnhddepmhelgiaaNest
import Derived.Test.YtnhddepmhelgiaaFill
import Derived.Outline
import Derived.Deep.RegionHeld3
import Derived.Deep.QuietTactic
import Derived.BigQuiet
namespace Go.Proofs.Ytnhddepmhelgiaa
open Go.RowKit
set_option linter.unusedVariables false
theorem inB_iff {n lo hi : Int} : inB n lo hi = true ↔ lo ≤ n ∧ n ≤ hi := by simp [inB]
theorem within_any (n lo hi : Int) (w : World) : Calls Try.prog 50 #[.int .i64 n, .int .i64 lo, .int .i64 hi] w fun e w' => e = .returned (.bool (inB n lo hi)) ∧ w = w' := by
  unfold inB
  go_enter Try.func50, Try.ntmps50
  go_wp2
  all_goals (go_ret; simp [*]; try omega)
theorem l1In_any (n lo hi : Int) (w : World) : Calls Try.prog 64 #[.int .i64 n, .int .i64 lo, .int .i64 hi] w fun e w' => e = .returned (.bool (inB n lo hi)) ∧ w = w' := by
  unfold inB
  go_enter Try.func64, Try.ntmps64
  go_wp2
  all_goals (go_ret; simp [*]; try omega)
def hdLen (ls : List (List Int)) : Nat := match ls[0]? with | some l => l.length | none => 0
def rowOk (n : Nat) (l : List Int) : Bool := (decide (l.length = n) && inB l.length 1 6) && l.all fun x => inB x 0 200
def rowsTo (ls : List (List Int)) (k : Nat) : Bool := (List.range k).all fun i => match ls[i]? with | some l => rowOk (hdLen ls) l | none => true
def par (ls : List (List Int)) : Bool := rowsTo ls ls.length && decide (ls.length ≤ 24)
theorem rowsTo_succ {ls : List (List Int)} {k : Nat} {l : List Int} (h : ls[k]? = some l) : rowsTo ls (k + 1) = (rowsTo ls k && rowOk (hdLen ls) l) := by simp [rowsTo, List.range_succ, h]
theorem par_bad {ls : List (List Int)} {k : Nat} {l : List Int} (hx : ls[k]? = some l) (h : rowOk (hdLen ls) l = false) : par ls = false := by
  have hk : k < ls.length := (List.getElem?_eq_some_iff.1 hx).1
  have : rowsTo ls ls.length = false := by
    rw [rowsTo, List.all_eq_false]
    exact ⟨k, List.mem_range.2 hk, by rw [hx]; simp [h]⟩
  simp [par, this]
theorem all_take_succ {l : List Int} {j : Nat} {y : Int} (p : Int → Bool) (h : l[j]? = some y) : (l.take (j + 1)).all p = ((l.take j).all p && p y) := by
  rw [take_snoc h]; simp
theorem all_bad {l : List Int} {j : Nat} {y : Int} {p : Int → Bool} (h : l[j]? = some y) (hp : p y = false) : l.all p = false := by
  rw [List.all_eq_false]; exact ⟨y, List.mem_of_getElem? h, by simp [hp]⟩

theorem l1All_any (A : Option Addr) (c n : Nat) (l : List Int) (p q : Int) (lo hi : Nat) (w : World) (hn : l.length = n) (hl : n ≤ 1048577) (hr : RdI w lo hi A l) :
    Calls Try.prog 73 #[.slice A n c, .int .i64 p, .int .i64 q] w fun e w' => e = .returned (.bool (l.all fun x => inB x p q)) ∧ w = w' := by
  subst hn
  go_enter Try.func73, Try.ntmps73
  go_wp2
  go_loop [11] (fun i => ∃ k : Nat, k ≤ l.length ∧ i = .int .i64 k ∧ (l.take k).all (fun x => inB x p q) = true) (fun i => l.length - (intOf i).toNat)
  case atStart => exact ⟨0, Nat.zero_le _, rfl, rfl⟩
  case round =>
    obtain ⟨k, hk, rfl, hg⟩ := hrel
    have HG := Lib.hid hg; clear hg
    by_cases hlt : k < l.length
    · obtain ⟨x, b, off, HX, rfl, h1, h2, h3, c0, _⟩ := RdI.get hr hlt
      cases t1 : inB x p q
      · go_wp2_with (go_at_call 64; refine (l1In_any _ _ _ _).mono ?_; rintro e w' ⟨rfl, rfl⟩)
        go_ret
        exact ⟨ret_bool (all_bad HX.out t1).symm, rfl⟩
      · go_wp2_with (go_at_call 64; refine (l1In_any _ _ _ _).mono ?_; rintro e w' ⟨rfl, rfl⟩)
        go_round
        case rel => exact ⟨k + 1, by omega, by go_num, by rw [all_take_succ _ HX.out, HG.out, t1]; rfl⟩
        case measure => simp [intOf]; omega
    · have hkl : k = l.length := by omega
      subst hkl
      clear hlt
      have h := HG.out
      rw [List.take_of_length_le (Nat.le_refl _)] at h
      have HH := Lib.hid h; clear h
      go_wp2
      go_ret
      exact ⟨ret_bool HH.out.symm, rfl⟩

theorem spec_plGood (A : Option Addr) (c : Nat) (ls : List (List Int)) (lo hi : Nat) (w : World) (hl : ls.length ≤ 1048577) (hb : ∀ l ∈ ls, l.length ≤ 1048577) (hr : RdII w lo hi A ls) :
    Calls Try.prog 48 #[.slice A ls.length c] w fun e w' => e = .returned (.bool (par ls)) ∧ Ext w w' := by
  by_cases hlen : ls.length ≤ 24
  case neg =>
    have hlen' : 24 < ls.length := by omega
    go_enter Try.func48, Try.ntmps48
    go_wp2
    go_ret
    exact ⟨ret_bool (by simp [par, hlen']), (by repeat (first | exact Ext.refl _ | assumption | refine Ext.trans ?_ (Ext.alloc _ _) | refine Ext.trans ?_ (Ext.drew _) | refine Ext.trans ?_ (Ext.drewN _ _) | refine Ext.trans ?_ (by assumption)))⟩
  have HB := Lib.hid hb; clear hb
  go_enter Try.func48, Try.ntmps48
  go_wp2
  go_loopw [10] (fun i wr => ∃ k : Nat, k ≤ ls.length ∧ i = .int .i64 k ∧ rowsTo ls k = true ∧ Ext w wr) (fun i _ => ls.length - (intOf i).toNat)
  case atStart => exact ⟨0, Nat.zero_le _, rfl, rfl, Ext.refl _⟩
  case round =>
    obtain ⟨k, hk, rfl, hg, hE⟩ := hrel
    have HG := Lib.hid hg; clear hg
    by_cases hlt : k < ls.length
    · obtain ⟨r, l, b, off, HX, rfl, h3, c0, hlc, hR, _, _⟩ := RdII.get (hr.ext hE) hlt
      obtain ⟨r0, l0, b', off', HX0, eA, _, d0, _, _, _, _⟩ := RdII.get (hr.ext hE) (k := 0) (by omega)
      injection eA with eA; injection eA with eb eo _; subst eb; subst eo
      simp only [Nat.add_zero] at d0
      have hll := HB.out l (List.mem_of_getElem? HX.out)
      have hll0 := HB.out l0 (List.mem_of_getElem? HX0.out)
      have hh : hdLen ls = l0.length := by simp [hdLen, HX0.out]
      have HH := Lib.hid hh; clear hh
      have bad : rowOk l0.length l = false → par ls = false := fun h => par_bad HX.out (by rw [HH.out]; exact h)
      have BAD := Lib.hid bad; clear bad
      cases t1 : inB l.length 1 6
      · go_wp2_with (go_at_call 64; refine (l1In_any _ _ _ _).mono ?_; rintro e w' ⟨rfl, rfl⟩)
        go_ret
        exact ⟨ret_bool (BAD.out (by simp [rowOk, t1])).symm, (by repeat (first | exact Ext.refl _ | assumption | refine Ext.trans ?_ (Ext.alloc _ _) | refine Ext.trans ?_ (Ext.drew _) | refine Ext.trans ?_ (Ext.drewN _ _) | refine Ext.trans ?_ (by assumption)))⟩
      by_cases t2 : l.length = l0.length
      · have t2' : ((l.length : Int) != (l0.length : Int)) = false := by simp [t2]
        have T2 := Lib.hid t2; clear t2
        cases t3 : l.all fun x => inB x 0 200
        · go_wp2_with (first | (go_at_call 64; refine (l1In_any _ _ _ _).mono ?_; rintro e w' ⟨rfl, rfl⟩) | (go_at_call 73; refine (l1All_any _ _ _ l 0 200 _ _ _ rfl hll hR).mono ?_; rintro e w' ⟨rfl, rfl⟩))
          go_ret
          exact ⟨ret_bool (BAD.out (by simp [rowOk, t3])).symm, (by repeat (first | exact Ext.refl _ | assumption | refine Ext.trans ?_ (Ext.alloc _ _) | refine Ext.trans ?_ (Ext.drew _) | refine Ext.trans ?_ (Ext.drewN _ _) | refine Ext.trans ?_ (by assumption)))⟩
        · go_wp2_with (first | (go_at_call 64; refine (l1In_any _ _ _ _).mono ?_; rintro e w' ⟨rfl, rfl⟩) | (go_at_call 73; refine (l1All_any _ _ _ l 0 200 _ _ _ rfl hll hR).mono ?_; rintro e w' ⟨rfl, rfl⟩))
          go_roundw
          case rel => exact ⟨k + 1, by omega, by go_num, by rw [rowsTo_succ HX.out, HG.out, HH.out, rowOk, t1, t3]; simp [T2.out], (by repeat (first | exact Ext.refl _ | assumption | refine Ext.trans ?_ (Ext.alloc _ _) | refine Ext.trans ?_ (Ext.drew _) | refine Ext.trans ?_ (Ext.drewN _ _) | refine Ext.trans ?_ (by assumption)))⟩
          case measure => simp [intOf]; omega
      · have t2' : ((l.length : Int) != (l0.length : Int)) = true := by simp; omega
        go_wp2_with (go_at_call 64; refine (l1In_any _ _ _ _).mono ?_; rintro e w' ⟨rfl, rfl⟩)
        go_ret
        exact ⟨ret_bool (BAD.out (by simp [rowOk, t2])).symm, (by repeat (first | exact Ext.refl _ | assumption | refine Ext.trans ?_ (Ext.alloc _ _) | refine Ext.trans ?_ (Ext.drew _) | refine Ext.trans ?_ (Ext.drewN _ _) | refine Ext.trans ?_ (by assumption)))⟩
    · have hkl : k = ls.length := by omega
      subst hkl
      clear hlt
      go_wp2
      go_ret
      exact ⟨ret_bool (by simp [par, HG.out, hlen]), (by repeat (first | exact Ext.refl _ | assumption | refine Ext.trans ?_ (Ext.alloc _ _) | refine Ext.trans ?_ (Ext.drew _) | refine Ext.trans ?_ (Ext.drewN _ _) | refine Ext.trans ?_ (by assumption)))⟩
theorem spec_AreParallel (A : Option Addr) (c : Nat) (ls : List (List Int)) (lo hi : Nat) (w : World) (hl : ls.length ≤ 1048577) (hb : ∀ l ∈ ls, l.length ≤ 1048577) (hr : RdII w lo hi A ls) :
    Calls Try.prog 16 #[.slice A ls.length c] w fun e w' => e = .returned (.bool (par ls)) ∧ Ext w w' := by
  go_enter Try.func16, Try.ntmps16
  go_wp2_with (go_at_call 48; refine (spec_plGood A c ls lo hi _ hl hb hr).mono ?_; rintro e w1 ⟨rfl, hE1⟩; obtain ⟨hc1, hf1⟩ := bcell hE1; have hs1 := hE1.size; (try simp only [World.size_alloc] at hs1))
  go_ret
  exact ⟨rfl, (by repeat (first | exact Ext.refl _ | assumption | refine Ext.trans ?_ (Ext.alloc _ _) | refine Ext.trans ?_ (Ext.drew _) | refine Ext.trans ?_ (Ext.drewN _ _) | refine Ext.trans ?_ (by assumption)))⟩
end Go.Proofs.Ytnhddepmhelgiaa
