/- The walks of the functions that make slices of int. -/
import Derived.Test.YtllgjgoimnimaaaCutQ
import Derived.Test.YtllgjgoimnimaaaCutB
import Derived.Test.YtllgjgoimnimaaaApp
import Derived.Deep.RegionHeld3
namespace Go.Proofs.Ytllgjgoimnimaaa
open Go.RowKit
set_option linter.unusedVariables false
theorem intInfo : (Try.prog.info? 3).map (fun i => (i.zero, i.size, i.bytes)) = some (some (.int .i64 0), 1, 8) := by kernel_rfl

/-- A slice of int of the call's own is returned. -/
def RetI (w : World) (xs : List Int) (e : Ending) (w' : World) : Prop := ∃ A c, e = .returned (.slice A xs.length c) ∧ xs.length ≤ c ∧ RdI w' w.heap.size w'.heap.size A xs ∧ Ext w w'

theorem inAll_any (m : Int) (A : Option Addr) (c : Nat) (l : List Cut) (n : Int) (lo hi : Nat) (w : World) (hl : l.length ≤ 1048577) (hr : RdC w lo hi A l) (hn0 : 0 ≤ n) (hn : n ≤ 300) :
    Calls Try.prog 64 #[.int .i64 m, .slice A l.length c, .int .i64 n] w (RetI w (measL m l n.toNat)) := by
  obtain ⟨N, rfl⟩ := Int.eq_ofNat_of_zero_le hn0
  rw [Int.toNat_natCast]
  go_enter Try.func64, Try.ntmps64
  go_wp2
  go_loopw [7, 8] (fun v i wr => ∃ k : Nat, k ≤ N ∧ i = .int .i64 k ∧ wr.ownsRow w.heap.size 3 1 v k ((measL m l k).map (Value.int .i64)) ∧ Ext w wr) (fun _ i _ => N - (intOf i).toNat)
  case atStart => exact ⟨0, Nat.zero_le _, rfl, own_nil _ _ _ _, Ext.refl _⟩
  case round =>
    obtain ⟨k, hk, rfl, hown, hE⟩ := hrel
    by_cases hlt : k < N
    · go_wp2_with (first
        | (go_at_call 56; refine (inMeasure_any m A c l k lo hi _ hl (hr.ext hE)).mono ?_; rintro e w1 ⟨rfl, hE1⟩; obtain ⟨hc1, hf1⟩ := bcell hE1; have hs1 := hE1.size; (try simp only [World.size_alloc] at hs1))
        | (at_builtin; refine wp_app _ w rfl (.tmp 14) (.tmp 19) 47 rfl 3 _ 1 8 Try.underlying47 intInfo rfl (by omega) _ k _ rfl (ownsRow_ext hown (hE1.trans (Ext.alloc _ _))) (hE.trans (hE1.trans (Ext.alloc _ _))) _ _ _ 1 1 [.int .i64 (meas m l k)] rfl rfl (rdA_new rfl (Ext.refl _)) (by simp [Value.oneCell']) (by omega) (by simp) ?_; intro v2 w2 hown2 hE2 hg2 hat2))
      go_roundw
      case rel => exact ⟨k + 1, by omega, by go_num, by rw [measL_succ, List.map_append]; exact hown2, hE2⟩
      case measure => simp [intOf]; omega
    · have hkl : k = N := by omega
      subst hkl
      clear hlt
      obtain ⟨A', c', rfl, hc', _⟩ := own_form hown
      go_wp2
      go_ret
      exact ⟨A', c', by rw [measL_len]; rfl, by rw [measL_len]; exact hc', Rd.of_own hown, hE⟩

def rbV (m : Int) (l : List Cut) (n : Int) : Value := if areCut m l && inB n 0 300 then .tuple #[.int .i64 (roomB m l n.toNat), .bool true] else .tuple #[.int .i64 0, .bool false]
theorem rbV_bad {m : Int} {l : List Cut} {n : Int} (h : (areCut m l && inB n 0 300) = false) : rbV m l n = .tuple #[.int .i64 0, .bool false] := by simp only [rbV, h]; rfl
theorem rbV_good {m : Int} {l : List Cut} {n : Int} (h1 : areCut m l = true) (h2 : inB n 0 300 = true) : rbV m l n = .tuple #[.int .i64 (roomB m l n.toNat), .bool true] := by simp only [rbV, h1, h2]; rfl

theorem rbV_form (m : Int) (l : List Cut) (a : Int) : ∃ x z, rbV m l a = .tuple #[.int .i64 x, .bool z] := by unfold rbV; split <;> exact ⟨_, _, rfl⟩
theorem spec_RoomBeside (m : Int) (A : Option Addr) (c : Nat) (l : List Cut) (n : Int) (lo hi : Nat) (w : World) (hl : l.length ≤ 1048577) (hcap : l.length ≤ c) (hr : RdC w lo hi A l) :
    Calls Try.prog 28 #[.int .i64 m, .slice A l.length c, .int .i64 n] w fun e w' => e = .returned (rbV m l n) ∧ Ext w w' := by
  cases h1 : areCut m l
  · rw [rbV_bad (by simp [h1])]
    go_enter Try.func28, Try.ntmps28
    go_wp2_with (go_at_call 51; refine (spec_inGood m A c l lo hi _ hl hcap hr).mono ?_; rintro e w1 ⟨rfl, hE1⟩; obtain ⟨hc1, hf1⟩ := bcell hE1; have hs1 := hE1.size; (try simp only [World.size_alloc] at hs1))
    go_ret2
    exact ⟨rfl, (by repeat (first | exact Ext.refl _ | assumption | refine Ext.trans ?_ (Ext.alloc _ _) | refine Ext.trans ?_ (Ext.drew _) | refine Ext.trans ?_ (Ext.drewN _ _) | refine Ext.trans ?_ (by assumption)))⟩
  cases h2 : inB n 0 300
  · rw [rbV_bad (by simp [h2])]
    go_enter Try.func28, Try.ntmps28
    go_wp2_with (first | (go_at_call 51; refine (spec_inGood m A c l lo hi _ hl hcap hr).mono ?_; rintro e w1 ⟨rfl, hE1⟩; obtain ⟨hc1, hf1⟩ := bcell hE1; have hs1 := hE1.size; (try simp only [World.size_alloc] at hs1)) | (go_at_call 59; refine (inNumber_any _ _).mono ?_; rintro e w' ⟨rfl, rfl⟩))
    go_ret2
    exact ⟨rfl, (by repeat (first | exact Ext.refl _ | assumption | refine Ext.trans ?_ (Ext.alloc _ _) | refine Ext.trans ?_ (Ext.drew _) | refine Ext.trans ?_ (Ext.drewN _ _) | refine Ext.trans ?_ (by assumption)))⟩
  rw [rbV_good h1 h2]
  obtain ⟨s1, s2⟩ := inB_iff.1 h2
  go_enter Try.func28, Try.ntmps28
  go_wp2_with (first | (go_at_call 51; refine (spec_inGood m A c l lo hi _ hl hcap hr).mono ?_; rintro e w1 ⟨rfl, hE1⟩; obtain ⟨hc1, hf1⟩ := bcell hE1; have hs1 := hE1.size; (try simp only [World.size_alloc] at hs1)) | (go_at_call 59; refine (inNumber_any _ _).mono ?_; rintro e w' ⟨rfl, rfl⟩))
  refine (inAll_any m A c l n lo hi _ hl (hr.ext hE1) s1 s2).mono ?_
  rintro e w2 ⟨A2, c2, rfl, hc2, hR2, hE2⟩
  have H1 := Lib.hid h1; clear h1 h2 hc1 hf1
  obtain ⟨N, rfl⟩ := Int.eq_ofNat_of_zero_le s1
  rw [Int.toNat_natCast] at *
  rw [measL_len]
  go_wp2_with fail
  go_loop [8, 25] (fun s i => ∃ k : Nat, k ≤ N ∧ i = .int .i64 k ∧ s = .int .i64 (roomB m l k)) (fun _ i => N - (intOf i).toNat)
  case atStart => exact ⟨0, Nat.zero_le _, rfl, rfl⟩
  case round =>
    obtain ⟨k, hk, rfl, rfl⟩ := hrel
    have hb := roomB_bound H1.out k
    have hm := meas_room H1.out k
    by_cases hlt : k < N
    · obtain ⟨x, b, off, HX, rfl, h1, h2, h3, c0, _⟩ := RdI.get hR2 (k := k) (by rw [measL_len]; exact hlt)
      obtain rfl := measL_at HX.out
      clear HX
      by_cases hmm : meas m l k < m
      · go_wp2
        go_round
        case rel => exact ⟨k + 1, by omega, by go_num, val_int (by rw [roomB_succ, if_pos hmm])⟩
        case measure => simp [intOf]; omega
      · go_wp2
        go_round
        case rel => exact ⟨k + 1, by omega, by go_num, val_int (by rw [roomB_succ, if_neg (by omega)]; omega)⟩
        case measure => simp [intOf]; omega
    · have hkl : k = N := by omega
      subst hkl
      clear hlt
      go_wp2
      go_ret2
      exact ⟨rfl, (by repeat (first | exact Ext.refl _ | assumption | refine Ext.trans ?_ (Ext.alloc _ _) | refine Ext.trans ?_ (Ext.drew _) | refine Ext.trans ?_ (Ext.drewN _ _) | refine Ext.trans ?_ (by assumption)))⟩

theorem impl_RoomBeside (m : Int) (A : Option Addr) (c : Nat) (l : List Cut) (n : Int) (lo hi : Nat) (w : World) (hl : l.length ≤ 1048577) (hcap : l.length ≤ c) (hr : RdC w lo hi A l) :
    Calls Try.prog 29 #[.int .i64 m, .slice A l.length c, .int .i64 n] w fun e w' => e = .returned (rbV m l n) ∧ Ext w w' := by
  cases h1 : areCut m l
  · rw [rbV_bad (by simp [h1])]
    go_enter Try.func29, Try.ntmps29
    go_wp2_with (go_at_call 19; refine (impl_AreCutIns m A c l lo hi _ hl hcap hr).mono ?_; rintro e w1 ⟨rfl, hE1⟩; obtain ⟨hc1, hf1⟩ := bcell hE1; have hs1 := hE1.size; (try simp only [World.size_alloc] at hs1))
    go_ret2
    exact ⟨rfl, (by repeat (first | exact Ext.refl _ | assumption | refine Ext.trans ?_ (Ext.alloc _ _) | refine Ext.trans ?_ (Ext.drew _) | refine Ext.trans ?_ (Ext.drewN _ _) | refine Ext.trans ?_ (by assumption)))⟩
  cases h2 : inB n 0 300
  · rw [rbV_bad (by simp [h2])]
    go_enter Try.func29, Try.ntmps29
    go_wp2_with (first | (go_at_call 19; refine (impl_AreCutIns m A c l lo hi _ hl hcap hr).mono ?_; rintro e w1 ⟨rfl, hE1⟩; obtain ⟨hc1, hf1⟩ := bcell hE1; have hs1 := hE1.size; (try simp only [World.size_alloc] at hs1)) | (go_at_call 61; refine (isLineNumber_any _ _).mono ?_; rintro e w' ⟨rfl, rfl⟩))
    go_ret2
    exact ⟨rfl, (by repeat (first | exact Ext.refl _ | assumption | refine Ext.trans ?_ (Ext.alloc _ _) | refine Ext.trans ?_ (Ext.drew _) | refine Ext.trans ?_ (Ext.drewN _ _) | refine Ext.trans ?_ (by assumption)))⟩
  rw [rbV_good h1 h2]
  obtain ⟨s1, s2⟩ := inB_iff.1 h2
  obtain ⟨N, rfl⟩ := Int.eq_ofNat_of_zero_le s1
  rw [Int.toNat_natCast]
  go_enter Try.func29, Try.ntmps29
  go_wp2_with (first | (go_at_call 19; refine (impl_AreCutIns m A c l lo hi _ hl hcap hr).mono ?_; rintro e w1 ⟨rfl, hE1⟩; obtain ⟨hc1, hf1⟩ := bcell hE1; have hs1 := hE1.size; (try simp only [World.size_alloc] at hs1)) | (go_at_call 61; refine (isLineNumber_any _ _).mono ?_; rintro e w' ⟨rfl, rfl⟩))
  have H1 := Lib.hid h1; clear h1 h2 hc1 hf1
  go_loopw [8, 9] (fun s i wr => ∃ k : Nat, k ≤ N ∧ i = .int .i64 k ∧ s = .int .i64 (roomB m l k) ∧ Ext w wr) (fun _ i _ => N - (intOf i).toNat)
  case atStart => exact ⟨0, Nat.zero_le _, rfl, rfl, hE1⟩
  case round =>
    obtain ⟨k, hk, rfl, rfl, hE⟩ := hrel
    have hb := roomB_bound H1.out k
    have hm := meas_room H1.out k
    by_cases hlt : k < N
    · by_cases hmm : meas m l k < m
      · go_wp2_with (go_at_call 53; refine (measureAt_any m A c l k lo hi _ hl (hr.ext hE)).mono ?_; rintro e w2 ⟨rfl, hE2⟩; obtain ⟨hc2, hf2⟩ := bcell hE2; have hs2 := hE2.size; (try simp only [World.size_alloc] at hs2))
        go_roundw
        case rel => exact ⟨k + 1, by omega, by go_num, val_int (by rw [roomB_succ, if_pos hmm]), (by repeat (first | exact Ext.refl _ | assumption | refine Ext.trans ?_ (Ext.alloc _ _) | refine Ext.trans ?_ (Ext.drew _) | refine Ext.trans ?_ (Ext.drewN _ _) | refine Ext.trans ?_ (by assumption)))⟩
        case measure => simp [intOf]; omega
      · go_wp2_with (go_at_call 53; refine (measureAt_any m A c l k lo hi _ hl (hr.ext hE)).mono ?_; rintro e w2 ⟨rfl, hE2⟩; obtain ⟨hc2, hf2⟩ := bcell hE2; have hs2 := hE2.size; (try simp only [World.size_alloc] at hs2))
        go_roundw
        case rel => exact ⟨k + 1, by omega, by go_num, val_int (by rw [roomB_succ, if_neg (by omega)]; omega), (by repeat (first | exact Ext.refl _ | assumption | refine Ext.trans ?_ (Ext.alloc _ _) | refine Ext.trans ?_ (Ext.drew _) | refine Ext.trans ?_ (Ext.drewN _ _) | refine Ext.trans ?_ (by assumption)))⟩
        case measure => simp [intOf]; omega
    · have hkl : k = N := by omega
      subst hkl
      clear hlt
      go_wp2
      go_ret2
      exact ⟨rfl, (by repeat (first | exact Ext.refl _ | assumption | refine Ext.trans ?_ (Ext.alloc _ _) | refine Ext.trans ?_ (Ext.drew _) | refine Ext.trans ?_ (Ext.drewN _ _) | refine Ext.trans ?_ (by assumption)))⟩

/-- A slice of int of the call's own and a bool are returned. -/
def RetI2 (w : World) (p : List Int × Bool) (e : Ending) (w' : World) : Prop := ∃ A c, e = .returned (.tuple #[.slice A p.1.length c, .bool p.2]) ∧ p.1.length ≤ c ∧ RdI w' w.heap.size w'.heap.size A p.1 ∧ Ext w w'
theorem retI2_nil {w w' : World} (hE : Ext w w') : RetI2 w ([], false) (.returned (.tuple #[.slice none 0 0, .bool false])) w' := ⟨none, 0, rfl, Nat.le_refl _, Rd.nil (Nat.le_refl _), hE⟩
theorem retI2_lit {w w' : World} {a : Option Addr} {c : Nat} (hE : Ext w w') : RetI2 w ([], false) (.returned (.tuple #[.slice a 0 c, .bool false])) w' := ⟨a, c, rfl, Nat.zero_le _, Rd.nil (Nat.le_refl _), hE⟩
def lmP (m : Int) (l : List Cut) (n : Int) : List Int × Bool := if areCut m l && inB n 0 300 then (measL m l n.toNat, true) else ([], false)
theorem lmP_bad {m : Int} {l : List Cut} {n : Int} (h : (areCut m l && inB n 0 300) = false) : lmP m l n = ([], false) := by simp only [lmP, h]; rfl
theorem lmP_good {m : Int} {l : List Cut} {n : Int} (h1 : areCut m l = true) (h2 : inB n 0 300 = true) : lmP m l n = (measL m l n.toNat, true) := by simp only [lmP, h1, h2]; rfl

theorem lmP_len (m : Int) (l : List Cut) (n : Int) : (lmP m l n).1.length ≤ 4000000 := by
  unfold lmP
  split
  · rename_i h
    simp only [Bool.and_eq_true] at h
    have := inB_iff.1 h.2
    simp only [measL_len]
    omega
  · simp
theorem spec_LineMeasures (m : Int) (A : Option Addr) (c : Nat) (l : List Cut) (n : Int) (lo hi : Nat) (w : World) (hl : l.length ≤ 1048577) (hcap : l.length ≤ c) (hr : RdC w lo hi A l) :
    Calls Try.prog 36 #[.int .i64 m, .slice A l.length c, .int .i64 n] w (RetI2 w (lmP m l n)) := by
  cases h1 : areCut m l
  · rw [lmP_bad (by simp [h1])]
    go_enter Try.func36, Try.ntmps36
    go_wp2_with (go_at_call 51; refine (spec_inGood m A c l lo hi _ hl hcap hr).mono ?_; rintro e w1 ⟨rfl, hE1⟩; obtain ⟨hc1, hf1⟩ := bcell hE1; have hs1 := hE1.size; (try simp only [World.size_alloc] at hs1))
    go_ret2
    exact retI2_nil (by repeat (first | exact Ext.refl _ | assumption | refine Ext.trans ?_ (Ext.alloc _ _) | refine Ext.trans ?_ (Ext.drew _) | refine Ext.trans ?_ (Ext.drewN _ _) | refine Ext.trans ?_ (by assumption)))
  cases h2 : inB n 0 300
  · rw [lmP_bad (by simp [h2])]
    go_enter Try.func36, Try.ntmps36
    go_wp2_with (first | (go_at_call 51; refine (spec_inGood m A c l lo hi _ hl hcap hr).mono ?_; rintro e w1 ⟨rfl, hE1⟩; obtain ⟨hc1, hf1⟩ := bcell hE1; have hs1 := hE1.size; (try simp only [World.size_alloc] at hs1)) | (go_at_call 59; refine (inNumber_any _ _).mono ?_; rintro e w' ⟨rfl, rfl⟩))
    go_ret2
    exact retI2_nil (by repeat (first | exact Ext.refl _ | assumption | refine Ext.trans ?_ (Ext.alloc _ _) | refine Ext.trans ?_ (Ext.drew _) | refine Ext.trans ?_ (Ext.drewN _ _) | refine Ext.trans ?_ (by assumption)))
  rw [lmP_good h1 h2]
  obtain ⟨s1, s2⟩ := inB_iff.1 h2
  go_enter Try.func36, Try.ntmps36
  go_wp2_with (first | (go_at_call 51; refine (spec_inGood m A c l lo hi _ hl hcap hr).mono ?_; rintro e w1 ⟨rfl, hE1⟩; obtain ⟨hc1, hf1⟩ := bcell hE1; have hs1 := hE1.size; (try simp only [World.size_alloc] at hs1)) | (go_at_call 59; refine (inNumber_any _ _).mono ?_; rintro e w' ⟨rfl, rfl⟩))
  refine (inAll_any m A c l n lo hi _ hl (hr.ext hE1) s1 s2).mono ?_
  rintro e w2 ⟨A2, c2, rfl, hc2, hR2, hE2⟩
  go_wp2_with fail
  go_ret2
  exact ⟨A2, c2, rfl, hc2, Rd.wide hR2 hs1 (Nat.le_refl _) (Nat.le_refl _), (by repeat (first | exact Ext.refl _ | assumption | refine Ext.trans ?_ (Ext.alloc _ _) | refine Ext.trans ?_ (Ext.drew _) | refine Ext.trans ?_ (Ext.drewN _ _) | refine Ext.trans ?_ (by assumption)))⟩

theorem impl_LineMeasures (m : Int) (A : Option Addr) (c : Nat) (l : List Cut) (n : Int) (lo hi : Nat) (w : World) (hl : l.length ≤ 1048577) (hcap : l.length ≤ c) (hr : RdC w lo hi A l) :
    Calls Try.prog 37 #[.int .i64 m, .slice A l.length c, .int .i64 n] w (RetI2 w (lmP m l n)) := by
  cases h1 : areCut m l
  · rw [lmP_bad (by simp [h1])]
    go_enter Try.func37, Try.ntmps37
    go_wp2_with (go_at_call 19; refine (impl_AreCutIns m A c l lo hi _ hl hcap hr).mono ?_; rintro e w1 ⟨rfl, hE1⟩; obtain ⟨hc1, hf1⟩ := bcell hE1; have hs1 := hE1.size; (try simp only [World.size_alloc] at hs1))
    go_ret2
    exact retI2_lit (by repeat (first | exact Ext.refl _ | assumption | refine Ext.trans ?_ (Ext.alloc _ _) | refine Ext.trans ?_ (Ext.drew _) | refine Ext.trans ?_ (Ext.drewN _ _) | refine Ext.trans ?_ (by assumption)))
  cases h2 : inB n 0 300
  · rw [lmP_bad (by simp [h2])]
    go_enter Try.func37, Try.ntmps37
    go_wp2_with (first | (go_at_call 19; refine (impl_AreCutIns m A c l lo hi _ hl hcap hr).mono ?_; rintro e w1 ⟨rfl, hE1⟩; obtain ⟨hc1, hf1⟩ := bcell hE1; have hs1 := hE1.size; (try simp only [World.size_alloc] at hs1)) | (go_at_call 61; refine (isLineNumber_any _ _).mono ?_; rintro e w' ⟨rfl, rfl⟩))
    go_ret2
    exact retI2_lit (by repeat (first | exact Ext.refl _ | assumption | refine Ext.trans ?_ (Ext.alloc _ _) | refine Ext.trans ?_ (Ext.drew _) | refine Ext.trans ?_ (Ext.drewN _ _) | refine Ext.trans ?_ (by assumption)))
  rw [lmP_good h1 h2]
  obtain ⟨s1, s2⟩ := inB_iff.1 h2
  obtain ⟨N, rfl⟩ := Int.eq_ofNat_of_zero_le s1
  rw [Int.toNat_natCast]
  go_enter Try.func37, Try.ntmps37
  go_wp2_with (first | (go_at_call 19; refine (impl_AreCutIns m A c l lo hi _ hl hcap hr).mono ?_; rintro e w1 ⟨rfl, hE1⟩; obtain ⟨hc1, hf1⟩ := bcell hE1; have hs1 := hE1.size; (try simp only [World.size_alloc] at hs1)) | (go_at_call 61; refine (isLineNumber_any _ _).mono ?_; rintro e w' ⟨rfl, rfl⟩))
  clear h1 h2 hc1 hf1
  go_loopw [8, 9] (fun v i wr => ∃ k : Nat, k ≤ N ∧ i = .int .i64 k ∧ wr.ownsRow w.heap.size 3 1 v k ((measL m l k).map (Value.int .i64)) ∧ Ext w wr) (fun _ i _ => N - (intOf i).toNat)
  case atStart => exact ⟨0, Nat.zero_le _, rfl, own_lit0 _ _ hs1 (Ext.refl _), (by repeat (first | exact Ext.refl _ | assumption | refine Ext.trans ?_ (Ext.alloc _ _) | refine Ext.trans ?_ (Ext.drew _) | refine Ext.trans ?_ (Ext.drewN _ _) | refine Ext.trans ?_ (by assumption)))⟩
  case round =>
    obtain ⟨k, hk, rfl, hown, hE⟩ := hrel
    by_cases hlt : k < N
    · go_wp2_with (first
        | (go_at_call 53; refine (measureAt_any m A c l k lo hi _ hl (hr.ext hE)).mono ?_; rintro e w2 ⟨rfl, hE2⟩; obtain ⟨hc2, hf2⟩ := bcell hE2; have hs2 := hE2.size; (try simp only [World.size_alloc] at hs2))
        | (at_builtin; refine wp_app _ w rfl (.tmp 26) (.tmp 31) 47 rfl 3 _ 1 8 Try.underlying47 intInfo rfl (by omega) _ k _ rfl (ownsRow_ext hown (hE2.trans (Ext.alloc _ _))) (hE.trans (hE2.trans (Ext.alloc _ _))) _ _ _ 1 1 [.int .i64 (meas m l k)] rfl rfl (rdA_new rfl (Ext.refl _)) (by simp [Value.oneCell']) (by omega) (by simp) ?_; intro v3 w3 hown3 hE3 hg3 hat3))
      go_roundw
      case rel => exact ⟨k + 1, by omega, by go_num, by rw [measL_succ, List.map_append]; exact hown3, hE3⟩
      case measure => simp [intOf]; omega
    · have hkl : k = N := by omega
      subst hkl
      clear hlt
      obtain ⟨A', c', rfl, hc', _⟩ := own_form hown
      go_wp2
      go_ret2
      exact ⟨A', c', by rw [measL_len]; rfl, by rw [measL_len]; exact hc', Rd.of_own hown, hE⟩
end Go.Proofs.Ytllgjgoimnimaaa
