/- The walks of savedBy, plSaved, SavedBy, BestJoin. -/
import Derived.Test.YtnhddepmhelgiaaPaI
namespace Go.Proofs.Ytnhddepmhelgiaa
open Go.RowKit
set_option linter.unusedVariables false
theorem par_rows {ls : List (List Int)} (h : par ls = true) {i : Nat} (hi : i + 1 < ls.length) : (rowAt ls i).length = (rowAt ls (i + 1)).length := by
  have e1 : ls[i]? = some ls[i] := List.getElem?_eq_getElem (by omega)
  have e2 : ls[i + 1]? = some ls[i + 1] := List.getElem?_eq_getElem hi
  rw [rowAt_of e1, rowAt_of e2, (par_row h e1).1, (par_row h e2).1]
theorem fit_mono {A B : Int} {ls : List (List Int)} (h : Fit A ls) (hAB : A ≤ B) : Fit B ls := fun l hl x hx => by have := h l hl x hx; omega
theorem impl_savedBy (A : Option Addr) (c : Nat) (ls : List (List Int)) (i : Nat) (lo hi : Nat) (w : World) (hl : ls.length ≤ 1048577) (hp : par ls = true) (hi1 : i + 1 < ls.length) (hr : RdII w lo hi A ls) :
    Calls Try.prog 53 #[.slice A ls.length c, .int .i64 i] w fun e w' => e = .returned (.int .i64 (savF ls i)) ∧ Ext w w' := by
  obtain ⟨⟨ra, rc, rp, rq⟩, a, b, off, HX1, rfl, h3, d1, _, hR1, _, _⟩ := RdII.get hr (k := i) (by omega)
  obtain ⟨⟨sa, sc, sp, sq⟩, a2, b', off', HX2, eA, _, d2, _, hR2, _, _⟩ := RdII.get hr hi1
  injection eA with eA; injection eA with eb eo _; subst eb; subst eo
  simp only at d1 d2 hR1 hR2
  have ea : rowAt ls i = a := rowAt_of HX1.out
  have ea2 : rowAt ls (i + 1) = a2 := rowAt_of HX2.out
  have hv : savF ls i = grt a + grt a2 - grt (joinR a a2) := by rw [savF, ea, ea2]
  have he : a.length = a2.length := by have := par_rows hp hi1; rwa [ea, ea2] at this
  obtain ⟨v1, v2, v3⟩ := savF_bound (i := i) (par_fit hp)
  rw [ea, ea2] at v3; rw [ea] at v1; rw [ea2] at v2
  obtain ⟨hz1, hla, fa⟩ := par_row hp HX1.out
  obtain ⟨hz2, hla2, fa2⟩ := par_row hp HX2.out
  clear hz1 hz2
  rw [hv]
  have HE := Lib.hid he
  have FA : Hid (∀ x ∈ a, 0 ≤ x ∧ x ≤ 1000000) := fun x hx => by have := fa x hx; omega
  have FA2 : Hid (∀ x ∈ a2, 0 ≤ x ∧ x ≤ 1000000) := fun x hx => by have := fa2 x hx; omega
  have g1 : (0 : Int) ≤ i := by omega
  have g2 : (i : Int) < ls.length := by omega
  have g3 : (0 : Int) ≤ (i : Int) + 1 := by omega
  have g4 : (i : Int) + 1 < ls.length := by omega
  have q1 : IntKind.i64.wrap ((i : Int) + 1) = (i : Int) + 1 := IntWalk.i64_in _ (by omega)
  have q2 : ((i : Int) + 1).toNat = i + 1 := by omega
  have q3 : IntKind.i64.wrap (grt a + grt a2) = grt a + grt a2 := IntWalk.i64_in _ (by omega)
  have q4 : IntKind.i64.wrap (grt a + grt a2 - grt (joinR a a2)) = grt a + grt a2 - grt (joinR a a2) := IntWalk.i64_in _ (by omega)
  have K1 : Hid (∀ w', Ext w w' → Calls Try.prog 55 #[.slice ra a.length rc] w' fun e w'' => e = .returned (.int .i64 (grt a)) ∧ w' = w'') := fun w' h => impl_greatest ra rc a.length a _ _ _ rfl (by omega) (hR1.ext h)
  have K2 : Hid (∀ w', Ext w w' → Calls Try.prog 55 #[.slice sa a2.length sc] w' fun e w'' => e = .returned (.int .i64 (grt a2)) ∧ w' = w'') := fun w' h => impl_greatest sa sc a2.length a2 _ _ _ rfl (by omega) (hR2.ext h)
  have K3 : Hid (∀ w', Ext w w' → Calls Try.prog 67 #[.slice ra a.length rc, .slice sa a2.length sc] w' (RetI w' (joinR a a2))) := fun w' h => impl_joined ra sa rc sc a.length a2.length a a2 _ _ _ _ _ rfl rfl (by omega) HE.out FA.out FA2.out (hR1.ext h) (hR2.ext h)
  clear hv he ea ea2 fa fa2 hp
  have e1 : ∀ w', Ext w w' → w'.cell? ⟨b, off + i, none⟩ = _ := fun _ h => h.cell d1
  have e2 : ∀ w', Ext w w' → w'.cell? ⟨b, off + (i + 1), none⟩ = _ := fun _ h => h.cell d2
  go_enter Try.func53, Try.ntmps53
  go_wp2
  have tok1 : True := trivial
  have tok2 : True := trivial
  go_region_held3 (fun w' => Ext w w') (exact (by repeat (first | exact Ext.refl _ | assumption | refine Ext.trans ?_ (Ext.alloc _ _) | refine Ext.trans ?_ (Ext.drew _) | refine Ext.trans ?_ (Ext.drewN _ _) | refine Ext.trans ?_ (by assumption)))) (first | (go_at_call 55; have _t := tok1; refine (K1.out _ (by first | assumption | exact hHeld)).mono ?_; rintro e w1 ⟨rfl, rfl⟩; clear tok1 _t) | (go_at_call 55; have _t := tok2; refine (K2.out _ (by first | assumption | exact hHeld)).mono ?_; rintro e w1 ⟨rfl, rfl⟩; clear tok2 _t) | (go_at_call 67; refine (K3.out _ (by first | assumption | exact hHeld)).mono ?_; rintro e w3 ⟨A3, c3, rfl, hc3, hR3, hE3⟩) | (go_at_call 55; refine (impl_greatest A3 c3 (joinR a a2).length (joinR a a2) _ _ _ rfl (by rw [joinR_len HE.out]; omega) (hR3.ext (by repeat (first | exact Ext.refl _ | assumption | refine Ext.trans ?_ (Ext.alloc _ _) | refine Ext.trans ?_ (Ext.drew _) | refine Ext.trans ?_ (Ext.drewN _ _) | refine Ext.trans ?_ (by assumption))))).mono ?_; rintro e w1 ⟨rfl, rfl⟩))
  go_wp2
  go_ret
  exact ⟨rfl, (by repeat (first | exact Ext.refl _ | assumption | refine Ext.trans ?_ (Ext.alloc _ _) | refine Ext.trans ?_ (Ext.drew _) | refine Ext.trans ?_ (Ext.drewN _ _) | refine Ext.trans ?_ (by assumption)))⟩
theorem par_lens {ls : List (List Int)} (h : par ls = true) : ∀ l ∈ ls, l.length ≤ 1048577 := fun l hl => by have := (par_mem h hl).2.1; omega
theorem joinL_lens {ls : List (List Int)} (h : par ls = true) (i : Nat) : ∀ l ∈ joinL ls i, l.length ≤ 1048577 := fun l hl => by
  rw [joinL, List.mem_append, List.mem_cons] at hl
  rcases hl with hl | rfl | hl
  · exact par_lens h l (List.mem_of_mem_take hl)
  · have : (joinR (rowAt ls i) (rowAt ls (i + 1))).length ≤ (rowAt ls i).length := by simp [joinR]; omega
    cases hx : ls[i]? with
    | none => have e : rowAt ls i = [] := by simp [rowAt, hx]
              rw [e]; simp [joinR]
    | some l => rw [rowAt_of hx] at this; have := par_lens h l (List.mem_of_getElem? hx); rw [rowAt_of hx]; omega
  · exact par_lens h l (List.mem_of_mem_drop hl)
theorem spec_plSaved (A : Option Addr) (c : Nat) (ls : List (List Int)) (i : Nat) (lo hi : Nat) (w : World) (hp : par ls = true) (hcap : ls.length ≤ c) (hi1 : i + 1 < ls.length) (hr : RdII w lo hi A ls) :
    Calls Try.prog 51 #[.slice A ls.length c, .int .i64 i] w fun e w' => e = .returned (.int .i64 (savF ls i)) ∧ Ext w w' := by
  have h24 := par_len hp
  rw [← savF_eq (B := 200) (by omega) (by omega) (par_fit hp) (by omega) hi1]
  have H := Lib.hid hp; clear hp
  go_enter Try.func51, Try.ntmps51
  go_wp2_with fail
  refine (spec_plTotalA A c _ ls _ _ rfl (by omega) (par_lens H.out) hr.toAA).mono ?_
  rintro e w1 ⟨rfl, rfl⟩
  go_wp2_with fail
  refine (spec_plJoin A c _ ls i _ _ rfl (by omega) (par_lens H.out) hcap hi1 (par_rows H.out hi1) (fit_mono (par_fit H.out) (by omega)) hr.toAA).mono ?_
  rintro e w2 ⟨A2, c2, rfl, hc2, hR2, hE2⟩
  have hjl := joinL_len hi1
  have hjl2 : (joinL ls i).length ≤ 24 := by omega
  clear hjl
  go_wp2_with fail
  refine (spec_plTotalA A2 c2 _ (joinL ls i) _ _ rfl (by omega) (joinL_lens H.out i) hR2).mono ?_
  rintro e w3 ⟨rfl, rfl⟩
  go_wp2_with fail
  go_ret
  exact ⟨rfl, (by repeat (first | exact Ext.refl _ | assumption | refine Ext.trans ?_ (Ext.alloc _ _) | refine Ext.trans ?_ (Ext.drew _) | refine Ext.trans ?_ (Ext.drewN _ _) | refine Ext.trans ?_ (by assumption)))⟩
theorem impl_isMark (A : Option Addr) (c : Nat) (ls : List (List Int)) (i : Int) (lo hi : Nat) (w : World) (hl : ls.length ≤ 1048577) (hb : ∀ l ∈ ls, l.length ≤ 1048577) (hr : RdII w lo hi A ls) :
    Calls Try.prog 52 #[.slice A ls.length c, .int .i64 i] w fun e w' => e = .returned (.bool (isM ls i)) ∧ Ext w w' := by
  cases h : par ls
  · have hv : isM ls i = false := by simp [isM, h]
    rw [hv]; clear hv
    go_enter Try.func52, Try.ntmps52
    go_wp2_with (go_at_call 18; refine (impl_AreParallel A c ls lo hi _ hl hb hr).mono ?_; rintro e w1 ⟨rfl, hE1⟩; obtain ⟨hc1, hf1⟩ := bcell hE1; have hs1 := hE1.size; (try simp only [World.size_alloc] at hs1))
    go_ret
    exact ⟨rfl, (by repeat (first | exact Ext.refl _ | assumption | refine Ext.trans ?_ (Ext.alloc _ _) | refine Ext.trans ?_ (Ext.drew _) | refine Ext.trans ?_ (Ext.drewN _ _) | refine Ext.trans ?_ (by assumption)))⟩
  · have hv : isM ls i = inB i 0 ((ls.length : Int) - 2) := by simp [isM, h]
    rw [hv]; clear hv
    go_enter Try.func52, Try.ntmps52
    go_wp2_with (first | (go_at_call 18; refine (impl_AreParallel A c ls lo hi _ hl hb hr).mono ?_; rintro e w1 ⟨rfl, hE1⟩; obtain ⟨hc1, hf1⟩ := bcell hE1; have hs1 := hE1.size; (try simp only [World.size_alloc] at hs1)) | (go_at_call 50; refine (within_any _ _ _ _).mono ?_; rintro e w' ⟨rfl, rfl⟩))
    go_ret
    exact ⟨rfl, (by repeat (first | exact Ext.refl _ | assumption | refine Ext.trans ?_ (Ext.alloc _ _) | refine Ext.trans ?_ (Ext.drew _) | refine Ext.trans ?_ (Ext.drewN _ _) | refine Ext.trans ?_ (by assumption)))⟩
theorem impl_SavedBy (A : Option Addr) (c : Nat) (ls : List (List Int)) (i : Int) (lo hi : Nat) (w : World) (hl : ls.length ≤ 1048577) (hb : ∀ l ∈ ls, l.length ≤ 1048577) (hcap : ls.length ≤ c) (hr : RdII w lo hi A ls) :
    Calls Try.prog 42 #[.slice A ls.length c, .int .i64 i] w fun e w' => e = .returned (sbV ls i) ∧ Ext w w' := by
  cases h : isM ls i
  · rw [sbV_bad h]
    go_enter Try.func42, Try.ntmps42
    go_wp2_with (go_at_call 52; refine (impl_isMark A c ls i lo hi _ hl hb hr).mono ?_; rintro e w1 ⟨rfl, hE1⟩; obtain ⟨hc1, hf1⟩ := bcell hE1; have hs1 := hE1.size; (try simp only [World.size_alloc] at hs1))
    go_ret2
    exact ⟨rfl, (by repeat (first | exact Ext.refl _ | assumption | refine Ext.trans ?_ (Ext.alloc _ _) | refine Ext.trans ?_ (Ext.drew _) | refine Ext.trans ?_ (Ext.drewN _ _) | refine Ext.trans ?_ (by assumption)))⟩
  obtain ⟨hp, n, rfl, hn⟩ := isM_parts h
  rw [sbV_good h]
  go_enter Try.func42, Try.ntmps42
  go_wp2_with (go_at_call 52; refine (impl_isMark A c ls n lo hi _ hl hb hr).mono ?_; rintro e w1 ⟨rfl, hE1⟩; obtain ⟨hc1, hf1⟩ := bcell hE1; have hs1 := hE1.size; (try simp only [World.size_alloc] at hs1))
  refine (impl_savedBy A c ls n lo hi _ hl hp hn (hr.ext hE1)).mono ?_
  rintro e w2 ⟨rfl, hE2⟩
  go_wp2_with fail
  go_ret2
  exact ⟨rfl, (by repeat (first | exact Ext.refl _ | assumption | refine Ext.trans ?_ (Ext.alloc _ _) | refine Ext.trans ?_ (Ext.drew _) | refine Ext.trans ?_ (Ext.drewN _ _) | refine Ext.trans ?_ (by assumption)))⟩
theorem spec_SavedBy (A : Option Addr) (c : Nat) (ls : List (List Int)) (i : Int) (lo hi : Nat) (w : World) (hl : ls.length ≤ 1048577) (hb : ∀ l ∈ ls, l.length ≤ 1048577) (hcap : ls.length ≤ c) (hr : RdII w lo hi A ls) :
    Calls Try.prog 41 #[.slice A ls.length c, .int .i64 i] w fun e w' => e = .returned (sbV ls i) ∧ Ext w w' := by
  cases h0 : par ls
  · rw [sbV_bad (by simp [isM, h0])]
    go_enter Try.func41, Try.ntmps41
    go_wp2_with (go_at_call 48; refine (spec_plGood A c ls lo hi _ hl hb hr).mono ?_; rintro e w1 ⟨rfl, hE1⟩; obtain ⟨hc1, hf1⟩ := bcell hE1; have hs1 := hE1.size; (try simp only [World.size_alloc] at hs1))
    go_ret2
    exact ⟨rfl, (by repeat (first | exact Ext.refl _ | assumption | refine Ext.trans ?_ (Ext.alloc _ _) | refine Ext.trans ?_ (Ext.drew _) | refine Ext.trans ?_ (Ext.drewN _ _) | refine Ext.trans ?_ (by assumption)))⟩
  cases h1 : inB i 0 ((ls.length : Int) - 2)
  · rw [sbV_bad (by simp [isM, h1])]
    go_enter Try.func41, Try.ntmps41
    go_wp2_with (first | (go_at_call 48; refine (spec_plGood A c ls lo hi _ hl hb hr).mono ?_; rintro e w1 ⟨rfl, hE1⟩; obtain ⟨hc1, hf1⟩ := bcell hE1; have hs1 := hE1.size; (try simp only [World.size_alloc] at hs1)) | (go_at_call 64; refine (l1In_any _ _ _ _).mono ?_; rintro e w' ⟨rfl, rfl⟩))
    go_ret2
    exact ⟨rfl, (by repeat (first | exact Ext.refl _ | assumption | refine Ext.trans ?_ (Ext.alloc _ _) | refine Ext.trans ?_ (Ext.drew _) | refine Ext.trans ?_ (Ext.drewN _ _) | refine Ext.trans ?_ (by assumption)))⟩
  have h : isM ls i = true := by simp [isM, h0, h1]
  obtain ⟨hp, n, rfl, hn⟩ := isM_parts h
  rw [sbV_good h]
  go_enter Try.func41, Try.ntmps41
  go_wp2_with (first | (go_at_call 48; refine (spec_plGood A c ls lo hi _ hl hb hr).mono ?_; rintro e w1 ⟨rfl, hE1⟩; obtain ⟨hc1, hf1⟩ := bcell hE1; have hs1 := hE1.size; (try simp only [World.size_alloc] at hs1)) | (go_at_call 64; refine (l1In_any _ _ _ _).mono ?_; rintro e w' ⟨rfl, rfl⟩))
  refine (spec_plSaved A c ls n lo hi _ hp hcap hn (hr.ext hE1)).mono ?_
  rintro e w2 ⟨rfl, hE2⟩
  go_wp2_with fail
  go_ret2
  exact ⟨rfl, (by repeat (first | exact Ext.refl _ | assumption | refine Ext.trans ?_ (Ext.alloc _ _) | refine Ext.trans ?_ (Ext.drew _) | refine Ext.trans ?_ (Ext.drewN _ _) | refine Ext.trans ?_ (by assumption)))⟩
theorem isM0 {ls : List (List Int)} : isM ls 0 = (par ls && decide (2 ≤ ls.length)) := by
  rw [isM]; congr 1; rw [Bool.eq_iff_iff, inB_iff, decide_eq_true_eq]; omega
theorem impl_BestJoin (A : Option Addr) (c : Nat) (ls : List (List Int)) (lo hi : Nat) (w : World) (hl : ls.length ≤ 1048577) (hb : ∀ l ∈ ls, l.length ≤ 1048577) (hcap : ls.length ≤ c) (hr : RdII w lo hi A ls) :
    Calls Try.prog 21 #[.slice A ls.length c] w fun e w' => e = .returned (bjV ls) ∧ Ext w w' := by
  cases h : isM ls 0
  · rw [bjV_bad h]
    go_enter Try.func21, Try.ntmps21
    go_wp2_with (go_at_call 52; refine (impl_isMark A c ls 0 lo hi _ hl hb hr).mono ?_; rintro e w1 ⟨rfl, hE1⟩; obtain ⟨hc1, hf1⟩ := bcell hE1; have hs1 := hE1.size; (try simp only [World.size_alloc] at hs1))
    go_ret3
    exact ⟨rfl, (by repeat (first | exact Ext.refl _ | assumption | refine Ext.trans ?_ (Ext.alloc _ _) | refine Ext.trans ?_ (Ext.drew _) | refine Ext.trans ?_ (Ext.drewN _ _) | refine Ext.trans ?_ (by assumption)))⟩
  rw [bjV_good h]
  obtain ⟨hp, n0, hz0, hn0⟩ := isM_parts h
  have hn : 2 ≤ ls.length := by omega
  clear hn0 hz0
  go_enter Try.func21, Try.ntmps21
  go_wp2_with (go_at_call 52; refine (impl_isMark A c ls 0 lo hi _ hl hb hr).mono ?_; rintro e w1 ⟨rfl, hE1⟩; obtain ⟨hc1, hf1⟩ := bcell hE1; have hs1 := hE1.size; (try simp only [World.size_alloc] at hs1))
  have H := Lib.hid hp; clear h hp hc1 hf1
  go_loopw [5, 6] (fun bst i wr => ∃ k j : Nat, k ≤ ls.length - 1 ∧ i = .int .i64 k ∧ bst = .int .i64 j ∧ bjTo (savF ls) k = j ∧ j + 1 < ls.length ∧ Ext w wr) (fun _ i _ => ls.length - (intOf i).toNat)
  case atStart => exact ⟨0, 0, Nat.zero_le _, rfl, rfl, rfl, by omega, hE1⟩
  case round =>
    obtain ⟨k, j, hk, rfl, rfl, hj, hjl, hE⟩ := hrel
    have HJ := Lib.hid hj; clear hj
    by_cases hlt : k + 1 < ls.length
    · by_cases hs : savF ls j < savF ls k
      · go_wp2_with fail
        refine (impl_savedBy A c ls k lo hi _ hl H.out hlt (hr.ext hE)).mono ?_
        rintro e w2 ⟨rfl, hE2⟩
        go_wp2_with fail
        refine (impl_savedBy A c ls j lo hi _ hl H.out hjl (hr.ext (hE.trans hE2))).mono ?_
        rintro e w3 ⟨rfl, hE3⟩
        go_wp2_with fail
        go_roundw
        case rel => exact ⟨k + 1, k, by omega, by go_num, rfl, by rw [bjTo, HJ.out]; exact if_pos hs, by omega, (by repeat (first | exact Ext.refl _ | assumption | refine Ext.trans ?_ (Ext.alloc _ _) | refine Ext.trans ?_ (Ext.drew _) | refine Ext.trans ?_ (Ext.drewN _ _) | refine Ext.trans ?_ (by assumption)))⟩
        case measure => simp [intOf]; omega
      · go_wp2_with fail
        refine (impl_savedBy A c ls k lo hi _ hl H.out hlt (hr.ext hE)).mono ?_
        rintro e w2 ⟨rfl, hE2⟩
        go_wp2_with fail
        refine (impl_savedBy A c ls j lo hi _ hl H.out hjl (hr.ext (hE.trans hE2))).mono ?_
        rintro e w3 ⟨rfl, hE3⟩
        go_wp2_with fail
        go_roundw
        case rel => exact ⟨k + 1, j, by omega, by go_num, rfl, by rw [bjTo, HJ.out]; exact if_neg (by omega), by omega, (by repeat (first | exact Ext.refl _ | assumption | refine Ext.trans ?_ (Ext.alloc _ _) | refine Ext.trans ?_ (Ext.drew _) | refine Ext.trans ?_ (Ext.drewN _ _) | refine Ext.trans ?_ (by assumption)))⟩
        case measure => simp [intOf]; omega
    · have hkl : ls.length - 1 = k := by omega
      have HKL := Lib.hid hkl; clear hkl
      go_wp2_with fail
      refine (impl_savedBy A c ls j lo hi _ hl H.out hjl (hr.ext hE)).mono ?_
      rintro e w3 ⟨rfl, hE3⟩
      go_wp2_with fail
      go_ret3
      exact ⟨by rw [HKL.out, HJ.out]; rfl, (by repeat (first | exact Ext.refl _ | assumption | refine Ext.trans ?_ (Ext.alloc _ _) | refine Ext.trans ?_ (Ext.drew _) | refine Ext.trans ?_ (Ext.drewN _ _) | refine Ext.trans ?_ (by assumption)))⟩
theorem spec_BestJoin (A : Option Addr) (c : Nat) (ls : List (List Int)) (lo hi : Nat) (w : World) (hl : ls.length ≤ 1048577) (hb : ∀ l ∈ ls, l.length ≤ 1048577) (hcap : ls.length ≤ c) (hr : RdII w lo hi A ls) :
    Calls Try.prog 20 #[.slice A ls.length c] w fun e w' => e = .returned (bjV ls) ∧ Ext w w' := by
  cases hp : par ls
  · rw [bjV_bad (by simp [isM, hp])]
    go_enter Try.func20, Try.ntmps20
    go_wp2_with (go_at_call 48; refine (spec_plGood A c ls lo hi _ hl hb hr).mono ?_; rintro e w1 ⟨rfl, hE1⟩; obtain ⟨hc1, hf1⟩ := bcell hE1; have hs1 := hE1.size; (try simp only [World.size_alloc] at hs1))
    go_ret3
    exact ⟨rfl, (by repeat (first | exact Ext.refl _ | assumption | refine Ext.trans ?_ (Ext.alloc _ _) | refine Ext.trans ?_ (Ext.drew _) | refine Ext.trans ?_ (Ext.drewN _ _) | refine Ext.trans ?_ (by assumption)))⟩
  by_cases hn : 2 ≤ ls.length
  case neg =>
    rw [bjV_bad (by rw [isM0]; simp; intro; omega)]
    go_enter Try.func20, Try.ntmps20
    go_wp2_with (go_at_call 48; refine (spec_plGood A c ls lo hi _ hl hb hr).mono ?_; rintro e w1 ⟨rfl, hE1⟩; obtain ⟨hc1, hf1⟩ := bcell hE1; have hs1 := hE1.size; (try simp only [World.size_alloc] at hs1))
    go_ret3
    exact ⟨rfl, (by repeat (first | exact Ext.refl _ | assumption | refine Ext.trans ?_ (Ext.alloc _ _) | refine Ext.trans ?_ (Ext.drew _) | refine Ext.trans ?_ (Ext.drewN _ _) | refine Ext.trans ?_ (by assumption)))⟩
  rw [bjV_good (by rw [isM0, hp]; simp; omega)]
  go_enter Try.func20, Try.ntmps20
  go_wp2_with (go_at_call 48; refine (spec_plGood A c ls lo hi _ hl hb hr).mono ?_; rintro e w1 ⟨rfl, hE1⟩; obtain ⟨hc1, hf1⟩ := bcell hE1; have hs1 := hE1.size; (try simp only [World.size_alloc] at hs1))
  have H := Lib.hid hp; clear hp hc1 hf1
  go_loopw [5, 6] (fun bst i wr => ∃ k j : Nat, k ≤ ls.length - 1 ∧ i = .int .i64 k ∧ bst = .int .i64 j ∧ bjTo (savF ls) k = j ∧ j + 1 < ls.length ∧ Ext w wr) (fun _ i _ => ls.length - (intOf i).toNat)
  case atStart => exact ⟨0, 0, Nat.zero_le _, rfl, rfl, rfl, by omega, hE1⟩
  case round =>
    obtain ⟨k, j, hk, rfl, rfl, hj, hjl, hE⟩ := hrel
    have HJ := Lib.hid hj; clear hj
    by_cases hlt : k + 1 < ls.length
    · by_cases hs : savF ls j < savF ls k
      · go_wp2_with fail
        refine (spec_plSaved A c ls k lo hi _ H.out hcap hlt (hr.ext hE)).mono ?_
        rintro e w2 ⟨rfl, hE2⟩
        go_wp2_with fail
        refine (spec_plSaved A c ls j lo hi _ H.out hcap hjl (hr.ext (hE.trans hE2))).mono ?_
        rintro e w3 ⟨rfl, hE3⟩
        go_wp2_with fail
        go_roundw
        case rel => exact ⟨k + 1, k, by omega, by go_num, rfl, by rw [bjTo, HJ.out]; exact if_pos hs, by omega, (by repeat (first | exact Ext.refl _ | assumption | refine Ext.trans ?_ (Ext.alloc _ _) | refine Ext.trans ?_ (Ext.drew _) | refine Ext.trans ?_ (Ext.drewN _ _) | refine Ext.trans ?_ (by assumption)))⟩
        case measure => simp [intOf]; omega
      · go_wp2_with fail
        refine (spec_plSaved A c ls k lo hi _ H.out hcap hlt (hr.ext hE)).mono ?_
        rintro e w2 ⟨rfl, hE2⟩
        go_wp2_with fail
        refine (spec_plSaved A c ls j lo hi _ H.out hcap hjl (hr.ext (hE.trans hE2))).mono ?_
        rintro e w3 ⟨rfl, hE3⟩
        go_wp2_with fail
        go_roundw
        case rel => exact ⟨k + 1, j, by omega, by go_num, rfl, by rw [bjTo, HJ.out]; exact if_neg (by omega), by omega, (by repeat (first | exact Ext.refl _ | assumption | refine Ext.trans ?_ (Ext.alloc _ _) | refine Ext.trans ?_ (Ext.drew _) | refine Ext.trans ?_ (Ext.drewN _ _) | refine Ext.trans ?_ (by assumption)))⟩
        case measure => simp [intOf]; omega
    · have hkl : ls.length - 1 = k := by omega
      have HKL := Lib.hid hkl; clear hkl
      go_wp2_with fail
      refine (spec_plSaved A c ls j lo hi _ H.out hcap hjl (hr.ext hE)).mono ?_
      rintro e w3 ⟨rfl, hE3⟩
      go_wp2_with fail
      go_ret3
      exact ⟨by rw [HKL.out, HJ.out]; rfl, (by repeat (first | exact Ext.refl _ | assumption | refine Ext.trans ?_ (Ext.alloc _ _) | refine Ext.trans ?_ (Ext.drew _) | refine Ext.trans ?_ (Ext.drewN _ _) | refine Ext.trans ?_ (by assumption)))⟩
end Go.Proofs.Ytnhddepmhelgiaa
