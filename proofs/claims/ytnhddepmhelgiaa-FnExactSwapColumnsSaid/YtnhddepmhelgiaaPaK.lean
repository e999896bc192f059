/- The walks of JoinRows. -/
import Derived.Test.YtnhddepmhelgiaaPaJ
import Derived.Test.YtnhddepmhelgiaaNestM
namespace Go.Proofs.Ytnhddepmhelgiaa
open Go.RowKit
set_option linter.unusedVariables false
theorem RdII.wide {w : World} {lo hi lo' : Nat} {A : Option Addr} {ls : List (List Int)} (h : RdII w lo hi A ls) (h1 : lo' ≤ lo) : RdII w lo' hi A ls := by
  obtain ⟨rs, p0, q0, g1, g2, g3, g4, g5, g6, g7⟩ := h
  exact ⟨rs, p0, q0, g1, by omega, g3, g4, g5, fun i r l hr hl => by obtain ⟨k1, k2, k3, k4, k5⟩ := g6 i r l hr hl; exact ⟨k1, k2, by omega, k4, k5⟩, g7⟩
theorem RdII.wideHi {w : World} {lo hi hi' : Nat} {A : Option Addr} {ls : List (List Int)} (h : RdII w lo hi A ls) (h1 : hi ≤ hi') (h2 : hi' ≤ w.heap.size) : RdII w lo hi' A ls := by
  obtain ⟨rs, p0, q0, g1, g2, g3, g4, g5, g6, g7⟩ := h
  exact ⟨rs, p0, q0, g1, g2, by omega, h2, g5, fun i r l hr hl => by obtain ⟨k1, k2, k3, k4, k5⟩ := g6 i r l hr hl; exact ⟨k1, k2, k3, by omega, k5⟩, g7⟩
theorem jTo_len (ls : List (List Int)) (i : Nat) (k : Nat) : (jTo ls i k).length ≤ k := by
  induction k with
  | zero => simp [jTo]
  | succ k ih =>
    rw [jTo]
    split
    · simp; omega
    · split
      · omega
      · simp; omega
theorem impl_JoinRows (A : Option Addr) (c : Nat) (ls : List (List Int)) (i : Int) (lo hi : Nat) (w : World) (hl : ls.length ≤ 1048577) (hb : ∀ l ∈ ls, l.length ≤ 1048577) (hcap : ls.length ≤ c) (hr : RdII w lo hi A ls) :
    Calls Try.prog 31 #[.slice A ls.length c, .int .i64 i] w (RetII2 w (jrP ls i)) := by
  cases h : isM ls i
  · rw [jrP_bad (by simp [h])]
    go_enter Try.func31, Try.ntmps31
    go_wp2_with (go_at_call 52; refine (impl_isMark A c ls i lo hi _ hl hb hr).mono ?_; rintro e w1 ⟨rfl, hE1⟩; obtain ⟨hc1, hf1⟩ := bcell hE1; have hs1 := hE1.size; (try simp only [World.size_alloc] at hs1))
    go_ret2
    exact retII2_lit (by repeat (first | exact Ext.refl _ | assumption | refine Ext.trans ?_ (Ext.alloc _ _) | refine Ext.trans ?_ (Ext.drew _) | refine Ext.trans ?_ (Ext.drewN _ _) | refine Ext.trans ?_ (by assumption)))
  obtain ⟨hp, n, rfl, hn⟩ := isM_parts h
  have h24 := par_len hp
  obtain ⟨P, hP⟩ : ∃ P, P = jrP ls n := ⟨_, rfl⟩
  rw [← hP]
  have HP := Lib.hid hP; clear hP
  go_enter Try.func31, Try.ntmps31
  go_wp2_with (go_at_call 52; refine (impl_isMark A c ls n lo hi _ hl hb hr).mono ?_; rintro e w1 ⟨rfl, hE1⟩; obtain ⟨hc1, hf1⟩ := bcell hE1; have hs1 := hE1.size; (try simp only [World.size_alloc] at hs1))
  have H := Lib.hid hp; have HM := Lib.hid h; have HB := Lib.hid hb
  clear h hp hc1 hf1 hb
  go_loopw [6, 17] (fun v j wr => ∃ (k : Nat) (rs : List Row), k ≤ ls.length ∧ j = .int .i64 k ∧ GrowII wr w.heap.size 29 v (jTo ls n k) rs ∧ Ext w wr) (fun _ j _ => ls.length - (intOf j).toNat)
  case atStart => exact ⟨0, [], Nat.zero_le _, rfl, GrowII.of0 (own_lit0 _ _ hs1 (Ext.refl _)), (by repeat (first | exact Ext.refl _ | assumption | refine Ext.trans ?_ (Ext.alloc _ _) | refine Ext.trans ?_ (Ext.drew _) | refine Ext.trans ?_ (Ext.drewN _ _) | refine Ext.trans ?_ (by assumption)))⟩
  case round =>
    obtain ⟨k, rs, hk, rfl, hG, hE⟩ := hrel
    have hjl := jTo_len ls n k
    have hsz := hE.size
    by_cases hlt : k < ls.length
    · obtain ⟨⟨ra, rc, rp, rq⟩, a, b, off, HX1, rfl, h3, d1, _, hR1, _, _⟩ := RdII.get (hr.ext hE) hlt
      simp only at d1 hR1
      have hla := HB.out a (List.mem_of_getElem? HX1.out)
      obtain ⟨hz1, ha6, fa⟩ := par_row H.out HX1.out
      have FA : Hid (∀ x ∈ a, 0 ≤ x ∧ x ≤ 1000000) := fun x hx => by have := fa x hx; omega
      clear fa hz1
      by_cases hkn : k = n
      · subst hkn
        obtain ⟨⟨sa, sc, sp, sq⟩, a2, b', off', HX2, eA, _, d2, _, hR2, _, _⟩ := RdII.get (hr.ext hE) hn
        injection eA with eA; injection eA with eb eo _; subst eb; subst eo
        simp only at d2 hR2
        have he : a.length = a2.length := by have := par_rows H.out hn; rwa [rowAt_of HX1.out, rowAt_of HX2.out] at this
        obtain ⟨hz2, _, fa2⟩ := par_row H.out HX2.out
        have FA2 : Hid (∀ x ∈ a2, 0 ≤ x ∧ x ≤ 1000000) := fun x hx => by have := fa2 x hx; omega
        have HS : Hid (jTo ls k (k + 1) = jTo ls k k ++ [joinR a a2]) := by show _ = _; rw [jTo, if_pos rfl, rowAt_of HX1.out, rowAt_of HX2.out]
        have HE := Lib.hid he
        clear he hz2 fa2
        go_wp2_with fail
        refine (impl_joined ra sa rc sc _ _ a a2 _ _ _ _ _ rfl rfl (by omega) HE.out FA.out FA2.out hR1 hR2).mono ?_
        rintro e w3 ⟨A3, c3, rfl, hc3, hR3, hE3⟩
        go_wp2_with (first | (at_builtin; refine wp_app _ w rfl (.tmp 32) (.tmp 40) 22 rfl 29 _ 1 24 Try.underlying22 sliceInfo rfl (by omega) _ _ _ rfl (ownsRow_ext hG.2.1 (hE3.trans (Ext.alloc _ _))) (by repeat (first | exact Ext.refl _ | assumption | refine Ext.trans ?_ (Ext.alloc _ _) | refine Ext.trans ?_ (Ext.drew _) | refine Ext.trans ?_ (Ext.drewN _ _) | refine Ext.trans ?_ (by assumption))) _ _ _ 1 1 [.slice A3 (joinR a a2).length c3] rfl rfl (rdA_new rfl (Ext.refl _)) (by simp [Value.oneCell']) (by omega) (by simp) ?_; intro v4 w4 hown4 hE4 hg4 hat4))
        go_roundw
        case rel => exact ⟨k + 1, _, by omega, by go_num, by rw [HS.out]; exact hG.push hE3 hc3 hR3 hsz hown4 _ hg4 hat4, hE4⟩
        case measure => simp [intOf]; omega
      · have t1 : ((k : Int) == (n : Int)) = false := by rw [beq_eq_false_iff_ne]; omega
        by_cases hkn1 : k = n + 1
        · subst hkn1
          have HS : Hid (jTo ls n (n + 1 + 1) = jTo ls n (n + 1)) := by show _ = _; rw [jTo, if_neg (by omega), if_pos rfl]
          clear hkn
          go_wp2
          go_roundw
          case rel => exact ⟨n + 1 + 1, rs, by omega, by go_num, by rw [HS.out]; exact hG, hE⟩
          case measure => simp [intOf]; omega
        · have t2 : ((k : Int) == (n : Int) + 1) = false := by rw [beq_eq_false_iff_ne]; omega
          have HS : Hid (jTo ls n (k + 1) = jTo ls n k ++ [a]) := by show _ = _; rw [jTo, if_neg hkn, if_neg hkn1, rowAt_of HX1.out]
          obtain ⟨x0, b1, off1, HX0, rfl, _, _, h4, _, _⟩ := RdI.get hR1 (k := 0) (by omega)
          clear hkn hkn1
          go_wp2_with (first | (at_builtin; refine wp_app _ wr rfl (.tmp 24) (.tmp 25) 29 rfl 3 _ 1 8 Try.underlying29 intInfo0 rfl (by omega) _ 0 [] rfl (own_lit0 _ _ (Nat.le_refl _) (Ext.refl _)) (by repeat (first | exact Ext.refl _ | assumption | refine Ext.trans ?_ (Ext.alloc _ _) | refine Ext.trans ?_ (Ext.drew _) | refine Ext.trans ?_ (Ext.drewN _ _) | refine Ext.trans ?_ (by assumption))) _ _ _ a.length _ (a.map (Value.int .i64)) rfl (by simp) (Rd.toA (hR1.ext (by repeat (first | exact Ext.refl _ | assumption | refine Ext.trans ?_ (Ext.alloc _ _) | refine Ext.trans ?_ (Ext.drew _) | refine Ext.trans ?_ (Ext.drewN _ _) | refine Ext.trans ?_ (by assumption))))) (ints_one a) (by omega) (by simp) ?_; intro v3 w3 hown3 hE3 hg3 hat3; rw [Nat.zero_add, List.nil_append] at hown3; obtain ⟨A3, c3, rfl, hc3, _⟩ := own_form hown3; have hR3 : RdI w3 wr.heap.size w3.heap.size A3 a := Rd.of_own hown3; clear hg3 hat3 hown3) | (at_builtin; refine wp_app _ w rfl (.tmp 23) (.tmp 27) 22 rfl 29 _ 1 24 Try.underlying22 sliceInfo rfl (by omega) _ _ _ rfl (ownsRow_ext hG.2.1 (hE3.trans (Ext.alloc _ _))) (by repeat (first | exact Ext.refl _ | assumption | refine Ext.trans ?_ (Ext.alloc _ _) | refine Ext.trans ?_ (Ext.drew _) | refine Ext.trans ?_ (Ext.drewN _ _) | refine Ext.trans ?_ (by assumption))) _ _ _ 1 1 [.slice A3 a.length c3] rfl rfl (rdA_new rfl (Ext.refl _)) (by simp [Value.oneCell']) (by omega) (by simp) ?_; intro v4 w4 hown4 hE4 hg4 hat4))
          go_roundw
          case rel => exact ⟨k + 1, _, by omega, by go_num, by rw [HS.out]; exact hG.push hE3 hc3 hR3 hsz hown4 _ hg4 hat4, hE4⟩
          case measure => simp [intOf]; omega
    · have hkl : k = ls.length := by omega
      subst hkl
      clear hlt hjl
      rw [jTo_all hn] at hG
      obtain ⟨A', c', rfl, hc'⟩ := hG.form
      have hRR := hG.rd hsz
      have hjl2 := joinL_len hn
      have hjl : (joinL ls n).length ≤ 24 := by omega
      clear hjl2
      cases h2 : par (joinL ls n)
      · have HPB : Hid (P = ([], false)) := by show _ = _; rw [HP.out]; exact jrP_bad (by simp [h2])
        go_wp2_with (go_at_call 18; refine (impl_AreParallel A' c' (joinL ls n) _ _ _ (by omega) (joinL_lens H.out n) hRR).mono ?_; rintro e w5 ⟨rfl, hE5⟩; obtain ⟨hc5, hf5⟩ := bcell hE5; have hs5 := hE5.size; (try simp only [World.size_alloc] at hs5))
        go_ret2
        rw [HPB.out]
        exact retII2_lit (by repeat (first | exact Ext.refl _ | assumption | refine Ext.trans ?_ (Ext.alloc _ _) | refine Ext.trans ?_ (Ext.drew _) | refine Ext.trans ?_ (Ext.drewN _ _) | refine Ext.trans ?_ (by assumption)))
      · have HPG : Hid (P = (joinL ls n, true)) := by show _ = _; rw [HP.out]; exact jrP_good HM.out h2
        go_wp2_with (go_at_call 18; refine (impl_AreParallel A' c' (joinL ls n) _ _ _ (by omega) (joinL_lens H.out n) hRR).mono ?_; rintro e w5 ⟨rfl, hE5⟩; obtain ⟨hc5, hf5⟩ := bcell hE5; have hs5 := hE5.size; (try simp only [World.size_alloc] at hs5))
        go_ret2
        rw [HPG.out]
        exact ⟨A', c', rfl, hc', (hRR.ext hE5).wideHi hE5.size (Nat.le_refl _), (by repeat (first | exact Ext.refl _ | assumption | refine Ext.trans ?_ (Ext.alloc _ _) | refine Ext.trans ?_ (Ext.drew _) | refine Ext.trans ?_ (Ext.drewN _ _) | refine Ext.trans ?_ (by assumption)))⟩
theorem spec_JoinRows (A : Option Addr) (c : Nat) (ls : List (List Int)) (i : Int) (lo hi : Nat) (w : World) (hl : ls.length ≤ 1048577) (hb : ∀ l ∈ ls, l.length ≤ 1048577) (hcap : ls.length ≤ c) (hr : RdII w lo hi A ls) :
    Calls Try.prog 30 #[.slice A ls.length c, .int .i64 i] w (RetII2 w (jrP ls i)) := by
  cases h0 : par ls
  · rw [jrP_bad (by simp [isM, h0])]
    go_enter Try.func30, Try.ntmps30
    go_wp2_with (go_at_call 48; refine (spec_plGood A c ls lo hi _ hl hb hr).mono ?_; rintro e w1 ⟨rfl, hE1⟩; obtain ⟨hc1, hf1⟩ := bcell hE1; have hs1 := hE1.size; (try simp only [World.size_alloc] at hs1))
    go_ret2
    exact retII2_lit (by repeat (first | exact Ext.refl _ | assumption | refine Ext.trans ?_ (Ext.alloc _ _) | refine Ext.trans ?_ (Ext.drew _) | refine Ext.trans ?_ (Ext.drewN _ _) | refine Ext.trans ?_ (by assumption)))
  cases h1 : inB i 0 ((ls.length : Int) - 2)
  · rw [jrP_bad (by simp [isM, h1])]
    go_enter Try.func30, Try.ntmps30
    go_wp2_with (first | (go_at_call 48; refine (spec_plGood A c ls lo hi _ hl hb hr).mono ?_; rintro e w1 ⟨rfl, hE1⟩; obtain ⟨hc1, hf1⟩ := bcell hE1; have hs1 := hE1.size; (try simp only [World.size_alloc] at hs1)) | (go_at_call 64; refine (l1In_any _ _ _ _).mono ?_; rintro e w' ⟨rfl, rfl⟩))
    go_ret2
    exact retII2_lit (by repeat (first | exact Ext.refl _ | assumption | refine Ext.trans ?_ (Ext.alloc _ _) | refine Ext.trans ?_ (Ext.drew _) | refine Ext.trans ?_ (Ext.drewN _ _) | refine Ext.trans ?_ (by assumption)))
  have h : isM ls i = true := by simp [isM, h0, h1]
  obtain ⟨hp, n, rfl, hn⟩ := isM_parts h
  have h24 := par_len hp
  obtain ⟨P, hP⟩ : ∃ P, P = jrP ls n := ⟨_, rfl⟩
  rw [← hP]
  have HP := Lib.hid hP; clear hP
  go_enter Try.func30, Try.ntmps30
  go_wp2_with (first | (go_at_call 48; refine (spec_plGood A c ls lo hi _ hl hb hr).mono ?_; rintro e w1 ⟨rfl, hE1⟩; obtain ⟨hc1, hf1⟩ := bcell hE1; have hs1 := hE1.size; (try simp only [World.size_alloc] at hs1)) | (go_at_call 64; refine (l1In_any _ _ _ _).mono ?_; rintro e w' ⟨rfl, rfl⟩))
  have H := Lib.hid hp; have HM := Lib.hid h; have HB := Lib.hid hb
  clear h hp hc1 hf1 hb h0 h1
  refine (spec_plJoin A c _ ls n _ _ rfl (by omega) (par_lens H.out) hcap hn (par_rows H.out hn) (fit_mono (par_fit H.out) (by omega)) (hr.ext hE1).toAA).mono ?_
  rintro e w2 ⟨A2, c2, rfl, hc2, hR2, hE2⟩
  have hs2 := hE2.size
  have hjl2 := joinL_len hn
  have hjl : (joinL ls n).length ≤ 24 := by omega
  clear hjl2
  obtain ⟨js, hjs⟩ : ∃ js, js = joinL ls n := ⟨_, rfl⟩
  rw [← hjs] at hR2 hc2 hjl ⊢
  have HJS := Lib.hid hjs; clear hjs
  have HLN : Hid (∀ l ∈ js, l.length ≤ 1048577) := by show ∀ l ∈ js, _; rw [HJS.out]; exact joinL_lens H.out n
  go_wp2_with fail
  go_loopw [6, 24] (fun v j wr => ∃ (k : Nat) (rs : List Row), k ≤ js.length ∧ j = .int .i64 k ∧ GrowII wr w2.heap.size 29 v (js.take k) rs ∧ Ext w2 wr) (fun _ j _ => js.length - (intOf j).toNat)
  case atStart => exact ⟨0, [], Nat.zero_le _, rfl, GrowII.of0 (own_nil _ _ _ _), Ext.refl _⟩
  case round =>
    obtain ⟨k, rs, hk, rfl, hG, hE⟩ := hrel
    have hsz := hE.size
    by_cases hlt : k < js.length
    · obtain ⟨B, c', l, b, off, HX, rfl, h3, d1, hR1⟩ := RdAA.get (hR2.ext hE) hlt
      have hla := HLN.out l (List.mem_of_getElem? HX.out)
      have HS := Lib.hid (take_snoc HX.out)
      have hlk : (js.take k).length ≤ k := by simp; omega
      go_wp2_with fail
      refine (spec_l1Own B c' _ l _ _ _ rfl hla hR1).mono ?_
      rintro e w3 ⟨A3, c3, rfl, hc3, hR3, hE3⟩
      go_wp2_with (first | (at_builtin; refine wp_app _ w2 rfl (.tmp 28) (.tmp 31) 22 rfl 29 _ 1 24 Try.underlying22 sliceInfo rfl (by omega) _ _ _ rfl (ownsRow_ext hG.2.1 (hE3.trans (Ext.alloc _ _))) (by repeat (first | exact Ext.refl _ | assumption | refine Ext.trans ?_ (Ext.alloc _ _) | refine Ext.trans ?_ (Ext.drew _) | refine Ext.trans ?_ (Ext.drewN _ _) | refine Ext.trans ?_ (by assumption))) _ _ _ 1 1 [.slice A3 l.length c3] rfl rfl (rdA_new rfl (Ext.refl _)) (by simp [Value.oneCell']) (by omega) (by simp) ?_; intro v4 w4 hown4 hE4 hg4 hat4))
      go_roundw
      case rel => exact ⟨k + 1, _, by omega, by go_num, by rw [HS.out]; exact hG.push hE3 hc3 hR3 hsz hown4 _ hg4 hat4, hE4⟩
      case measure => simp [intOf]; omega
    · have hkl : k = js.length := by omega
      subst hkl
      clear hlt
      rw [List.take_of_length_le (Nat.le_refl _)] at hG
      obtain ⟨A', c', rfl, hc'⟩ := hG.form
      have hRR := hG.rd hsz
      cases h2 : par js
      · have HPB : Hid (P = ([], false)) := by show _ = _; rw [HP.out]; exact jrP_bad (by rw [Int.toNat_natCast, ← HJS.out, h2]; simp)
        go_wp2_with (go_at_call 48; refine (spec_plGood A' c' js _ _ _ (by omega) HLN.out hRR).mono ?_; rintro e w5 ⟨rfl, hE5⟩; obtain ⟨hc5, hf5⟩ := bcell hE5; have hs5 := hE5.size; (try simp only [World.size_alloc] at hs5))
        go_ret2
        rw [HPB.out]
        exact retII2_lit (by repeat (first | exact Ext.refl _ | assumption | refine Ext.trans ?_ (Ext.alloc _ _) | refine Ext.trans ?_ (Ext.drew _) | refine Ext.trans ?_ (Ext.drewN _ _) | refine Ext.trans ?_ (by assumption)))
      · have HPG : Hid (P = (js, true)) := by show _ = _; rw [HP.out, HJS.out]; exact jrP_good HM.out (by rw [← HJS.out]; exact h2)
        go_wp2_with (go_at_call 48; refine (spec_plGood A' c' js _ _ _ (by omega) HLN.out hRR).mono ?_; rintro e w5 ⟨rfl, hE5⟩; obtain ⟨hc5, hf5⟩ := bcell hE5; have hs5 := hE5.size; (try simp only [World.size_alloc] at hs5))
        go_ret2
        rw [HPG.out]
        exact ⟨A', c', rfl, hc', ((hRR.ext hE5).wideHi hE5.size (Nat.le_refl _)).wide (by omega), (by repeat (first | exact Ext.refl _ | assumption | refine Ext.trans ?_ (Ext.alloc _ _) | refine Ext.trans ?_ (Ext.drew _) | refine Ext.trans ?_ (Ext.drewN _ _) | refine Ext.trans ?_ (by assumption)))⟩
end Go.Proofs.Ytnhddepmhelgiaa
