/- The walks of NotesOnPages. -/
import Derived.Test.YtblecbdkpjmfeaaPgH
import Derived.Test.YtblecbdkpjmfeaaFill
namespace Go.Proofs.Ytblecbdkpjmfeaa
open Go.RowKit
set_option linter.unusedVariables false
/-- How many lines have a note. -/
def cntN (l : List SetL) : Nat := (l.filter fun x => decide (0 < x.note)).length
theorem cntN_le (l : List SetL) : cntN l ≤ l.length := List.length_filter_le _ _
theorem cntN_snoc {l : List SetL} {k : Nat} {x : SetL} (h : l[k]? = some x) : cntN (l.take (k + 1)) = cntN (l.take k) + if 0 < x.note then 1 else 0 := by
  rw [take_snoc h, cntN, List.filter_append, List.length_append]
  by_cases hx : 0 < x.note <;> simp [hx, cntN]
theorem cut_take {l : List SetL} {i k : Nat} {x : SetL} (h : l[k]? = some x) (hi : i ≤ k) : cutL l i (k + 1) = cutL l i k ++ [x] := by
  have hk : k < l.length := (List.getElem?_eq_some_iff.1 h).1
  rw [cutL, take_snoc h, List.drop_append_of_le_length (by simp; omega)]; rfl
theorem cntN_cut {l : List SetL} {i k : Nat} {x : SetL} (h : l[k]? = some x) (hi : i ≤ k) : cntN (cutL l i (k + 1)) = cntN (cutL l i k) + if 0 < x.note then 1 else 0 := by
  rw [cut_take h hi, cntN, List.filter_append, List.length_append]
  by_cases hx : 0 < x.note <;> simp [hx, cntN]
theorem cut_empty {l : List SetL} {i k : Nat} (h : k ≤ i) : cutL l i k = [] := by
  rw [cutL, List.drop_eq_nil_of_le (by simp; omega)]
def ntL (l : List SetL) (ends : List Int) (k : Nat) : List Int := (List.range k).map fun p => (cntN (cutL l (fr ends p) (endAt ends p)) : Int)
theorem ntL_len (l : List SetL) (ends : List Int) (k : Nat) : (ntL l ends k).length = k := by simp [ntL]
theorem ntL_succ (l : List SetL) (ends : List Int) (k : Nat) : ntL l ends (k + 1) = ntL l ends k ++ [(cntN (cutL l (fr ends k) (endAt ends k)) : Int)] := by simp [ntL, List.range_succ]
def ntP (l : List SetL) (ends : List Int) : List Int × Bool := if areE l ends then (ntL l ends ends.length, true) else ([], false)
theorem ntP_bad {l : List SetL} {ends : List Int} (h : areE l ends = false) : ntP l ends = ([], false) := by simp only [ntP, h]; rfl
theorem ntP_good {l : List SetL} {ends : List Int} (h : areE l ends = true) : ntP l ends = (ntL l ends ends.length, true) := by simp only [ntP, h]; rfl
theorem ntP_len (l : List SetL) (ends : List Int) : (ntP l ends).1.length ≤ 4000000 := by
  cases h : areE l ends
  · rw [ntP_bad h]; simp
  · rw [ntP_good h]; have := areE_parts h; simp only [ntL_len]; omega
theorem impl_NotesOnPages (A B : Option Addr) (c d : Nat) (l : List SetL) (ends : List Int) (lo hi lo' hi' : Nat) (w : World) (hl : l.length ≤ 1048577) (hl' : ends.length ≤ 1048577) (hcap : l.length ≤ c) (hq : InRS l) (hr : RdS w lo hi A l) (hr' : RdI w lo' hi' B ends) :
    Calls Try.prog 33 #[.slice A l.length c, .slice B ends.length d] w (RetI2 w (ntP l ends)) := by
  cases h : areE l ends
  · rw [ntP_bad h]
    go_enter Try.func33, Try.ntmps33
    go_wp2_with (go_at_call 48; refine (impl_areEnds A B c d l ends lo hi lo' hi' _ hl hl' hq hr hr').mono ?_; rintro e w1 ⟨rfl, hE1⟩; obtain ⟨hc1, hf1⟩ := bcell hE1; have hs1 := hE1.size; (try simp only [World.size_alloc] at hs1))
    go_ret2
    exact retI2_lit (by repeat (first | exact Ext.refl _ | assumption | refine Ext.trans ?_ (Ext.alloc _ _) | refine Ext.trans ?_ (Ext.drew _) | refine Ext.trans ?_ (Ext.drewN _ _) | refine Ext.trans ?_ (by assumption)))
  rw [ntP_good h]
  obtain ⟨_, hn0, _, _, hl40, he40⟩ := areE_parts h
  obtain ⟨_, b, off, _, rfl, _, _, g3, _, _, _⟩ := RdS.get hr (k := 0) (gal_pos h)
  go_enter Try.func33, Try.ntmps33
  go_wp2_with (go_at_call 48; refine (impl_areEnds _ B c d l ends lo hi lo' hi' _ hl hl' hq hr hr').mono ?_; rintro e w1 ⟨rfl, hE1⟩; obtain ⟨hc1, hf1⟩ := bcell hE1; have hs1 := hE1.size; (try simp only [World.size_alloc] at hs1))
  have H := Lib.hid h; clear h hc1 hf1
  refine (impl_pagesOf B b off c d l ends lo hi lo' hi' _ H.out hcap (hr.ext (by repeat (first | exact Ext.refl _ | assumption | refine Ext.trans ?_ (Ext.alloc _ _) | refine Ext.trans ?_ (Ext.drew _) | refine Ext.trans ?_ (Ext.drewN _ _) | refine Ext.trans ?_ (by assumption)))) (hr'.ext (by repeat (first | exact Ext.refl _ | assumption | refine Ext.trans ?_ (Ext.alloc _ _) | refine Ext.trans ?_ (Ext.drew _) | refine Ext.trans ?_ (Ext.drewN _ _) | refine Ext.trans ?_ (by assumption))))).mono ?_
  rintro e w2 ⟨A2, c2, rfl, hR2, hE2⟩
  rw [pageVs_len]
  have hs2 := hE2.size
  simp only [World.size_alloc] at hs2
  obtain ⟨L2, hL2⟩ : ∃ L, L = (w1.alloc (.cells #[] 3)).heap.size := ⟨_, rfl⟩
  obtain ⟨H2, hH2⟩ : ∃ H, H = w2.heap.size := ⟨_, rfl⟩
  rw [← hL2, ← hH2] at hR2
  have hL3 : w1.heap.size < L2 := by rw [hL2]; simp
  clear hL2 hH2
  go_wp2_with fail
  go_loopw [6, 22] (fun v i wr => ∃ k : Nat, k ≤ ends.length ∧ i = .int .i64 k ∧ wr.ownsRow w.heap.size 3 1 v k ((ntL l ends k).map (Value.int .i64)) ∧ Rd wr L2 H2 A2 (pageVs b off c ends ends.length) ∧ Apart v L2 H2 ∧ Ext w wr) (fun _ i _ => ends.length - (intOf i).toNat)
  case atStart => exact ⟨0, Nat.zero_le _, rfl, own_lit0 _ _ hs1 hE2, hR2, Apart.at_ (.inl hL3), (by repeat (first | exact Ext.refl _ | assumption | refine Ext.trans ?_ (Ext.alloc _ _) | refine Ext.trans ?_ (Ext.drew _) | refine Ext.trans ?_ (Ext.drewN _ _) | refine Ext.trans ?_ (by assumption)))⟩
  case round =>
    obtain ⟨k, hk, rfl, hown, hR2, hap, hE⟩ := hrel
    obtain ⟨wo, rfl⟩ : ∃ wo : World, wo = wr := ⟨_, rfl⟩
    by_cases hlt : k < ends.length
    · obtain ⟨b2, off2, rfl, _, _, h3, hc⟩ := Rd.at_ hR2 (k := k) (by rw [pageVs_len]; exact hlt)
      have hcell := (hc k (pageV b off c ends k) (by simp [pageVs, hlt])).1
      have h1 := fr_lt H.out hlt
      have h2 := ends_le H.out hlt
      rw [pageV] at hcell
      have hcut := cutL_len l (i := fr ends k) (k := endAt ends k) (by omega)
      have HC := Lib.hid hcut
      have HS := Lib.hid (ntL_succ l ends k)
      have hRc := hr.cut (fr ends k) (endAt ends k)
      clear hc hcut
      obtain ⟨F, hF⟩ : ∃ F, F = fr ends k := ⟨_, rfl⟩
      obtain ⟨X, hX⟩ : ∃ X, X = endAt ends k := ⟨_, rfl⟩
      rw [← hF, ← hX] at hcell hRc HC HS
      rw [← hF, ← hX] at h1
      rw [← hX] at h2
      clear hF hX
      obtain ⟨ps, hps⟩ : ∃ ps, ps = cutL l F X := ⟨_, rfl⟩
      rw [← hps] at hRc HC HS
      clear hps
      have hpn : ps.length ≤ X - F := by have := HC.out; omega
      have hpn2 : X - F ≤ ps.length := by have := HC.out; omega
      go_wp2
      go_loopw [9, 28] (fun n i wr => ∃ (j m : Nat), j ≤ X - F ∧ i = .int .i64 j ∧ n = .int .i64 m ∧ cntN (ps.take j) = m ∧ m ≤ j ∧ Ext wo wr) (fun _ i _ => X - F - (intOf i).toNat)
      case atStart => exact ⟨0, 0, Nat.zero_le _, rfl, rfl, rfl, Nat.le_refl _, Ext.refl _⟩
      case round =>
        obtain ⟨j, m, hj, rfl, rfl, hm, hmj, hEo⟩ := hrel
        have HM := Lib.hid hm; clear hm
        by_cases hjt : j < X - F
        · obtain ⟨x, b3, off3, HX, eA, _, _, h4, c0, c1, c2⟩ := RdS.get (hRc.ext (hE.trans hEo)) (k := j) (by omega)
          injection eA with eA; injection eA with eb eo _; subst eb; subst eo
          have HST := Lib.hid (cntN_snoc HX.out)
          by_cases hx : 0 < x.note
          · go_wp2
            go_roundw
            case rel => exact ⟨j + 1, m + 1, by omega, by go_num, by go_num, by rw [HST.out, HM.out, if_pos hx], by omega, (by repeat (first | exact Ext.refl _ | assumption | refine Ext.trans ?_ (Ext.alloc _ _) | refine Ext.trans ?_ (Ext.drew _) | refine Ext.trans ?_ (Ext.drewN _ _) | refine Ext.trans ?_ (by assumption)))⟩
            case measure => simp [intOf]; omega
          · go_wp2
            go_roundw
            case rel => exact ⟨j + 1, m, by omega, by go_num, rfl, by rw [HST.out, HM.out, if_neg hx]; rfl, by omega, (by repeat (first | exact Ext.refl _ | assumption | refine Ext.trans ?_ (Ext.alloc _ _) | refine Ext.trans ?_ (Ext.drew _) | refine Ext.trans ?_ (Ext.drewN _ _) | refine Ext.trans ?_ (by assumption)))⟩
            case measure => simp [intOf]; omega
        · have hjl : ps.length ≤ j := by omega
          have HM2 : Hid (cntN ps = m) := by show _ = _; rw [← HM.out, List.take_of_length_le hjl]
          clear hjt
          go_wp2_with (first | (at_builtin; refine wp_app _ w rfl (.tmp 38) (.tmp 40) 32 rfl 3 _ 1 8 Try.underlying32 intInfo rfl (by omega) _ k _ rfl (ownsRow_ext hown (hEo.trans (Ext.alloc _ _))) (by repeat (first | exact Ext.refl _ | assumption | refine Ext.trans ?_ (Ext.alloc _ _) | refine Ext.trans ?_ (Ext.drew _) | refine Ext.trans ?_ (Ext.drewN _ _) | refine Ext.trans ?_ (by assumption))) _ _ _ 1 1 [.int .i64 m] rfl rfl (rdA_new rfl (Ext.refl _)) (by simp [Value.oneCell']) (by omega) (by simp) ?_; intro v3 w3 hown3 hE3 hg3 hat3))
          go_roundw
          case rel => exact ⟨k + 1, by omega, by go_num, by rw [HS.out, List.map_append, HM2.out]; exact hown3, Rd.app (hR2.ext hEo) hg3 hap, hap.app (hR2.ext hEo) hat3, hE3⟩
          case measure => simp [intOf]; omega
    · have hkl : k = ends.length := by omega
      subst hkl
      clear hlt
      obtain ⟨A', c', rfl, hc', _⟩ := own_form hown
      go_wp2
      go_ret2
      exact ⟨A', c', by rw [ntL_len]; rfl, by rw [ntL_len]; exact hc', Rd.of_own hown, (by repeat (first | exact Ext.refl _ | assumption | refine Ext.trans ?_ (Ext.alloc _ _) | refine Ext.trans ?_ (Ext.drew _) | refine Ext.trans ?_ (Ext.drewN _ _) | refine Ext.trans ?_ (by assumption)))⟩
/-- The notes on page q among the first k lines. -/
def ntAt (l : List SetL) (ends : List Int) (k q : Nat) : Int := cntN (cutL l (fr ends q) (min k (endAt ends q)))
theorem ntAt_step {l : List SetL} {ends : List Int} (h : areE l ends = true) {k p q : Nat} {x : SetL} (hx : l[k]? = some x) (hp : p < ends.length) (h1 : fr ends p ≤ k) (h2 : k < endAt ends p) (hq : q < ends.length) :
    ntAt l ends (k + 1) q = if q = p then ntAt l ends k p + (if 0 < x.note then 1 else 0) else ntAt l ends k q := by
  by_cases e : q = p
  · subst e
    rw [if_pos rfl, ntAt, ntAt, Nat.min_eq_left (by omega), Nat.min_eq_left (by omega), cntN_cut hx h1]
    split <;> simp
  · rw [if_neg e, ntAt, ntAt]
    rcases Nat.lt_or_gt_of_ne e with hlt | hlt
    · have := fr_ge h hlt (by omega)
      rw [Nat.min_eq_right (by omega), Nat.min_eq_right (by omega)]
    · have := fr_ge h hlt (Nat.le_of_lt hq)
      rw [cut_empty (by omega), cut_empty (by omega)]
theorem spec_NotesOnPages (A B : Option Addr) (c d : Nat) (l : List SetL) (ends : List Int) (lo hi lo' hi' : Nat) (w : World) (hl : l.length ≤ 1048577) (hl' : ends.length ≤ 1048577) (hcap : l.length ≤ c) (hq : InRS l) (hr : RdS w lo hi A l) (hr' : RdI w lo' hi' B ends) :
    Calls Try.prog 32 #[.slice A l.length c, .slice B ends.length d] w (RetI2 w (ntP l ends)) := by
  cases h : areE l ends
  · rw [ntP_bad h]
    go_enter Try.func32, Try.ntmps32
    go_wp2_with (go_at_call 46; refine (spec_pgEnds A B c d l ends lo hi lo' hi' _ hl hl' hr hr').mono ?_; rintro e w1 ⟨rfl, hE1⟩; obtain ⟨hc1, hf1⟩ := bcell hE1; have hs1 := hE1.size; (try simp only [World.size_alloc] at hs1))
    go_ret2
    exact retI2_lit (by repeat (first | exact Ext.refl _ | assumption | refine Ext.trans ?_ (Ext.alloc _ _) | refine Ext.trans ?_ (Ext.drew _) | refine Ext.trans ?_ (Ext.drewN _ _) | refine Ext.trans ?_ (by assumption)))
  rw [ntP_good h]
  obtain ⟨_, hn0, _, hlast, hl40, he40⟩ := areE_parts h
  have HLAST := Lib.hid hlast; clear hlast
  obtain ⟨cs0, hmk, hf0⟩ := make_ints (P := Try.prog) 32 3 Try.underlying32 intInfo ends.length (by omega)
  have HF0 := Lib.hid hf0; clear hf0
  go_enter Try.func32, Try.ntmps32
  go_wp2_with (go_at_call 46; refine (spec_pgEnds A B c d l ends lo hi lo' hi' _ hl hl' hr hr').mono ?_; rintro e w1 ⟨rfl, hE1⟩; obtain ⟨hc1, hf1⟩ := bcell hE1; have hs1 := hE1.size; (try simp only [World.size_alloc] at hs1))
  have H := Lib.hid h; clear h hc1 hf1 hmk
  obtain ⟨G, hG⟩ : ∃ G, G = w1.heap.size := ⟨_, rfl⟩
  rw [← hG]
  have hB0 : Blk (w1.alloc (.cells cs0 3)) G 3 cs0 := by rw [hG]; exact Blk.new _ _ _
  have hwG : w.heap.size ≤ G := by omega
  clear hG
  go_loopw [7, 19] (fun p i wr => ∃ (k P : Nat) (cur : Array Value), k ≤ l.length ∧ i = .int .i64 k ∧ p = .int .i64 P ∧ P < ends.length ∧ fr ends P ≤ k ∧ k ≤ endAt ends P ∧ Blk wr G 3 cur ∧ FillI cur ends.length (ntAt l ends k) ∧ Ext w wr) (fun _ i _ => l.length - (intOf i).toNat)
  case atStart => exact ⟨0, 0, cs0, Nat.zero_le _, rfl, rfl, hn0, Nat.le_refl _, Nat.zero_le _, hB0, HF0.out.congr (fun i _ => by simp [ntAt, cut_empty, cntN]), (by repeat (first | exact Ext.refl _ | assumption | refine Ext.trans ?_ (Ext.alloc _ _) | refine Ext.trans ?_ (Ext.drew _) | refine Ext.trans ?_ (Ext.drewN _ _) | refine Ext.trans ?_ (by assumption)))⟩
  case round =>
    obtain ⟨k, P, cur, hk, rfl, rfl, hP, hf1, hf2, hB, hF, hE⟩ := hrel
    have HF1 := Lib.hid hf1; have HF2 := Lib.hid hf2
    clear hf1 hf2
    by_cases hlt : k < l.length
    · obtain ⟨x, b, off, HX, rfl, _, _, h3, c0, c1, c2⟩ := RdS.get (hr.ext hE) hlt
      obtain ⟨y, b', off', HY, rfl, _, _, h4, d0, _⟩ := RdI.get (hr'.ext hE) hP
      obtain ⟨Y, hY, hy1, hy2⟩ := areE_le H.out HY.out
      subst hY
      have hat : endAt ends P = Y := by rw [endAt_at HY.out]; rfl
      have HAT := Lib.hid hat; clear hat
      have hgl := hB.lt
      by_cases he : k = Y
      · have hP1 : P + 1 < ends.length := by
          rcases Nat.lt_or_ge (P + 1) ends.length with hh | hh
          · exact hh
          · exfalso
            have e1 : ends.length - 1 = P := by omega
            have e2 := HLAST.out
            rw [e1] at e2
            have := e2.symm.trans HY.out
            injection this with this
            omega
        have hfr : fr ends (P + 1) = k := by rw [fr_succ, HAT.out, he]
        have hen : k < endAt ends (P + 1) := by have := fr_lt H.out hP1; omega
        have hst := fun q (hq : q < ends.length) => ntAt_step H.out HX.out hP1 (by omega) hen hq
        have HST := Lib.hid hst
        have HFR := Lib.hid hfr
        have HEN := Lib.hid hen
        obtain ⟨q0, r0⟩ := hF.cell hB hP1
        have hnb : 0 ≤ ntAt l ends k (P + 1) ∧ ntAt l ends k (P + 1) ≤ 1048577 := by
          have := cntN_le (cutL l (fr ends (P + 1)) (min k (endAt ends (P + 1))))
          have e5 : (cutL l (fr ends (P + 1)) (min k (endAt ends (P + 1)))).length ≤ l.length := by simp [cutL]; omega
          unfold ntAt; omega
        subst he
        clear hst hfr hen
        by_cases hx : 0 < x.note
        · go_wp2
          go_roundw
          case rel => exact ⟨k + 1, P + 1, _, by omega, by go_num, by go_num, hP1, by have := HFR.out; omega, by have := HEN.out; omega, (hB.set_ (P + 1) _).ext (Ext.alloc _ _), (hF.set_ (P + 1) _).congr (fun i hi => by rw [HST.out i hi, if_pos hx]), (Ext.setCell hE hwG _).trans (Ext.alloc _ _)⟩
          case measure => simp [intOf]; omega
        · go_wp2
          go_roundw
          case rel => exact ⟨k + 1, P + 1, cur, by omega, by go_num, by go_num, hP1, by have := HFR.out; omega, by have := HEN.out; omega, hB.ext (by repeat (first | exact Ext.refl _ | assumption | refine Ext.trans ?_ (Ext.alloc _ _) | refine Ext.trans ?_ (Ext.drew _) | refine Ext.trans ?_ (Ext.drewN _ _) | refine Ext.trans ?_ (by assumption))), hF.congr (fun i hi => by rw [HST.out i hi, if_neg hx]; split <;> simp_all), (by repeat (first | exact Ext.refl _ | assumption | refine Ext.trans ?_ (Ext.alloc _ _) | refine Ext.trans ?_ (Ext.drew _) | refine Ext.trans ?_ (Ext.drewN _ _) | refine Ext.trans ?_ (by assumption)))⟩
          case measure => simp [intOf]; omega
      · have t1 : ((k : Int) == (Y : Int)) = false := by rw [beq_eq_false_iff_ne]; omega
        have hst := fun q (hq : q < ends.length) => ntAt_step H.out HX.out hP HF1.out (by have := HF2.out; have := HAT.out; omega) hq
        have HST := Lib.hid hst
        obtain ⟨q0, r0⟩ := hF.cell hB hP
        have hnb : 0 ≤ ntAt l ends k P ∧ ntAt l ends k P ≤ 1048577 := by
          have := cntN_le (cutL l (fr ends P) (min k (endAt ends P)))
          have e5 : (cutL l (fr ends P) (min k (endAt ends P))).length ≤ l.length := by simp [cutL]; omega
          unfold ntAt; omega
        have HKY : Hid (k < endAt ends P) := by have := HF2.out; have := HAT.out; show _ < _; omega
        clear hst he
        by_cases hx : 0 < x.note
        · go_wp2
          go_roundw
          case rel => exact ⟨k + 1, P, _, by omega, by go_num, rfl, hP, by have := HF1.out; omega, by have := HKY.out; omega, (hB.set_ P _).ext (Ext.alloc _ _), (hF.set_ P _).congr (fun i hi => by rw [HST.out i hi, if_pos hx]), (Ext.setCell hE hwG _).trans (Ext.alloc _ _)⟩
          case measure => simp [intOf]; omega
        · go_wp2
          go_roundw
          case rel => exact ⟨k + 1, P, cur, by omega, by go_num, rfl, hP, by have := HF1.out; omega, by have := HKY.out; omega, hB.ext (by repeat (first | exact Ext.refl _ | assumption | refine Ext.trans ?_ (Ext.alloc _ _) | refine Ext.trans ?_ (Ext.drew _) | refine Ext.trans ?_ (Ext.drewN _ _) | refine Ext.trans ?_ (by assumption))), hF.congr (fun i hi => by rw [HST.out i hi, if_neg hx]; split <;> simp_all), (by repeat (first | exact Ext.refl _ | assumption | refine Ext.trans ?_ (Ext.alloc _ _) | refine Ext.trans ?_ (Ext.drew _) | refine Ext.trans ?_ (Ext.drewN _ _) | refine Ext.trans ?_ (by assumption)))⟩
          case measure => simp [intOf]; omega
    · have hkl : k = l.length := by omega
      subst hkl
      clear hlt
      go_wp2
      go_ret2
      refine ⟨_, _, by rw [ntL_len]; rfl, by rw [ntL_len]; exact Nat.le_refl _, ?_, hE⟩
      exact hF.rd hB hwG (by rw [ntL_len]) (fun i hi => by have := ends_le H.out hi; simp [ntL, hi, ntAt, Nat.min_eq_right this.2])
end Go.Proofs.Ytblecbdkpjmfeaa
