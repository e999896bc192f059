/- The walks of markIntSS and heldIntSS. -/
import Derived.Test.YtnhddepmhelgiaaNestS
namespace Go.Proofs.Ytnhddepmhelgiaa
open Go.RowKit
set_option linter.unusedVariables false
/-- What the laws' marks leave in a slice of slices of int. -/
def marksII (k : Int) (ls : List (List Int)) : List (List Int) := (List.range ls.length).map fun i => marksI (k + totL ls i) (ls[i]?.getD []).length
theorem marksII_len (k : Int) (ls : List (List Int)) : (marksII k ls).length = ls.length := by simp [marksII]
theorem marksII_at {k : Int} {ls : List (List Int)} {i : Nat} {l m : List Int} (hl : ls[i]? = some l) (h : (marksII k ls)[i]? = some m) : m = marksI (k + totL ls i) l.length := by
  simp only [marksII, List.getElem?_map, Option.map_eq_some_iff] at h
  obtain ⟨a, ha, rfl⟩ := h
  have := (List.getElem?_eq_some_iff.1 ha).2
  simp at this
  subst this
  rw [hl]; rfl
theorem marksII_of {k : Int} {ls ms : List (List Int)} (hlen : ms.length = ls.length) (h : ∀ (i : Nat) l, ls[i]? = some l → ms[i]? = some (marksI (k + totL ls i) l.length)) : ms = marksII k ls := by
  apply List.ext_getElem?
  intro i
  by_cases hi : i < ls.length
  · obtain ⟨l, hl⟩ : ∃ l, ls[i]? = some l := ⟨_, List.getElem?_eq_getElem hi⟩
    obtain ⟨m, hm⟩ : ∃ m, (marksII k ls)[i]? = some m := ⟨_, List.getElem?_eq_getElem (by rw [marksII_len]; exact hi)⟩
    rw [h i l hl, hm, marksII_at hl hm]
  · rw [List.getElem?_eq_none (by omega), List.getElem?_eq_none (by rw [marksII_len]; omega)]
/-- A row that is written anew in its own blocks. -/
theorem RdII.upd {w : World} {lo hi : Nat} {A : Option Addr} {ls : List (List Int)} (h : RdII w lo hi A ls) {k : Nat} (hk : k < ls.length) :
    ∃ (r : Row) (l : List Int) (b off : Nat), Hid (ls[k]? = some l) ∧ A = some ⟨b, off, none⟩ ∧ b < w.heap.size ∧ w.cell? ⟨b, off + k, none⟩ = some (.slice r.A l.length r.c) ∧ l.length ≤ r.c ∧ RdI w r.p r.q r.A l ∧ lo ≤ r.p ∧ r.q ≤ hi ∧
      Hid (∀ w' m, m.length = l.length → RdI w' r.p r.q r.A m → Out r.p r.q w w' → RdII w' lo hi A (ls.set k m)) := by
  obtain ⟨rs, p0, q0, h1, h2, h3, h4, h5, h6, h7⟩ := h
  have hkr : k < rs.length := by omega
  obtain ⟨b, off, e, _, _, hb, hc⟩ := h5.at_ (k := k) (by simp; omega)
  have hcell := (hc k (Row.val rs[k] ls[k]) (by rw [List.getElem?_zipWith, List.getElem?_eq_getElem hkr, List.getElem?_eq_getElem hk])).1
  obtain ⟨g1, g2, g3, g4, g5⟩ := h6 k rs[k] ls[k] (List.getElem?_eq_getElem hkr) (List.getElem?_eq_getElem hk)
  refine ⟨rs[k], ls[k], b, off, List.getElem?_eq_getElem hk, e, hb, hcell, g1, g2, g3, g4, fun w' m hm hR hO => ?_⟩
  have hz : List.zipWith Row.val rs (ls.set k m) = List.zipWith Row.val rs ls := by
    apply List.ext_getElem?
    intro i
    rw [List.getElem?_zipWith, List.getElem?_zipWith]
    by_cases hik : k = i
    · subst hik
      rw [List.getElem?_set_self hk, List.getElem?_eq_getElem hk, List.getElem?_eq_getElem hkr]
      simp [Row.val, hm]
    · rw [List.getElem?_set_ne hik]
  refine ⟨rs, p0, q0, by rw [List.length_set]; exact h1, h2, h3, Nat.le_trans h4 hO.size, by rw [hz]; exact h5.out hO (by omega), fun i r l hr hl => ?_, h7⟩
  by_cases hik : k = i
  · subst hik
    rw [List.getElem?_set_self hk] at hl
    injection hl with hl
    rw [List.getElem?_eq_getElem hkr] at hr
    injection hr with hr
    subst hl; subst hr
    exact ⟨by rw [hm]; exact g1, hR, g3, g4, g5⟩
  · rw [List.getElem?_set_ne hik] at hl
    obtain ⟨f1, f2, f3, f4, f5⟩ := h6 i r l hr hl
    refine ⟨f1, f2.out hO ?_, f3, f4, f5⟩
    rcases Nat.lt_or_gt_of_ne hik with hlt | hlt
    · have := h7 k i rs[k] r hlt (List.getElem?_eq_getElem hkr) hr; omega
    · have := h7 i k r rs[k] hlt hr (List.getElem?_eq_getElem hkr); omega
theorem markIntSS_any (A : Option Addr) (c : Nat) (ls : List (List Int)) (k : Int) (lo hi : Nat) (w : World) (hl : bulk ls ≤ 1048577000) (hk0 : 0 ≤ k) (hk1 : k ≤ 1048577000) (hr : RdII w lo hi A ls) :
    Calls Try.prog 25 #[.slice A ls.length c, .int .i64 k] w fun e w' => e = .returned (.int .i64 (k + totL ls ls.length)) ∧ RdII w' lo hi A (marksII k ls) ∧ Out lo hi w w' := by
  have hlen : ls.length ≤ 1048577000 := by unfold bulk at hl; omega
  have htot : totL ls ls.length ≤ 1048577000 := by unfold bulk at hl; omega
  have HT := Lib.hid htot
  clear hl htot
  go_enter Try.func25, Try.ntmps25
  go_wp2
  go_loopw [1, 5] (fun kk i wr => ∃ (j t : Nat) (ms : List (List Int)), j ≤ ls.length ∧ i = .int .i64 j ∧ kk = .int .i64 (k + t) ∧ t = totL ls j ∧ ms.length = ls.length ∧ (∀ (i : Nat) l, i < j → ls[i]? = some l → ms[i]? = some (marksI (k + totL ls i) l.length)) ∧ (∀ (i : Nat), j ≤ i → ms[i]? = ls[i]?) ∧ RdII wr lo hi A ms ∧ Out lo hi w wr) (fun _ i _ => ls.length - (intOf i).toNat)
  case atStart => exact ⟨0, 0, ls, Nat.zero_le _, rfl, by simp, by simp [totL], rfl, fun i l hi => absurd hi (by omega), fun i _ => rfl, hr, Out.refl _ _ _⟩
  case round =>
    obtain ⟨j, t, ms, hj, rfl, rfl, ht, hms, hm, hm2, hR, hO⟩ := hrel
    have HLS := Lib.hid hms
    have HM := Lib.hid hm
    have HM2 := Lib.hid hm2
    have HTT := Lib.hid ht
    clear hm hm2 ht
    by_cases hlt : j < ls.length
    · obtain ⟨⟨ra, rc, rp, rq⟩, l, b, off, HX, rfl, h3, c0, hlc, hR1, hp, hq, HU⟩ := RdII.upd hR (k := j) (by omega)
      simp only at c0 hlc hR1 hp hq HU
      have HX' : Hid (ls[j]? = some l) := by rw [← HM2.out j (Nat.le_refl _)]; exact HX
      have hs := totL_succ HX'.out
      have hmo := totL_mono ls (k := j + 1) ls.length (by omega) (Nat.le_refl _)
      have htj : t + l.length ≤ 1048577000 := by have := HT.out; have := HTT.out; omega
      have HS := Lib.hid hs
      clear hs hmo hms
      go_wp2_with fail
      refine (markIntS_any ra rc l (k + t) rp rq _ (by omega) (by omega) (by omega) hR1).mono ?_
      rintro e w1 ⟨rfl, hM1, hO1⟩
      go_wp2_with fail
      go_roundw
      case rel =>
        refine ⟨j + 1, t + l.length, ms.set j (marksI (k + t) l.length), by omega, by go_num, val_int (by omega), by rw [HS.out, HTT.out], by rw [List.length_set]; exact HLS.out, fun i m hi hm => ?_, fun i hi => ?_, HU.out _ _ (marksI_len _ _) hM1 hO1, hO.trans (hO1.wide hp hq)⟩
        · by_cases hij : i = j
          · subst hij
            have := HX'.out.symm.trans hm; injection this with this; subst this
            rw [List.getElem?_set_self (by have := HLS.out; omega), HTT.out]
          · rw [List.getElem?_set_ne (fun h => hij h.symm)]; exact HM.out i m (by omega) hm
        · rw [List.getElem?_set_ne (by omega)]; exact HM2.out i (by omega)
      case measure => simp [intOf]; omega
    · have hjl : j = ls.length := by omega
      subst hjl
      clear hlt hms
      go_wp2
      go_ret
      refine ⟨by rw [HTT.out]; rfl, ?_, hO⟩
      rw [← marksII_of HLS.out (fun i l hl => HM.out i l (List.getElem?_eq_some_iff.1 hl).1 hl)]
      exact hR
theorem heldIntSS_any (A : Option Addr) (c : Nat) (ls : List (List Int)) (k : Int) (lo hi : Nat) (w : World) (hl : bulk ls ≤ 1048577000) (hk0 : 0 ≤ k) (hk1 : k ≤ 1048577000) (hr : RdII w lo hi A (marksII k ls)) :
    Calls Try.prog 32 #[.slice A ls.length c, .int .i64 k] w fun e w' => e = .returned (.int .i64 (k + totL ls ls.length)) ∧ w = w' := by
  have hlen : ls.length ≤ 1048577000 := by unfold bulk at hl; omega
  have htot : totL ls ls.length ≤ 1048577000 := by unfold bulk at hl; omega
  have HT := Lib.hid htot
  clear hl htot
  go_enter Try.func32, Try.ntmps32
  go_wp2
  go_loop [1, 5] (fun kk i => ∃ (j t : Nat), j ≤ ls.length ∧ i = .int .i64 j ∧ kk = .int .i64 (k + t) ∧ t = totL ls j) (fun _ i => ls.length - (intOf i).toNat)
  case atStart => exact ⟨0, 0, Nat.zero_le _, rfl, by simp, by simp [totL]⟩
  case round =>
    obtain ⟨j, t, hj, rfl, rfl, ht⟩ := hrel
    have HTT := Lib.hid ht
    clear ht
    by_cases hlt : j < ls.length
    · obtain ⟨⟨ra, rc, rp, rq⟩, m, b, off, HX, rfl, h3, c0, hlc, hR1, hp, hq⟩ := RdII.get hr (k := j) (by rw [marksII_len]; omega)
      simp only at c0 hlc hR1 hp hq
      obtain ⟨l, HX'⟩ : ∃ l, Hid (ls[j]? = some l) := ⟨_, List.getElem?_eq_getElem hlt⟩
      obtain rfl := marksII_at HX'.out HX.out
      have hs := totL_succ HX'.out
      have hmo := totL_mono ls (k := j + 1) ls.length (by omega) (Nat.le_refl _)
      have htj : t + l.length ≤ 1048577000 := by have := HT.out; have := HTT.out; omega
      have HS := Lib.hid hs
      clear hs hmo HX
      rw [← HTT.out] at hR1 c0
      rw [marksI_len] at c0
      go_wp2_with (go_at_call 27; refine (heldIntS_any ra rc l.length (k + t) rp rq _ (by omega) (by omega) (by omega) hR1).mono ?_; rintro e w' ⟨rfl, rfl⟩)
      go_round
      case rel => exact ⟨j + 1, t + l.length, by omega, by go_num, val_int (by omega), by rw [HS.out, HTT.out]⟩
      case measure => simp [intOf]; omega
    · have hjl : j = ls.length := by omega
      subst hjl
      clear hlt
      go_wp2
      go_ret
      exact ⟨by rw [HTT.out]; rfl, rfl⟩
end Go.Proofs.Ytnhddepmhelgiaa
