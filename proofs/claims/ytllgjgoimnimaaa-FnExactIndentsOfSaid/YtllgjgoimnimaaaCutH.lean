/- The walks of IndentsOf. -/
import Derived.Test.YtllgjgoimnimaaaCutD
import Derived.Test.YtllgjgoimnimaaaCutC
import Derived.Test.YtllgjgoimnimaaaFill
namespace Go.Proofs.Ytllgjgoimnimaaa
open Go.RowKit
/-- The width of the first cut-in at the left beside line n. -/
def ind (l : List Cut) (n : Nat) : Int := match l.find? (atP n 0) with | some x => x.wide | none => 0
def indL (l : List Cut) (n : Nat) : List Int := (List.range n).map (ind l)
theorem indL_len (l : List Cut) (n : Nat) : (indL l n).length = n := by simp [indL]
theorem indL_succ (l : List Cut) (n : Nat) : indL l (n + 1) = indL l n ++ [ind l n] := by simp [indL, List.range_succ]
theorem ind_some {l : List Cut} {n k : Nat} {x : Cut} (h : atIdx l n 0 = some k) (hx : l[k]? = some x) : ind l n = x.wide := by
  obtain ⟨hk, hp, hn⟩ := List.findIdx?_eq_some_iff_getElem.1 h
  have e : l.find? (atP n 0) = some x := by
    rw [List.find?_eq_some_iff_getElem]
    refine ⟨by rw [← (List.getElem?_eq_some_iff.1 hx).2]; exact hp, k, hk, (List.getElem?_eq_some_iff.1 hx).2, fun j hj => ?_⟩
    have := hn j hj
    simpa using this
  rw [ind, e]
theorem ind_none {l : List Cut} {n : Nat} (h : atIdx l n 0 = none) : ind l n = 0 := by
  have h1 := List.findIdx?_eq_none_iff.1 h
  have e : l.find? (atP n 0) = none := by
    rw [List.find?_eq_none]
    intro x hx
    rw [h1 x hx]; simp
  rw [ind, e]
/-- The width of the last cut-in at the left beside line n, among some. -/
def indF (n : Nat) (a : Int) (l : List Cut) : Int := l.foldl (fun a x => if atP n 0 x then x.wide else a) a
theorem indF_snoc {l : List Cut} {n j : Nat} {a : Int} {x : Cut} (h : l[j]? = some x) : indF n a (l.take (j + 1)) = if atP n 0 x then x.wide else indF n a (l.take j) := by
  rw [take_snoc h]; simp [indF]
theorem indF_eq {n : Nat} {l : List Cut} : ∀ a : Int, l.Pairwise (fun x y => atP n 0 x = true → atP n 0 y = false) → indF n a l = match l.find? (atP n 0) with | some x => x.wide | none => a := by
  induction l with
  | nil => intro a _; rfl
  | cons x l ih =>
    intro a hp
    have hp' := List.pairwise_cons.1 hp
    have e : indF n a (x :: l) = indF n (if atP n 0 x then x.wide else a) l := rfl
    rw [e, ih _ hp'.2]
    cases hx : atP n 0 x
    · rw [List.find?_cons_of_neg (by simp [hx])]; rfl
    · rw [List.find?_cons_of_pos hx]
      have : l.find? (atP n 0) = none := by
        rw [List.find?_eq_none]; intro y hy; rw [hp'.1 y hy hx]; simp
      rw [this]; rfl
theorem indF_ind {m : Int} {l : List Cut} (h : areCut m l = true) (n : Nat) : indF n 0 l = ind l n := by
  rw [indF_eq 0, ind]
  rw [List.pairwise_iff_getElem]
  intro i j hi hj hij hx
  cases hy : atP n 0 l[j]
  · rfl
  · exfalso
    have hg := goodTo_all (areCut_parts h).1
    have hcl := (hg j _ hj (List.getElem?_eq_getElem hj)).2 i _ hij (List.getElem?_eq_getElem hi)
    have c1 := (hg j _ hj (List.getElem?_eq_getElem hj)).1
    have c2 := (hg i _ hi (List.getElem?_eq_getElem hi)).1
    simp only [atP, Bool.and_eq_true, beq_iff_eq] at hx hy
    have b1 := (beside_iff c1 n).1 hy.2
    have b2 := (beside_iff c2 n).1 hx.2
    obtain ⟨q1, q2, _, _⟩ := isCut_iff.1 c1
    obtain ⟨r1, r2, _, _⟩ := isCut_iff.1 c2
    simp only [clashC, Bool.and_eq_false_iff, beq_eq_false_iff_ne, decide_eq_false_iff_not] at hcl
    rw [w64 (by omega) (by omega), w64 (by omega) (by omega)] at hcl
    omega

def inP (m : Int) (l : List Cut) (n : Int) : List Int × Bool := if areCut m l && inB n 0 300 then (indL l n.toNat, true) else ([], false)
theorem inP_bad {m : Int} {l : List Cut} {n : Int} (h : (areCut m l && inB n 0 300) = false) : inP m l n = ([], false) := by simp only [inP, h]; rfl
theorem inP_good {m : Int} {l : List Cut} {n : Int} (h1 : areCut m l = true) (h2 : inB n 0 300 = true) : inP m l n = (indL l n.toNat, true) := by simp only [inP, h1, h2]; rfl
theorem inP_len (m : Int) (l : List Cut) (n : Int) : (inP m l n).1.length ≤ 4000000 := by
  unfold inP
  split
  · rename_i h
    simp only [Bool.and_eq_true] at h
    have := inB_iff.1 h.2
    simp only [indL_len]
    omega
  · simp

theorem spec_IndentsOf (m : Int) (A : Option Addr) (c : Nat) (l : List Cut) (n : Int) (lo hi : Nat) (w : World) (hl : l.length ≤ 1048577) (hcap : l.length ≤ c) (hr : RdC w lo hi A l) :
    Calls Try.prog 41 #[.int .i64 m, .slice A l.length c, .int .i64 n] w (RetI2 w (inP m l n)) := by
  cases h1 : areCut m l
  · rw [inP_bad (by simp [h1])]
    go_enter Try.func41, Try.ntmps41
    go_wp2_with (go_at_call 51; refine (spec_inGood m A c l lo hi _ hl hcap hr).mono ?_; rintro e w1 ⟨rfl, hE1⟩; obtain ⟨hc1, hf1⟩ := bcell hE1; have hs1 := hE1.size; (try simp only [World.size_alloc] at hs1))
    go_ret2
    exact retI2_lit (by repeat (first | exact Ext.refl _ | assumption | refine Ext.trans ?_ (Ext.alloc _ _) | refine Ext.trans ?_ (Ext.drew _) | refine Ext.trans ?_ (Ext.drewN _ _) | refine Ext.trans ?_ (by assumption)))
  cases h2 : inB n 0 300
  · rw [inP_bad (by simp [h2])]
    go_enter Try.func41, Try.ntmps41
    go_wp2_with (first | (go_at_call 51; refine (spec_inGood m A c l lo hi _ hl hcap hr).mono ?_; rintro e w1 ⟨rfl, hE1⟩; obtain ⟨hc1, hf1⟩ := bcell hE1; have hs1 := hE1.size; (try simp only [World.size_alloc] at hs1)) | (go_at_call 59; refine (inNumber_any _ _).mono ?_; rintro e w' ⟨rfl, rfl⟩))
    go_ret2
    exact retI2_lit (by repeat (first | exact Ext.refl _ | assumption | refine Ext.trans ?_ (Ext.alloc _ _) | refine Ext.trans ?_ (Ext.drew _) | refine Ext.trans ?_ (Ext.drewN _ _) | refine Ext.trans ?_ (by assumption)))
  rw [inP_good h1 h2]
  obtain ⟨s1, s2⟩ := inB_iff.1 h2
  obtain ⟨N, rfl⟩ := Int.eq_ofNat_of_zero_le s1
  rw [Int.toNat_natCast]
  go_enter Try.func41, Try.ntmps41
  go_wp2_with (first | (go_at_call 51; refine (spec_inGood m A c l lo hi _ hl hcap hr).mono ?_; rintro e w1 ⟨rfl, hE1⟩; obtain ⟨hc1, hf1⟩ := bcell hE1; have hs1 := hE1.size; (try simp only [World.size_alloc] at hs1)) | (go_at_call 59; refine (inNumber_any _ _).mono ?_; rintro e w' ⟨rfl, rfl⟩))
  clear h1 h2 hc1 hf1
  go_loopw [8, 9] (fun v i wr => ∃ k : Nat, k ≤ N ∧ i = .int .i64 k ∧ wr.ownsRow w.heap.size 3 1 v k ((indL l k).map (Value.int .i64)) ∧ Ext w wr) (fun _ i _ => N - (intOf i).toNat)
  case atStart => exact ⟨0, Nat.zero_le _, rfl, own_nil _ _ _ _, hE1⟩
  case round =>
    obtain ⟨k, hk, rfl, hown, hE⟩ := hrel
    by_cases hlt : k < N
    · go_wp2_with fail
      refine (inAt_any A c l k 0 lo hi _ hl (hr.ext hE)).mono ?_
      rintro e w2 ⟨rfl, hE2⟩
      cases h4 : atIdx l k 0 with
      | none =>
        have hv : idxInt (none : Option Nat) = -1 := rfl
        have HI := Lib.hid (ind_none h4); clear h4
        rw [hv]; clear hv
        go_wp2_with (first | (at_builtin; refine wp_app _ w rfl (.tmp 38) (.tmp 39) 47 rfl 3 _ 1 8 Try.underlying47 intInfo rfl (by omega) _ k _ rfl (ownsRow_ext hown (hE2.trans (Ext.alloc _ _))) (hE.trans (hE2.trans (Ext.alloc _ _))) _ _ _ 1 1 [.int .i64 0] rfl rfl (rdA_new rfl (Ext.refl _)) (by simp [Value.oneCell']) (by omega) (by simp) ?_; intro v3 w3 hown3 hE3 hg3 hat3))
        go_roundw
        case rel => exact ⟨k + 1, by omega, by go_num, by rw [indL_succ, List.map_append, HI.out]; exact hown3, hE3⟩
        case measure => simp [intOf]; omega
      | some i =>
        have hi := atIdx_lt h4
        obtain ⟨x, b, off, HX, rfl, h1, h2, h3, c0, c1, c2, c3⟩ := RdC.get (hr.ext (hE.trans hE2)) hi
        have HI := Lib.hid (ind_some h4 HX.out); clear h4
        have hv : idxInt (some i) = i := rfl
        rw [hv]; clear hv
        go_wp2_with (first | (at_builtin; refine wp_app _ w rfl (.tmp 30) (.tmp 36) 47 rfl 3 _ 1 8 Try.underlying47 intInfo rfl (by omega) _ k _ rfl (ownsRow_ext hown (hE2.trans (Ext.alloc _ _))) (hE.trans (hE2.trans (Ext.alloc _ _))) _ _ _ 1 1 [.int .i64 x.wide] rfl rfl (rdA_new rfl (Ext.refl _)) (by simp [Value.oneCell']) (by omega) (by simp) ?_; intro v3 w3 hown3 hE3 hg3 hat3))
        go_roundw
        case rel => exact ⟨k + 1, by omega, by go_num, by rw [indL_succ, List.map_append, HI.out]; exact hown3, hE3⟩
        case measure => simp [intOf]; omega
    · have hkl : k = N := by omega
      subst hkl
      clear hlt
      obtain ⟨A', c', rfl, hc', _⟩ := own_form hown
      go_wp2
      go_ret2
      exact ⟨A', c', by rw [indL_len]; rfl, by rw [indL_len]; exact hc', Rd.of_own hown, hE⟩

theorem impl_IndentsOf (m : Int) (A : Option Addr) (c : Nat) (l : List Cut) (n : Int) (lo hi : Nat) (w : World) (hl : l.length ≤ 1048577) (hcap : l.length ≤ c) (hr : RdC w lo hi A l) :
    Calls Try.prog 42 #[.int .i64 m, .slice A l.length c, .int .i64 n] w (RetI2 w (inP m l n)) := by
  cases h1 : areCut m l
  · rw [inP_bad (by simp [h1])]
    go_enter Try.func42, Try.ntmps42
    go_wp2_with (go_at_call 19; refine (impl_AreCutIns m A c l lo hi _ hl hcap hr).mono ?_; rintro e w1 ⟨rfl, hE1⟩; obtain ⟨hc1, hf1⟩ := bcell hE1; have hs1 := hE1.size; (try simp only [World.size_alloc] at hs1))
    go_ret2
    exact retI2_lit (by repeat (first | exact Ext.refl _ | assumption | refine Ext.trans ?_ (Ext.alloc _ _) | refine Ext.trans ?_ (Ext.drew _) | refine Ext.trans ?_ (Ext.drewN _ _) | refine Ext.trans ?_ (by assumption)))
  cases h2 : inB n 0 300
  · rw [inP_bad (by simp [h2])]
    go_enter Try.func42, Try.ntmps42
    go_wp2_with (first | (go_at_call 19; refine (impl_AreCutIns m A c l lo hi _ hl hcap hr).mono ?_; rintro e w1 ⟨rfl, hE1⟩; obtain ⟨hc1, hf1⟩ := bcell hE1; have hs1 := hE1.size; (try simp only [World.size_alloc] at hs1)) | (go_at_call 61; refine (isLineNumber_any _ _).mono ?_; rintro e w' ⟨rfl, rfl⟩))
    go_ret2
    exact retI2_lit (by repeat (first | exact Ext.refl _ | assumption | refine Ext.trans ?_ (Ext.alloc _ _) | refine Ext.trans ?_ (Ext.drew _) | refine Ext.trans ?_ (Ext.drewN _ _) | refine Ext.trans ?_ (by assumption)))
  rw [inP_good h1 h2]
  obtain ⟨s1, s2⟩ := inB_iff.1 h2
  obtain ⟨N, rfl⟩ := Int.eq_ofNat_of_zero_le s1
  rw [Int.toNat_natCast]
  obtain ⟨cs0, hmk, hf0⟩ := make_ints (P := Try.prog) 47 3 Try.underlying47 intInfo N (by omega)
  have HF0 := Lib.hid hf0; clear hf0
  go_enter Try.func42, Try.ntmps42
  go_wp2_with (first | (go_at_call 19; refine (impl_AreCutIns m A c l lo hi _ hl hcap hr).mono ?_; rintro e w1 ⟨rfl, hE1⟩; obtain ⟨hc1, hf1⟩ := bcell hE1; have hs1 := hE1.size; (try simp only [World.size_alloc] at hs1)) | (go_at_call 61; refine (isLineNumber_any _ _).mono ?_; rintro e w' ⟨rfl, rfl⟩))
  have H1 := Lib.hid h1
  clear h1 h2 hc1 hf1 hmk
  obtain ⟨G, hG⟩ : ∃ G, G = w1.heap.size := ⟨_, rfl⟩
  rw [← hG]
  have hB0 : Blk (w1.alloc (.cells cs0 3)) G 3 cs0 := by rw [hG]; exact Blk.new _ _ _
  have hwG : w.heap.size ≤ G := by omega
  clear hG
  go_loopw [26] (fun i wr => ∃ (k : Nat) (cur : Array Value), k ≤ N ∧ i = .int .i64 k ∧ Blk wr G 3 cur ∧ FillI cur N (fun i => if i < k then ind l i else 0) ∧ Ext w wr) (fun i _ => N - (intOf i).toNat)
  case atStart => exact ⟨0, cs0, Nat.zero_le _, rfl, hB0, HF0.out.congr (fun i _ => by simp), (by repeat (first | exact Ext.refl _ | assumption | refine Ext.trans ?_ (Ext.alloc _ _) | refine Ext.trans ?_ (Ext.drew _) | refine Ext.trans ?_ (Ext.drewN _ _) | refine Ext.trans ?_ (by assumption)))⟩
  case round =>
    obtain ⟨k, cur, hk, rfl, hB, hF, hE⟩ := hrel
    obtain ⟨wo, rfl⟩ : ∃ wo : World, wo = wr := ⟨_, rfl⟩
    by_cases hlt : k < N
    · go_wp2
      go_loopw [31] (fun i wr => ∃ (j : Nat) (cur : Array Value), j ≤ l.length ∧ i = .int .i64 j ∧ Blk wr G 3 cur ∧ FillI cur N (fun i => if i < k then ind l i else if i = k then indF k 0 (l.take j) else 0) ∧ Ext w wr) (fun i _ => l.length - (intOf i).toNat)
      case atStart => exact ⟨0, cur, Nat.zero_le _, rfl, hB, hF.congr (fun i _ => by by_cases h1 : i < k <;> simp [h1, indF]), hE⟩
      case round =>
        obtain ⟨j, cur, hj, rfl, hB, hF, hE⟩ := hrel
        by_cases hjt : j < l.length
        · obtain ⟨x, b, off, HX, rfl, h1, h2, h3, c0, c1, c2, c3⟩ := RdC.get (hr.ext hE) hjt
          obtain ⟨q0, r0⟩ := hF.cell hB hlt
          have hgl := hB.lt
          cases t1 : (x.side == 0)
          · go_wp2
            go_roundw
            case rel => exact ⟨j + 1, cur, by omega, by go_num, hB.ext (by repeat (first | exact Ext.refl _ | assumption | refine Ext.trans ?_ (Ext.alloc _ _) | refine Ext.trans ?_ (Ext.drew _) | refine Ext.trans ?_ (Ext.drewN _ _) | refine Ext.trans ?_ (by assumption))), hF.congr (fun i _ => by rw [indF_snoc HX.out]; simp [atP, t1]), (by repeat (first | exact Ext.refl _ | assumption | refine Ext.trans ?_ (Ext.alloc _ _) | refine Ext.trans ?_ (Ext.drew _) | refine Ext.trans ?_ (Ext.drewN _ _) | refine Ext.trans ?_ (by assumption)))⟩
            case measure => simp [intOf]; omega
          · cases t2 : beside x k
            · go_wp2_with (go_at_call 63; refine (isBeside_c x k _).mono ?_; rintro e w2 ⟨rfl, hE2⟩; obtain ⟨hc2, hf2⟩ := bcell hE2; have hs2 := hE2.size; (try simp only [World.size_alloc] at hs2))
              go_roundw
              case rel => exact ⟨j + 1, cur, by omega, by go_num, hB.ext (by repeat (first | exact Ext.refl _ | assumption | refine Ext.trans ?_ (Ext.alloc _ _) | refine Ext.trans ?_ (Ext.drew _) | refine Ext.trans ?_ (Ext.drewN _ _) | refine Ext.trans ?_ (by assumption))), hF.congr (fun i _ => by rw [indF_snoc HX.out]; simp [atP, t2]), (by repeat (first | exact Ext.refl _ | assumption | refine Ext.trans ?_ (Ext.alloc _ _) | refine Ext.trans ?_ (Ext.drew _) | refine Ext.trans ?_ (Ext.drewN _ _) | refine Ext.trans ?_ (by assumption)))⟩
              case measure => simp [intOf]; omega
            · go_wp2_with (go_at_call 63; refine (isBeside_c x k _).mono ?_; rintro e w2 ⟨rfl, hE2⟩; obtain ⟨hc2, hf2⟩ := bcell hE2; have hs2 := hE2.size; (try simp only [World.size_alloc] at hs2))
              go_roundw
              case rel => exact ⟨j + 1, _, by omega, by go_num, (hB.ext (by repeat (first | exact Ext.refl _ | assumption | refine Ext.trans ?_ (Ext.alloc _ _) | refine Ext.trans ?_ (Ext.drew _) | refine Ext.trans ?_ (Ext.drewN _ _) | refine Ext.trans ?_ (by assumption)))).set_ k _, (hF.set_ k x.wide).congr (fun i _ => by
                  rw [indF_snoc HX.out]
                  by_cases h1 : i = k
                  · subst h1; simp [atP, t1, t2]
                  · simp [h1]), Ext.setCell (by repeat (first | exact Ext.refl _ | assumption | refine Ext.trans ?_ (Ext.alloc _ _) | refine Ext.trans ?_ (Ext.drew _) | refine Ext.trans ?_ (Ext.drewN _ _) | refine Ext.trans ?_ (by assumption))) hwG _⟩
              case measure => simp [intOf]; omega
        · have hjl : j = l.length := by omega
          subst hjl
          clear hjt
          go_wp2
          go_roundw
          case rel => exact ⟨k + 1, cur, by omega, by go_num, hB, hF.congr (fun i _ => by
              rw [List.take_of_length_le (Nat.le_refl _), indF_ind H1.out]
              by_cases h1 : i < k
              · simp [h1]; omega
              · by_cases h2 : i = k
                · subst h2; simp
                · rw [if_neg h1, if_neg h2, if_neg (by omega)]), hE⟩
          case measure => simp [intOf]; omega
    · have hkl : k = N := by omega
      subst hkl
      clear hlt
      go_wp2
      go_ret2
      refine ⟨_, _, by rw [indL_len]; rfl, by rw [indL_len]; exact Nat.le_refl _, ?_, hE⟩
      exact hF.rd hB hwG (by rw [indL_len]) (fun i hi => by simp [indL, hi])
end Go.Proofs.Ytllgjgoimnimaaa
