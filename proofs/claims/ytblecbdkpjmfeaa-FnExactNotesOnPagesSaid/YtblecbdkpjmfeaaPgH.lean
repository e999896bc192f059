/- The walks of PageDepths. -/
import Derived.Test.YtblecbdkpjmfeaaPgF
import Derived.Test.YtblecbdkpjmfeaaApart
namespace Go.Proofs.Ytblecbdkpjmfeaa
open Go.RowKit
set_option linter.unusedVariables false
/-- The first line of page p. -/
def fr (ends : List Int) (p : Nat) : Nat := if p = 0 then 0 else endAt ends (p - 1)
theorem fr_succ (ends : List Int) (p : Nat) : fr ends (p + 1) = endAt ends p := by simp [fr]
theorem ends_lt {l : List SetL} {ends : List Int} (h : areE l ends = true) {p q : Nat} (hpq : p < q) (hq : q < ends.length) : endAt ends p < endAt ends q := by
  obtain ⟨_, _, h3, _, _, _⟩ := areE_parts h
  obtain ⟨x, hx⟩ : ∃ x, ends[p]? = some x := ⟨_, List.getElem?_eq_getElem (by omega)⟩
  obtain ⟨y, hy⟩ : ∃ y, ends[q]? = some y := ⟨_, List.getElem?_eq_getElem hq⟩
  have := rise_lt h3 (q - p) p x y hx (by rw [show p + (q - p) = q by omega]; exact hy)
  have := (rise_at h3 hx).1
  rw [endAt_at hx, endAt_at hy]
  omega
theorem ends_le {l : List SetL} {ends : List Int} (h : areE l ends = true) {p : Nat} (hp : p < ends.length) : 1 ≤ endAt ends p ∧ endAt ends p ≤ l.length := by
  obtain ⟨x, hx⟩ : ∃ x, ends[p]? = some x := ⟨_, List.getElem?_eq_getElem hp⟩
  obtain ⟨X, rfl, h1, h2⟩ := areE_le h hx
  rw [endAt_at hx]
  exact ⟨h1, h2⟩
theorem fr_lt {l : List SetL} {ends : List Int} (h : areE l ends = true) {p : Nat} (hp : p < ends.length) : fr ends p < endAt ends p := by
  unfold fr
  split
  · have := ends_le h hp; omega
  · exact ends_lt h (by omega) hp
theorem fr_ge {l : List SetL} {ends : List Int} (h : areE l ends = true) {q p : Nat} (hqp : q < p) (hp : p ≤ ends.length) : endAt ends q ≤ fr ends p := by
  unfold fr
  rw [if_neg (by omega)]
  by_cases e : q = p - 1
  · subst e; exact Nat.le_refl _
  · exact Nat.le_of_lt (ends_lt h (by omega) (by omega))
def pageV (b off c : Nat) (ends : List Int) (p : Nat) : Value := .slice (some ⟨b, off + fr ends p * 3, none⟩) (endAt ends p - fr ends p) (c - fr ends p)
def pageVs (b off c : Nat) (ends : List Int) (k : Nat) : List Value := (List.range k).map (pageV b off c ends)
theorem pageVs_len (b off c : Nat) (ends : List Int) (k : Nat) : (pageVs b off c ends k).length = k := by simp [pageVs]
theorem pageVs_succ (b off c : Nat) (ends : List Int) (k : Nat) : pageVs b off c ends (k + 1) = pageVs b off c ends k ++ [pageV b off c ends k] := by simp [pageVs, List.range_succ]
theorem pageInfo : (Try.prog.info? 25).map (fun i => (i.zero, i.size, i.bytes)) = some (some (.slice none 0 0), 1, 24) := by kernel_rfl
def RetPg (w : World) (vs : List Value) (e : Ending) (w' : World) : Prop := ∃ A c, e = .returned (.slice A vs.length c) ∧ Rd w' w.heap.size w'.heap.size A vs ∧ Ext w w'
theorem impl_pagesOf (B : Option Addr) (b off c d : Nat) (l : List SetL) (ends : List Int) (lo hi lo' hi' : Nat) (w : World) (h : areE l ends = true) (hcap : l.length ≤ c) (hr : RdS w lo hi (some ⟨b, off, none⟩) l) (hr' : RdI w lo' hi' B ends) :
    Calls Try.prog 54 #[.slice (some ⟨b, off, none⟩) l.length c, .slice B ends.length d] w (RetPg w (pageVs b off c ends ends.length)) := by
  obtain ⟨_, hn0, _, _, hl40, he40⟩ := areE_parts h
  have H := Lib.hid h; clear h
  go_enter Try.func54, Try.ntmps54
  go_wp2
  go_loopw [5, 6, 12] (fun v f i wr => ∃ (k F : Nat), k ≤ ends.length ∧ i = .int .i64 k ∧ f = .int .i64 F ∧ fr ends k = F ∧ wr.ownsRow w.heap.size 25 1 v k (pageVs b off c ends k) ∧ Ext w wr) (fun _ _ i _ => ends.length - (intOf i).toNat)
  case atStart => exact ⟨0, 0, Nat.zero_le _, rfl, rfl, rfl, own_lit0 _ _ (Nat.le_refl _) (Ext.refl _), (by repeat (first | exact Ext.refl _ | assumption | refine Ext.trans ?_ (Ext.alloc _ _) | refine Ext.trans ?_ (Ext.drew _) | refine Ext.trans ?_ (Ext.drewN _ _) | refine Ext.trans ?_ (by assumption)))⟩
  case round =>
    obtain ⟨k, F, hk, rfl, rfl, hF, hown, hE⟩ := hrel
    have HF := Lib.hid hF; clear hF
    by_cases hlt : k < ends.length
    · obtain ⟨x, b', off', HX, rfl, _, _, h3, c0, _⟩ := RdI.get (hr'.ext hE) hlt
      obtain ⟨X, hX, hx1, hx2⟩ := areE_le H.out HX.out
      subst hX
      have hat : endAt ends k = X := by rw [endAt_at HX.out]; rfl
      have hfx : F < X := by have := fr_lt H.out hlt; rw [hat, HF.out] at this; exact this
      have hpv : pageV b off c ends k = .slice (some ⟨b, off + F * 3, none⟩) (X - F) (c - F) := by rw [pageV, hat, HF.out]
      have hfs : fr ends (k + 1) = X := by rw [fr_succ, hat]
      have HPV := Lib.hid hpv
      have HFS := Lib.hid hfs
      clear hat hpv hfs
      have hcF : ¬ c = F := by omega
      go_wp2_with (first | (at_builtin; refine wp_app _ w rfl (.tmp 16) (.tmp 21) 51 rfl 25 _ 1 24 Try.underlying51 pageInfo rfl (by omega) _ k _ rfl (ownsRow_ext hown (Ext.alloc _ _)) (hE.trans (Ext.alloc _ _)) _ _ _ 1 1 [.slice (some ⟨b, off + F * 3, none⟩) (X - F) (c - F)] rfl rfl (rdA_new rfl (Ext.refl _)) (by simp [Value.oneCell']) (by omega) (by simp) ?_; intro v3 w3 hown3 hE3 hg3 hat3))
      go_roundw
      case rel => exact ⟨k + 1, X, by omega, by go_num, rfl, HFS.out, by rw [pageVs_succ, HPV.out]; exact hown3, hE3⟩
      case measure => simp [intOf]; omega
    · have hkl : k = ends.length := by omega
      subst hkl
      clear hlt
      obtain ⟨A', c', rfl, hc', _⟩ := own_form hown
      go_wp2
      go_ret
      exact ⟨A', c', by rw [pageVs_len]; rfl, Rd.of_own hown, hE⟩
def pdL (l : List SetL) (ends : List Int) (k : Nat) : List Int := (List.range k).map fun p => deep (cutL l (fr ends p) (endAt ends p))
theorem pdL_len (l : List SetL) (ends : List Int) (k : Nat) : (pdL l ends k).length = k := by simp [pdL]
theorem pdL_succ (l : List SetL) (ends : List Int) (k : Nat) : pdL l ends (k + 1) = pdL l ends k ++ [deep (cutL l (fr ends k) (endAt ends k))] := by simp [pdL, List.range_succ]
def pdP (l : List SetL) (ends : List Int) : List Int × Bool := if areE l ends then (pdL l ends ends.length, true) else ([], false)
theorem pdP_bad {l : List SetL} {ends : List Int} (h : areE l ends = false) : pdP l ends = ([], false) := by simp only [pdP, h]; rfl
theorem pdP_good {l : List SetL} {ends : List Int} (h : areE l ends = true) : pdP l ends = (pdL l ends ends.length, true) := by simp only [pdP, h]; rfl
theorem pdP_len (l : List SetL) (ends : List Int) : (pdP l ends).1.length ≤ 4000000 := by
  cases h : areE l ends
  · rw [pdP_bad h]; simp
  · rw [pdP_good h]; have := areE_parts h; simp only [pdL_len]; omega
theorem gal_pos {l : List SetL} {ends : List Int} (h : areE l ends = true) : 0 < l.length := by
  have := ends_le h (p := 0) (areE_parts h).2.1; omega
theorem impl_PageDepths (A B : Option Addr) (c d : Nat) (l : List SetL) (ends : List Int) (lo hi lo' hi' : Nat) (w : World) (hl : l.length ≤ 1048577) (hl' : ends.length ≤ 1048577) (hcap : l.length ≤ c) (hq : InRS l) (hr : RdS w lo hi A l) (hr' : RdI w lo' hi' B ends) :
    Calls Try.prog 35 #[.slice A l.length c, .slice B ends.length d] w (RetI2 w (pdP l ends)) := by
  cases h : areE l ends
  · rw [pdP_bad h]
    go_enter Try.func35, Try.ntmps35
    go_wp2_with (go_at_call 48; refine (impl_areEnds A B c d l ends lo hi lo' hi' _ hl hl' hq hr hr').mono ?_; rintro e w1 ⟨rfl, hE1⟩; obtain ⟨hc1, hf1⟩ := bcell hE1; have hs1 := hE1.size; (try simp only [World.size_alloc] at hs1))
    go_ret2
    exact retI2_lit (by repeat (first | exact Ext.refl _ | assumption | refine Ext.trans ?_ (Ext.alloc _ _) | refine Ext.trans ?_ (Ext.drew _) | refine Ext.trans ?_ (Ext.drewN _ _) | refine Ext.trans ?_ (by assumption)))
  rw [pdP_good h]
  obtain ⟨_, hn0, _, _, hl40, he40⟩ := areE_parts h
  obtain ⟨_, b, off, _, rfl, _, _, g3, _, _, _⟩ := RdS.get hr (k := 0) (gal_pos h)
  go_enter Try.func35, Try.ntmps35
  go_wp2_with (go_at_call 48; refine (impl_areEnds _ B c d l ends lo hi lo' hi' _ hl hl' hq hr hr').mono ?_; rintro e w1 ⟨rfl, hE1⟩; obtain ⟨hc1, hf1⟩ := bcell hE1; have hs1 := hE1.size; (try simp only [World.size_alloc] at hs1))
  have H := Lib.hid h; clear h hc1 hf1
  refine (impl_pagesOf B b off c d l ends lo hi lo' hi' _ H.out hcap (hr.ext (by repeat (first | exact Ext.refl _ | assumption | refine Ext.trans ?_ (Ext.alloc _ _) | refine Ext.trans ?_ (Ext.drew _) | refine Ext.trans ?_ (Ext.drewN _ _) | refine Ext.trans ?_ (by assumption)))) (hr'.ext (by repeat (first | exact Ext.refl _ | assumption | refine Ext.trans ?_ (Ext.alloc _ _) | refine Ext.trans ?_ (Ext.drew _) | refine Ext.trans ?_ (Ext.drewN _ _) | refine Ext.trans ?_ (by assumption))))).mono ?_
  rintro e w2 ⟨A2, c2, rfl, hR2, hE2⟩
  rw [pageVs_len]
  have hs2 := hE2.size
  simp only [World.size_alloc] at hs2
  obtain ⟨L2, hL2⟩ : ∃ L, L = (w1.alloc (.cells #[] 3)).heap.size := ⟨_, rfl⟩
  obtain ⟨H2, hH2⟩ : ∃ H, H = w2.heap.size := ⟨_, rfl⟩
  rw [← hL2, ← hH2] at hR2
  have hL3 : w1.heap.size < L2 := by rw [hL2]; simp
  clear hL2 hH2
  go_wp2_with fail
  go_loopw [6, 19] (fun v i wr => ∃ k : Nat, k ≤ ends.length ∧ i = .int .i64 k ∧ wr.ownsRow w.heap.size 3 1 v k ((pdL l ends k).map (Value.int .i64)) ∧ Rd wr L2 H2 A2 (pageVs b off c ends ends.length) ∧ Apart v L2 H2 ∧ Ext w wr) (fun _ i _ => ends.length - (intOf i).toNat)
  case atStart => exact ⟨0, Nat.zero_le _, rfl, own_lit0 _ _ hs1 hE2, hR2, Apart.at_ (.inl hL3), (by repeat (first | exact Ext.refl _ | assumption | refine Ext.trans ?_ (Ext.alloc _ _) | refine Ext.trans ?_ (Ext.drew _) | refine Ext.trans ?_ (Ext.drewN _ _) | refine Ext.trans ?_ (by assumption)))⟩
  case round =>
    obtain ⟨k, hk, rfl, hown, hR2, hap, hE⟩ := hrel
    by_cases hlt : k < ends.length
    · obtain ⟨b2, off2, rfl, _, _, h3, hc⟩ := Rd.at_ hR2 (k := k) (by rw [pageVs_len]; exact hlt)
      have hcell := (hc k (pageV b off c ends k) (by simp [pageVs, hlt])).1
      have h1 := fr_lt H.out hlt
      have h2 := ends_le H.out hlt
      rw [pageV] at hcell
      have hcut := cutL_len l (i := fr ends k) (k := endAt ends k) (by omega)
      have HC := Lib.hid hcut
      clear hc hcut
      go_wp2_with (first | (go_at_call 53; refine (impl_depthOf (some ⟨b, off + fr ends k * 3, none⟩) (c - fr ends k) (endAt ends k - fr ends k) (cutL l (fr ends k) (endAt ends k)) lo hi _ HC.out (by omega) ((hr.ext (by repeat (first | exact Ext.refl _ | assumption | refine Ext.trans ?_ (Ext.alloc _ _) | refine Ext.trans ?_ (Ext.drew _) | refine Ext.trans ?_ (Ext.drewN _ _) | refine Ext.trans ?_ (by assumption)))).cut (fr ends k) (endAt ends k))).mono ?_; rintro e w4 ⟨rfl, hE4⟩; obtain ⟨hc4, hf4⟩ := bcell hE4; have hs4 := hE4.size; (try simp only [World.size_alloc] at hs4)) | (at_builtin; refine wp_app _ w rfl (.tmp 23) (.tmp 26) 32 rfl 3 _ 1 8 Try.underlying32 intInfo rfl (by omega) _ k _ rfl (ownsRow_ext hown (hE4.trans (Ext.alloc _ _))) (by repeat (first | exact Ext.refl _ | assumption | refine Ext.trans ?_ (Ext.alloc _ _) | refine Ext.trans ?_ (Ext.drew _) | refine Ext.trans ?_ (Ext.drewN _ _) | refine Ext.trans ?_ (by assumption))) _ _ _ 1 1 [.int .i64 (deep (cutL l (fr ends k) (endAt ends k)))] rfl rfl (rdA_new rfl (Ext.refl _)) (by simp [Value.oneCell']) (by omega) (by simp) ?_; intro v3 w3 hown3 hE3 hg3 hat3))
      go_roundw
      case rel => exact ⟨k + 1, by omega, by go_num, by rw [pdL_succ, List.map_append]; exact hown3, Rd.app (hR2.ext hE4) hg3 hap, hap.app (hR2.ext hE4) hat3, hE3⟩
      case measure => simp [intOf]; omega
    · have hkl : k = ends.length := by omega
      subst hkl
      clear hlt
      obtain ⟨A', c', rfl, hc', _⟩ := own_form hown
      go_wp2
      go_ret2
      exact ⟨A', c', by rw [pdL_len]; rfl, by rw [pdL_len]; exact hc', Rd.of_own hown, (by repeat (first | exact Ext.refl _ | assumption | refine Ext.trans ?_ (Ext.alloc _ _) | refine Ext.trans ?_ (Ext.drew _) | refine Ext.trans ?_ (Ext.drewN _ _) | refine Ext.trans ?_ (by assumption)))⟩
theorem spec_PageDepths (A B : Option Addr) (c d : Nat) (l : List SetL) (ends : List Int) (lo hi lo' hi' : Nat) (w : World) (hl : l.length ≤ 1048577) (hl' : ends.length ≤ 1048577) (hcap : l.length ≤ c) (hq : InRS l) (hr : RdS w lo hi A l) (hr' : RdI w lo' hi' B ends) :
    Calls Try.prog 34 #[.slice A l.length c, .slice B ends.length d] w (RetI2 w (pdP l ends)) := by
  cases h : areE l ends
  · rw [pdP_bad h]
    go_enter Try.func34, Try.ntmps34
    go_wp2_with (go_at_call 46; refine (spec_pgEnds A B c d l ends lo hi lo' hi' _ hl hl' hr hr').mono ?_; rintro e w1 ⟨rfl, hE1⟩; obtain ⟨hc1, hf1⟩ := bcell hE1; have hs1 := hE1.size; (try simp only [World.size_alloc] at hs1))
    go_ret2
    exact retI2_lit (by repeat (first | exact Ext.refl _ | assumption | refine Ext.trans ?_ (Ext.alloc _ _) | refine Ext.trans ?_ (Ext.drew _) | refine Ext.trans ?_ (Ext.drewN _ _) | refine Ext.trans ?_ (by assumption)))
  rw [pdP_good h]
  obtain ⟨_, hn0, _, _, hl40, he40⟩ := areE_parts h
  obtain ⟨_, b, off, _, rfl, _, _, g3, _, _, _⟩ := RdS.get hr (k := 0) (gal_pos h)
  go_enter Try.func34, Try.ntmps34
  go_wp2_with (go_at_call 46; refine (spec_pgEnds _ B c d l ends lo hi lo' hi' _ hl hl' hr hr').mono ?_; rintro e w1 ⟨rfl, hE1⟩; obtain ⟨hc1, hf1⟩ := bcell hE1; have hs1 := hE1.size; (try simp only [World.size_alloc] at hs1))
  have H := Lib.hid h; clear h hc1 hf1
  go_loopw [6, 7, 16] (fun v f i wr => ∃ (k F : Nat), k ≤ ends.length ∧ i = .int .i64 k ∧ f = .int .i64 F ∧ fr ends k = F ∧ wr.ownsRow w.heap.size 3 1 v k ((pdL l ends k).map (Value.int .i64)) ∧ Ext w wr) (fun _ _ i _ => ends.length - (intOf i).toNat)
  case atStart => exact ⟨0, 0, Nat.zero_le _, rfl, rfl, rfl, own_nil _ _ _ _, (by repeat (first | exact Ext.refl _ | assumption | refine Ext.trans ?_ (Ext.alloc _ _) | refine Ext.trans ?_ (Ext.drew _) | refine Ext.trans ?_ (Ext.drewN _ _) | refine Ext.trans ?_ (by assumption)))⟩
  case round =>
    obtain ⟨k, F, hk, rfl, rfl, hF, hown, hE⟩ := hrel
    have HF := Lib.hid hF; clear hF
    by_cases hlt : k < ends.length
    · obtain ⟨x, b', off', HX, rfl, _, _, h3, c0, _⟩ := RdI.get (hr'.ext hE) hlt
      obtain ⟨X, hX, hx1, hx2⟩ := areE_le H.out HX.out
      subst hX
      have hat : endAt ends k = X := by rw [endAt_at HX.out]; rfl
      have hfx : F < X := by have := fr_lt H.out hlt; rw [hat, HF.out] at this; exact this
      have hfs : fr ends (k + 1) = X := by rw [fr_succ, hat]
      have hps : pdL l ends (k + 1) = pdL l ends k ++ [deep (cutL l F X)] := by rw [pdL_succ, hat, HF.out]
      have HPS := Lib.hid hps
      have HFS := Lib.hid hfs
      clear hat hps hfs
      have hcF : ¬ c = F := by omega
      have hcut := cutL_len l (i := F) (k := X) (by omega)
      have HC := Lib.hid hcut
      clear hcut
      go_wp2_with (first | (go_at_call 52; refine (spec_pgDeep (some ⟨b, off + F * 3, none⟩) (c - F) (X - F) (cutL l F X) lo hi _ HC.out (by omega) ((hr.ext (by repeat (first | exact Ext.refl _ | assumption | refine Ext.trans ?_ (Ext.alloc _ _) | refine Ext.trans ?_ (Ext.drew _) | refine Ext.trans ?_ (Ext.drewN _ _) | refine Ext.trans ?_ (by assumption)))).cut F X)).mono ?_; rintro e w4 ⟨rfl, hE4⟩; obtain ⟨hc4, hf4⟩ := bcell hE4; have hs4 := hE4.size; (try simp only [World.size_alloc] at hs4)) | (at_builtin; refine wp_app _ w rfl (.tmp 20) (.tmp 26) 32 rfl 3 _ 1 8 Try.underlying32 intInfo rfl (by omega) _ k _ rfl (ownsRow_ext hown (hE4.trans (Ext.alloc _ _))) (by repeat (first | exact Ext.refl _ | assumption | refine Ext.trans ?_ (Ext.alloc _ _) | refine Ext.trans ?_ (Ext.drew _) | refine Ext.trans ?_ (Ext.drewN _ _) | refine Ext.trans ?_ (by assumption))) _ _ _ 1 1 [.int .i64 (deep (cutL l F X))] rfl rfl (rdA_new rfl (Ext.refl _)) (by simp [Value.oneCell']) (by omega) (by simp) ?_; intro v3 w3 hown3 hE3 hg3 hat3))
      go_roundw
      case rel => exact ⟨k + 1, X, by omega, by go_num, rfl, HFS.out, by rw [HPS.out, List.map_append]; exact hown3, (by repeat (first | exact Ext.refl _ | assumption | refine Ext.trans ?_ (Ext.alloc _ _) | refine Ext.trans ?_ (Ext.drew _) | refine Ext.trans ?_ (Ext.drewN _ _) | refine Ext.trans ?_ (by assumption)))⟩
      case measure => simp [intOf]; omega
    · have hkl : k = ends.length := by omega
      subst hkl
      clear hlt
      obtain ⟨A', c', rfl, hc', _⟩ := own_form hown
      go_wp2
      go_ret2
      exact ⟨A', c', by rw [pdL_len]; rfl, by rw [pdL_len]; exact hc', Rd.of_own hown, (by repeat (first | exact Ext.refl _ | assumption | refine Ext.trans ?_ (Ext.alloc _ _) | refine Ext.trans ?_ (Ext.drew _) | refine Ext.trans ?_ (Ext.drewN _ _) | refine Ext.trans ?_ (by assumption)))⟩
end Go.Proofs.Ytblecbdkpjmfeaa
