/- The walks of LinesOfBreaks. -/
import Derived.Test.YtmfoankgfiofdaaParA
import Derived.Deep.Cut
namespace Go.Proofs.Ytmfoankgfiofdaa
open Go.RowKit
set_option linter.unusedVariables false
theorem lnL_rows (l ends : List Int) (k : Nat) : ∀ x ∈ lnL l ends k, x.length ≤ l.length := by
  intro x hx
  obtain ⟨p, _, rfl⟩ := List.mem_map.1 hx
  simp [cutL]; omega
theorem lbP_lim (l br : List Int) : bulk (lbP l br).1 ≤ 1048577000 := by
  cases h : (pw l && brk l br)
  · rw [lbP_bad h]; simp [bulk, totL]
  · rw [Bool.and_eq_true] at h
    rw [lbP_good h.1 h.2]
    have h1 := brk_len h.1 h.2
    have h2 := pw_len h.1
    have : ∀ k, k ≤ (lnL l (endsB l br) (br.length + 1)).length → totL (lnL l (endsB l br) (br.length + 1)) k ≤ 24 * k := by
      intro k
      induction k with
      | zero => intro _; simp [totL]
      | succ k ih =>
        intro hk
        have e : (lnL l (endsB l br) (br.length + 1))[k]? = some (lnL l (endsB l br) (br.length + 1))[k] := List.getElem?_eq_getElem (by omega)
        rw [totL_succ e]
        have := ih (by omega)
        have := lnL_rows l (endsB l br) (br.length + 1) _ (List.mem_of_getElem? e)
        omega
    have := this _ (Nat.le_refl _)
    rw [lnL_len] at this
    show bulk (lnL l (endsB l br) (br.length + 1)) ≤ _
    unfold bulk
    rw [lnL_len]
    omega
theorem cutL_end {l : List Int} {i : Nat} : cutL l i l.length = l.drop i := by rw [cutL, List.take_of_length_le (Nat.le_refl _)]
theorem impl_LinesOfBreaks (A B : Option Addr) (c d : Nat) (l br : List Int) (lo hi lo' hi' : Nat) (w : World) (hl : l.length ≤ 1048577) (hl' : br.length ≤ 1048577) (hcap : l.length ≤ c) (hr : RdI w lo hi A l) (hr' : RdI w lo' hi' B br) :
    Calls Try.prog 29 #[.slice A l.length c, .slice B br.length d] w (RetII2 w (lbP l br)) := by
  cases h1 : pw l
  · rw [lbP_bad (by simp [h1])]
    go_enter Try.func29, Try.ntmps29
    go_wp2_with (go_at_call 53; refine (impl_isParagraph A c l lo hi _ hl hr).mono ?_; rintro e w' ⟨rfl, rfl⟩)
    go_ret2
    exact retII2_lit (by repeat (first | exact Ext.refl _ | assumption | refine Ext.trans ?_ (Ext.alloc _ _) | refine Ext.trans ?_ (Ext.drew _) | refine Ext.trans ?_ (Ext.drewN _ _) | refine Ext.trans ?_ (by assumption)))
  cases h2 : brk l br
  · rw [lbP_bad (by simp [h2])]
    go_enter Try.func29, Try.ntmps29
    go_wp2_with (first | (go_at_call 53; refine (impl_isParagraph A c l lo hi _ hl hr).mono ?_; rintro e w' ⟨rfl, rfl⟩) | (go_at_call 44; refine (impl_areBreaks A B c d l br lo' hi' _ hl hl' hr').mono ?_; rintro e w1 ⟨rfl, hE1⟩; obtain ⟨hc1, hf1⟩ := bcell hE1; have hs1 := hE1.size; (try simp only [World.size_alloc] at hs1)))
    go_ret2
    exact retII2_lit (by repeat (first | exact Ext.refl _ | assumption | refine Ext.trans ?_ (Ext.alloc _ _) | refine Ext.trans ?_ (Ext.drew _) | refine Ext.trans ?_ (Ext.drewN _ _) | refine Ext.trans ?_ (by assumption)))
  rw [lbP_good h1 h2]
  have hpl := pw_len h1
  have hbl := brk_len h1 h2
  have hno : B = none → br.length = 0 := fun h => by have := (Rd.toA hr').none_ h; simpa using this
  have HNO := Lib.hid hno; clear hno
  obtain ⟨_, b, off, _, rfl, _, _, g3, _, _⟩ := RdI.get hr (k := 0) (by omega)
  obtain ⟨ends, hends⟩ : ∃ e, e = endsB l br := ⟨_, rfl⟩
  rw [← hends]
  have hel : ends.length = br.length + 1 := by rw [hends, endsB_len]
  have HEL := Lib.hid hel
  have HED : Hid (br.map (Value.int .i64) ++ [.int .i64 (l.length : Int)] = ends.map (Value.int .i64)) := by show _ = _; rw [hends, endsB, List.map_append]; rfl
  have AT : Hid (∀ (k : Nat) x, ends[k]? = some x → ∃ X : Nat, x = X ∧ 1 ≤ X ∧ X ≤ l.length ∧ fr ends k < X) := by
    show ∀ (k : Nat) x, _
    intro k x hx
    rw [hends] at hx ⊢
    obtain ⟨X, q1, q2, q3, _, q5⟩ := brk_at h1 h2 hx
    exact ⟨X, q1, q2, q3, q5⟩
  clear hends hel
  go_enter Try.func29, Try.ntmps29
  go_upto_region 5 with (first | (go_at_call 53; refine (impl_isParagraph _ c l lo hi _ hl hr).mono ?_; rintro e w' ⟨rfl, rfl⟩) | (go_at_call 44; refine (impl_areBreaks _ B c d l br lo' hi' _ hl hl' hr').mono ?_; rintro e w1 ⟨rfl, hE1⟩; obtain ⟨hc1, hf1⟩ := bcell hE1; have hs1 := hE1.size; (try simp only [World.size_alloc] at hs1)))
  clear h1 h2 hc1 hf1
  obtain ⟨w0, hw0⟩ : ∃ w0, w0 = w1.alloc (.cells #[] 22) := ⟨_, rfl⟩
  rw [← hw0]
  have hE0 : Ext w w0 := by rw [hw0]; exact (by repeat (first | exact Ext.refl _ | assumption | refine Ext.trans ?_ (Ext.alloc _ _) | refine Ext.trans ?_ (Ext.drew _) | refine Ext.trans ?_ (Ext.drewN _ _) | refine Ext.trans ?_ (by assumption)))
  have hown0 : w0.ownsRow w.heap.size 22 1 (.slice (some ⟨w1.heap.size, 0, none⟩) 0 0) 0 [] := by rw [hw0]; exact own_lit0 _ _ hs1 (Ext.refl _)
  have hz0 : w1.heap.size < w0.heap.size := by rw [hw0]; simp
  clear hw0
  go_wp2_with (first | (at_builtin; refine wp_app _ w0 rfl (.tmp 21) (.tmp 22) 22 rfl 3 _ 1 8 Try.underlying22 intInfo0 rfl (by omega) _ 0 [] rfl (own_lit0 _ _ (Nat.le_refl _) (Ext.refl _)) (by repeat (first | exact Ext.refl _ | assumption | refine Ext.trans ?_ (Ext.alloc _ _) | refine Ext.trans ?_ (Ext.drew _) | refine Ext.trans ?_ (Ext.drewN _ _) | refine Ext.trans ?_ (by assumption))) _ _ _ br.length _ (br.map (Value.int .i64)) rfl (by simp) (Rd.toA (hr'.ext (by repeat (first | exact Ext.refl _ | assumption | refine Ext.trans ?_ (Ext.alloc _ _) | refine Ext.trans ?_ (Ext.drew _) | refine Ext.trans ?_ (Ext.drewN _ _) | refine Ext.trans ?_ (by assumption))))) (ints_one br) (by omega) HNO.out ?_; intro v2 w2 hown2 hE2 hg2 hat2; rw [Nat.zero_add, List.nil_append] at hown2) | ((at_builtin; refine wp_app _ w0 rfl (.tmp 23) (.tmp 26) 22 rfl 3 _ 1 8 Try.underlying22 intInfo0 rfl (by omega) _ br.length _ rfl (ownsRow_ext hown2 (Ext.alloc _ _)) (hE2.trans (Ext.alloc _ _)) _ _ _ 1 1 [.int .i64 l.length] rfl rfl (rdA_new rfl (Ext.refl _)) (by simp [Value.oneCell']) (by omega) (by simp) ?_; intro v3 w3 hown3 hE3 hg3 hat3); rw [HED.out] at hown3; obtain ⟨AE, cE, rfl, hcE, _⟩ := own_form hown3))
  have hRE : RdI w3 w0.heap.size w3.heap.size AE ends := Rd.of_own hown3
  have hz3 := hE3.size
  obtain ⟨LE, hLE⟩ : ∃ L, L = w0.heap.size := ⟨_, rfl⟩
  obtain ⟨HE, hHE⟩ : ∃ H, H = w3.heap.size := ⟨_, rfl⟩
  rw [← hLE, ← hHE] at hRE
  have hL : w1.heap.size < LE := by omega
  have hown0' := ownsRow_ext hown0 hE3
  have hE03 := hE0.trans hE3
  clear hLE hHE hown3 hown2 hg2 hat2 hg3 hat3 hE3 hE2
  have hlen1 : br.length + 1 ≤ 25 := by omega
  go_loopw [6, 7, 29] (fun v f j wr => ∃ (k F : Nat) (rs : List Row), k ≤ br.length + 1 ∧ j = .int .i64 k ∧ f = .int .i64 F ∧ fr ends k = F ∧ GrowII wr w.heap.size 22 v (lnL l ends k) rs ∧ RdI wr LE HE AE ends ∧ Apart v LE HE ∧ Ext w wr) (fun _ _ j _ => br.length + 1 - (intOf j).toNat)
  case atStart => exact ⟨0, 0, [], Nat.zero_le _, rfl, rfl, rfl, GrowII.of0 hown0', hRE, Apart.at_ (.inl hL), hE03⟩
  case round =>
    obtain ⟨k, F, rs, hk, rfl, rfl, hF, hG, hRE, hap, hE⟩ := hrel
    have HF := Lib.hid hF; clear hF
    have hsz := hE.size
    have hlk := lnL_len l ends k
    have HLK := Lib.hid hlk
    have hlk2 : (lnL l ends k).length ≤ k := by omega
    clear hlk
    by_cases hlt : k < br.length + 1
    · obtain ⟨x, bE, offE, HX, rfl, _, _, h3, c0, _⟩ := RdI.get hRE (k := k) (by have := HEL.out; omega)
      obtain ⟨X, hX, hx1, hx2, hfx⟩ := AT.out k x HX.out
      subst hX
      rw [HF.out] at hfx
      have hat : endAt ends k = X := by rw [endAt_at HX.out]; rfl
      have HFS : Hid (fr ends (k + 1) = X) := by show _ = _; rw [fr_succ, hat]
      have HS : Hid (lnL l ends (k + 1) = lnL l ends k ++ [cutL l F X]) := by show _ = _; rw [lnL_succ, HF.out, hat]
      have hcF : ¬ c = F := by omega
      have hcut := cutL_len l (i := F) (k := X) (by omega)
      have HC := Lib.hid hcut
      have hRc := (hr.ext hE).cut F X
      clear hcut hat
      have HC2 : Hid ((cutL l F X).map (Value.int .i64) = (cutL l F X).map (Value.int .i64)) := rfl
      go_wp2_with (first | (at_builtin; refine wp_app _ wr rfl (.tmp 34) (.tmp 38) 22 rfl 3 _ 1 8 Try.underlying22 intInfo0 rfl (by omega) _ 0 [] rfl (own_lit0 _ _ (Nat.le_refl _) (Ext.refl _)) (by repeat (first | exact Ext.refl _ | assumption | refine Ext.trans ?_ (Ext.alloc _ _) | refine Ext.trans ?_ (Ext.drew _) | refine Ext.trans ?_ (Ext.drewN _ _) | refine Ext.trans ?_ (by assumption))) _ _ _ (X - F) _ ((cutL l F X).map (Value.int .i64)) rfl (by rw [List.length_map, HC.out]; omega) (Rd.toA (hRc.ext (by repeat (first | exact Ext.refl _ | assumption | refine Ext.trans ?_ (Ext.alloc _ _) | refine Ext.trans ?_ (Ext.drew _) | refine Ext.trans ?_ (Ext.drewN _ _) | refine Ext.trans ?_ (by assumption))))) (ints_one _) (by omega) (by simp) ?_; intro v3 w3 hown3 hE3 hg3 hat3; rw [Nat.zero_add, List.nil_append] at hown3; obtain ⟨A3, c3, rfl, hc3, _⟩ := own_form hown3; have hR3 : RdI w3 wr.heap.size w3.heap.size A3 (cutL l F X) := Rd.of_own hown3; clear hg3 hat3 hown3) | (at_builtin; refine wp_app _ w rfl (.tmp 33) (.tmp 40) 41 rfl 22 _ 1 24 Try.underlying41 sliceInfo rfl (by omega) _ _ _ rfl (ownsRow_ext hG.2.1 (hE3.trans (Ext.alloc _ _))) (by repeat (first | exact Ext.refl _ | assumption | refine Ext.trans ?_ (Ext.alloc _ _) | refine Ext.trans ?_ (Ext.drew _) | refine Ext.trans ?_ (Ext.drewN _ _) | refine Ext.trans ?_ (by assumption))) _ _ _ 1 1 [.slice A3 (X - F) c3] rfl rfl (rdA_new rfl (Ext.refl _)) (by simp [Value.oneCell']) (by omega) (by simp) ?_; intro v4 w4 hown4 hE4 hg4 hat4))
      go_roundw
      case rel => exact ⟨k + 1, X, _, by omega, by go_num, rfl, HFS.out, by rw [HS.out]; exact hG.push hE3 (by rw [HC.out]; exact hc3) hR3 hsz (by rw [HC.out]; exact hown4) _ hg4 hat4, Rd.app (hRE.ext hE3) hg4 hap, hap.app (hRE.ext hE3) hat4, hE4⟩
      case measure => simp [intOf]; omega
    · have hkl : k = br.length + 1 := by omega
      subst hkl
      clear hlt
      obtain ⟨A', c', rfl, hc'⟩ := hG.form
      go_wp2
      go_ret2
      exact ⟨A', c', rfl, hc', hG.rd hsz, hE⟩
theorem spec_paLines (A B : Option Addr) (c d : Nat) (l br : List Int) (lo hi lo' hi' : Nat) (w : World) (h1 : pw l = true) (h2 : brk l br = true) (hcap : l.length ≤ c) (hr : RdI w lo hi A l) (hr' : RdI w lo' hi' B br) :
    Calls Try.prog 42 #[.slice A l.length c, .slice B br.length d] w fun e w' => ∃ A' c', e = .returned (.slice A' (br.length + 1) c') ∧ br.length + 1 ≤ c' ∧ RdII w' w.heap.size w'.heap.size A' (lnL l (endsB l br) (br.length + 1)) ∧ Ext w w' := by
  have hpl := pw_len h1
  have hbl := brk_len h1 h2
  obtain ⟨_, b, off, _, rfl, _, _, g3, _, _⟩ := RdI.get hr (k := 0) (by omega)
  obtain ⟨ends, hends⟩ : ∃ e, e = endsB l br := ⟨_, rfl⟩
  rw [← hends]
  have AT : Hid (∀ (k : Nat) x, ends[k]? = some x → ∃ X : Nat, x = X ∧ 1 ≤ X ∧ X ≤ l.length ∧ fr ends k < X) := by
    show ∀ (k : Nat) x, _
    intro k x hx
    rw [hends] at hx ⊢
    obtain ⟨X, q1, q2, q3, _, q5⟩ := brk_at h1 h2 hx
    exact ⟨X, q1, q2, q3, q5⟩
  have BR : Hid (∀ (k : Nat) x, br[k]? = some x → ends[k]? = some x) := by
    show ∀ (k : Nat) x, _
    intro k x hx
    rw [hends, endsB, List.getElem?_append_left (List.getElem?_eq_some_iff.1 hx).1]; exact hx
  have LA : Hid (ends[br.length]? = some (l.length : Int)) := by show _ = _; rw [hends, endsB, List.getElem?_append_right (Nat.le_refl _)]; simp
  clear hends h1 h2
  go_enter Try.func42, Try.ntmps42
  go_wp2
  go_loopw [5, 6, 11] (fun v f j wr => ∃ (k F : Nat) (rs : List Row), k ≤ br.length ∧ j = .int .i64 k ∧ f = .int .i64 F ∧ fr ends k = F ∧ GrowII wr w.heap.size 22 v (lnL l ends k) rs ∧ Ext w wr) (fun _ _ j _ => br.length - (intOf j).toNat)
  case atStart => exact ⟨0, 0, [], Nat.zero_le _, rfl, rfl, rfl, GrowII.of0 (own_nil _ _ _ _), Ext.refl _⟩
  case round =>
    obtain ⟨k, F, rs, hk, rfl, rfl, hF, hG, hE⟩ := hrel
    have HF := Lib.hid hF; clear hF
    have hsz := hE.size
    have hlk := lnL_len l ends k
    have HLK := Lib.hid hlk
    have hlk2 : (lnL l ends k).length ≤ k := by omega
    clear hlk
    by_cases hlt : k < br.length
    · obtain ⟨x, bE, offE, HX, rfl, _, _, h3, c0, _⟩ := RdI.get (hr'.ext hE) hlt
      have HXE := Lib.hid (BR.out k x HX.out)
      obtain ⟨X, hX, hx1, hx2, hfx⟩ := AT.out k x HXE.out
      subst hX
      rw [HF.out] at hfx
      have hat : endAt ends k = X := by rw [endAt_at HXE.out]; rfl
      have HFS : Hid (fr ends (k + 1) = X) := by show _ = _; rw [fr_succ, hat]
      have HS : Hid (lnL l ends (k + 1) = lnL l ends k ++ [cutL l F X]) := by show _ = _; rw [lnL_succ, HF.out, hat]
      have hcF : ¬ c = F := by omega
      have hcut := cutL_len l (i := F) (k := X) (by omega)
      have HC := Lib.hid hcut
      have hRc := (hr.ext hE).cut F X
      clear hcut hat
      go_wp2_with fail
      refine (spec_l1Own _ (c - F) (X - F) (cutL l F X) _ _ _ HC.out (by omega) (Rd.toA hRc)).mono ?_
      rintro e w3 ⟨A3, c3, rfl, hc3, hR3, hE3⟩
      go_wp2_with (first | (at_builtin; refine wp_app _ w rfl (.tmp 15) (.tmp 21) 41 rfl 22 _ 1 24 Try.underlying41 sliceInfo rfl (by omega) _ _ _ rfl (ownsRow_ext hG.2.1 (hE3.trans (Ext.alloc _ _))) (by repeat (first | exact Ext.refl _ | assumption | refine Ext.trans ?_ (Ext.alloc _ _) | refine Ext.trans ?_ (Ext.drew _) | refine Ext.trans ?_ (Ext.drewN _ _) | refine Ext.trans ?_ (by assumption))) _ _ _ 1 1 [.slice A3 (cutL l F X).length c3] rfl rfl (rdA_new rfl (Ext.refl _)) (by simp [Value.oneCell']) (by omega) (by simp) ?_; intro v4 w4 hown4 hE4 hg4 hat4))
      go_roundw
      case rel => exact ⟨k + 1, X, _, by omega, by go_num, rfl, HFS.out, by rw [HS.out]; exact hG.push hE3 hc3 hR3 hsz hown4 _ hg4 hat4, hE4⟩
      case measure => simp [intOf]; omega
    · have hkl : k = br.length := by omega
      subst hkl
      clear hlt
      obtain ⟨X, hX, hx1, hx2, hfx⟩ := AT.out br.length _ LA.out
      have hXl : X = l.length := by omega
      subst hXl
      rw [HF.out] at hfx
      have hat : endAt ends br.length = l.length := by rw [endAt_at LA.out]; rfl
      have HS : Hid (lnL l ends (br.length + 1) = lnL l ends br.length ++ [cutL l F l.length]) := by show _ = _; rw [lnL_succ, HF.out, hat]
      have hcF : ¬ c = F := by omega
      have hcut := cutL_len l (i := F) (k := l.length) (by omega)
      have HC := Lib.hid hcut
      have hRc := (hr.ext hE).cut F l.length
      clear hcut hat hX
      go_wp2_with fail
      refine (spec_l1Own _ (c - F) (l.length - F) (cutL l F l.length) _ _ _ HC.out (by omega) (Rd.toA hRc)).mono ?_
      rintro e w3 ⟨A3, c3, rfl, hc3, hR3, hE3⟩
      go_wp2_with (first | (at_builtin; refine wp_app _ w rfl (.tmp 25) (.tmp 30) 41 rfl 22 _ 1 24 Try.underlying41 sliceInfo rfl (by omega) _ _ _ rfl (ownsRow_ext hG.2.1 (hE3.trans (Ext.alloc _ _))) (by repeat (first | exact Ext.refl _ | assumption | refine Ext.trans ?_ (Ext.alloc _ _) | refine Ext.trans ?_ (Ext.drew _) | refine Ext.trans ?_ (Ext.drewN _ _) | refine Ext.trans ?_ (by assumption))) _ _ _ 1 1 [.slice A3 (cutL l F l.length).length c3] rfl rfl (rdA_new rfl (Ext.refl _)) (by simp [Value.oneCell']) (by omega) (by simp) ?_; intro v4 w4 hown4 hE4 hg4 hat4))
      have hG4 := hG.push hE3 hc3 hR3 hsz hown4 _ hg4 hat4
      rw [← HS.out] at hG4
      obtain ⟨A', c', rfl, hc'⟩ := hG4.form
      go_ret
      exact ⟨A', c', by rw [lnL_len]; rfl, by rw [lnL_len] at hc'; exact hc', hG4.rd hE4.size, hE4⟩
theorem spec_LinesOfBreaks (A B : Option Addr) (c d : Nat) (l br : List Int) (lo hi lo' hi' : Nat) (w : World) (hl : l.length ≤ 1048577) (hl' : br.length ≤ 1048577) (hcap : l.length ≤ c) (hr : RdI w lo hi A l) (hr' : RdI w lo' hi' B br) :
    Calls Try.prog 28 #[.slice A l.length c, .slice B br.length d] w (RetII2 w (lbP l br)) := by
  cases h1 : pw l
  · rw [lbP_bad (by simp [h1])]
    go_enter Try.func28, Try.ntmps28
    go_wp2_with (go_at_call 52; refine (spec_paWords A c l lo hi _ hl hr).mono ?_; rintro e w' ⟨rfl, rfl⟩)
    go_ret2
    exact retII2_lit (by repeat (first | exact Ext.refl _ | assumption | refine Ext.trans ?_ (Ext.alloc _ _) | refine Ext.trans ?_ (Ext.drew _) | refine Ext.trans ?_ (Ext.drewN _ _) | refine Ext.trans ?_ (by assumption)))
  cases h2 : brk l br
  · rw [lbP_bad (by simp [h2])]
    go_enter Try.func28, Try.ntmps28
    go_wp2_with (first | (go_at_call 52; refine (spec_paWords A c l lo hi _ hl hr).mono ?_; rintro e w' ⟨rfl, rfl⟩) | (go_at_call 41; refine (spec_paBreaks A B c d l br lo' hi' _ hl hl' hr').mono ?_; rintro e w1 ⟨rfl, hE1⟩; obtain ⟨hc1, hf1⟩ := bcell hE1; have hs1 := hE1.size; (try simp only [World.size_alloc] at hs1)))
    go_ret2
    exact retII2_lit (by repeat (first | exact Ext.refl _ | assumption | refine Ext.trans ?_ (Ext.alloc _ _) | refine Ext.trans ?_ (Ext.drew _) | refine Ext.trans ?_ (Ext.drewN _ _) | refine Ext.trans ?_ (by assumption)))
  rw [lbP_good h1 h2]
  go_enter Try.func28, Try.ntmps28
  go_wp2_with (first | (go_at_call 52; refine (spec_paWords A c l lo hi _ hl hr).mono ?_; rintro e w' ⟨rfl, rfl⟩) | (go_at_call 41; refine (spec_paBreaks A B c d l br lo' hi' _ hl hl' hr').mono ?_; rintro e w1 ⟨rfl, hE1⟩; obtain ⟨hc1, hf1⟩ := bcell hE1; have hs1 := hE1.size; (try simp only [World.size_alloc] at hs1)))
  refine (spec_paLines A B c d l br lo hi lo' hi' _ h1 h2 hcap (hr.ext hE1) (hr'.ext hE1)).mono ?_
  rintro e w2 ⟨A2, c2, rfl, hc2, hR2, hE2⟩
  go_wp2_with fail
  go_ret2
  refine ⟨A2, c2, by simp only [lnL_len]; rfl, by simp only [lnL_len]; exact hc2, ?_, (by repeat (first | exact Ext.refl _ | assumption | refine Ext.trans ?_ (Ext.alloc _ _) | refine Ext.trans ?_ (Ext.drew _) | refine Ext.trans ?_ (Ext.drewN _ _) | refine Ext.trans ?_ (by assumption)))⟩
  obtain ⟨rs, p0, q0, g1, g2, g3, g4, g5, g6, g7⟩ := hR2
  exact ⟨rs, p0, q0, g1, by omega, g3, g4, g5, fun i r l hr hl => by obtain ⟨k1, k2, k3, k4, k5⟩ := g6 i r l hr hl; exact ⟨k1, k2, by omega, k4, k5⟩, g7⟩
end Go.Proofs.Ytmfoankgfiofdaa
