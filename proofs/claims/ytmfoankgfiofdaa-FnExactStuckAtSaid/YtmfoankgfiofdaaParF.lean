/- The walk of the reference's CostOfBreaks; the copy of a Rule. -/
import Derived.Test.YtmfoankgfiofdaaParE
namespace Go.Proofs.Ytmfoankgfiofdaa
open Go.RowKit
set_option linter.unusedVariables false
theorem paLine_v (A : Option Addr) (c n : Nat) (l : List Int) (r : Rul) (m : Int) (lo hi : Nat) (w : World) (last b : Bool) (hla : last = false) (hb : lineOk l r m = b) (hn : l.length = n) (h1 : 1 ≤ l.length) (h2 : l.length ≤ 24) (hw : ∀ x ∈ l, 1 ≤ x ∧ x ≤ 600) (r1 : 1 ≤ r.least) (r2 : r.least ≤ r.normal) (r3 : r.normal ≤ r.most) (r4 : r.most ≤ 54) (m1 : 1 ≤ m) (m2 : m ≤ 2000) (hr : RdI w lo hi A l) :
    Calls Try.prog 43 #[.slice A n c, .agg #[.int .i64 r.least, .int .i64 r.normal, .int .i64 r.most], .int .i64 m, .bool last] w fun e w' => e = .returned (.tuple #[.int .i64 (lc l r m), .bool b]) ∧ Ext w w' := by
  rw [← hb, hla]; exact spec_paLine A c n l r m lo hi w hn h1 h2 hw r1 r2 r3 r4 m1 m2 hr
theorem paLine_w (A : Option Addr) (c n : Nat) (l : List Int) (r : Rul) (m : Int) (lo hi : Nat) (w : World) (last b : Bool) (hla : last = true) (hb : canEnd l r m = b) (hn : l.length = n) (h1 : 1 ≤ l.length) (h2 : l.length ≤ 24) (hw : ∀ x ∈ l, 1 ≤ x ∧ x ≤ 600) (r1 : 1 ≤ r.least) (r2 : r.least ≤ r.normal) (r3 : r.normal ≤ r.most) (r4 : r.most ≤ 54) (m1 : 1 ≤ m) (m2 : m ≤ 2000) (hr : RdI w lo hi A l) :
    Calls Try.prog 43 #[.slice A n c, .agg #[.int .i64 r.least, .int .i64 r.normal, .int .i64 r.most], .int .i64 m, .bool last] w fun e w' => e = .returned (.tuple #[.int .i64 0, .bool b]) ∧ Ext w w' := by
  rw [← hb, hla]; exact spec_paLine_last A c n l r m lo hi w hn h1 h2 hw r1 r2 r3 r4 m1 m2 hr
theorem spec_CostOfBreaks (A B : Option Addr) (c d : Nat) (l br : List Int) (r : Rul) (m : Int) (lo hi lo' hi' : Nat) (w : World) (hl : l.length ≤ 1048577) (hl' : br.length ≤ 1048577) (hcap : l.length ≤ c) (hr : RdI w lo hi A l) (hr' : RdI w lo' hi' B br) :
    Calls Try.prog 20 #[.slice A l.length c, .agg #[.int .i64 r.least, .int .i64 r.normal, .int .i64 r.most], .int .i64 m, .slice B br.length d] w fun e w' => e = .returned (.tuple #[.int .i64 (cobP l r m br).1, .bool (cobP l r m br).2]) ∧ Ext w w' := by
  have hq := hr.ext (Ext.alloc w (.cells #[.int .i64 r.least, .int .i64 r.normal, .int .i64 r.most] 28))
  have hq' := hr'.ext (Ext.alloc w (.cells #[.int .i64 r.least, .int .i64 r.normal, .int .i64 r.most] 28))
  cases h1 : asked l r m
  · rw [cobP_bad (by simp [h1])]
    go_enter Try.func20, Try.ntmps20
    go_wp2_with (first | (go_at_call 35; refine (spec_asked A c l r m lo hi _ hl hq).mono ?_; rintro e w1 ⟨rfl, hE1⟩; obtain ⟨hc1, hf1⟩ := bcell hE1; have hs1 := hE1.size; (try simp only [World.size_alloc] at hs1)))
    go_ret2
    exact ⟨rfl, (by repeat (first | exact Ext.refl _ | assumption | refine Ext.trans ?_ (Ext.alloc _ _) | refine Ext.trans ?_ (Ext.drew _) | refine Ext.trans ?_ (Ext.drewN _ _) | refine Ext.trans ?_ (by assumption)))⟩
  cases h2 : brk l br
  · rw [cobP_bad (by simp [h2])]
    go_enter Try.func20, Try.ntmps20
    go_wp2_with (first | (go_at_call 35; refine (spec_asked A c l r m lo hi _ hl hq).mono ?_; rintro e w1 ⟨rfl, hE1⟩; obtain ⟨hc1, hf1⟩ := bcell hE1; have hs1 := hE1.size; (try simp only [World.size_alloc] at hs1)) | (go_at_call 41; refine (spec_paBreaks A B c d l br lo' hi' _ hl hl' (hq'.ext hE1)).mono ?_; rintro e w2 ⟨rfl, hE2⟩; obtain ⟨hc2, hf2⟩ := bcell hE2; have hs2 := hE2.size; (try simp only [World.size_alloc] at hs2)))
    go_ret2
    exact ⟨rfl, (by repeat (first | exact Ext.refl _ | assumption | refine Ext.trans ?_ (Ext.alloc _ _) | refine Ext.trans ?_ (Ext.drew _) | refine Ext.trans ?_ (Ext.drewN _ _) | refine Ext.trans ?_ (by assumption)))⟩
  obtain ⟨hp, ⟨r1, r2, r3, r4⟩, m1, m2⟩ := asked_parts h1
  have hpl := pw_len hp
  have hbl := brk_len hp h2
  have HPM := Lib.hid (pw_mem hp)
  have HBR : Hid (∀ p, p < br.length → lineOk (cutL l (fr (endsB l br) p) (endAt (endsB l br) p)) r m = false → cobP l r m br = (0, false)) := fun p hp h => cobP_line hp h
  have HLB : Hid (canEnd (cutL l (fr (endsB l br) br.length) l.length) r m = false → cobP l r m br = (0, false)) := fun h => cobP_last h
  have HGD : Hid ((∀ p, p < br.length → lineOk (cutL l (fr (endsB l br) p) (endAt (endsB l br) p)) r m = true) → canEnd (cutL l (fr (endsB l br) br.length) l.length) r m = true → cobP l r m br = (lcs (lnL l (endsB l br) br.length) r m, true)) := fun h h' => cobP_good h1 h2 h h'
  have HH1 := Lib.hid h1; have HH2 := Lib.hid h2
  obtain ⟨ends, hends⟩ : ∃ e, e = endsB l br := ⟨_, rfl⟩
  rw [← hends] at HBR HLB HGD
  have HEN := Lib.hid hends
  have AT : Hid (∀ (k : Nat) x, ends[k]? = some x → ∃ X : Nat, x = X ∧ 1 ≤ X ∧ X ≤ l.length ∧ fr ends k < X) := by
    show ∀ (k : Nat) x, _
    intro k x hx
    rw [hends] at hx ⊢
    obtain ⟨X, q1, q2, q3, _, q5⟩ := brk_at hp h2 hx
    exact ⟨X, q1, q2, q3, q5⟩
  have BR : Hid (∀ (k : Nat) x, br[k]? = some x → ends[k]? = some x) := by
    show ∀ (k : Nat) x, _
    intro k x hx
    rw [hends, endsB, List.getElem?_append_left (List.getElem?_eq_some_iff.1 hx).1]; exact hx
  have LA : Hid (ends[br.length]? = some (l.length : Int)) := by show _ = _; rw [hends, endsB, List.getElem?_append_right (Nat.le_refl _)]; simp
  clear hends h1 h2
  obtain ⟨w0, hw0⟩ : ∃ w0, w0 = w.alloc (.cells #[.int .i64 r.least, .int .i64 r.normal, .int .i64 r.most] 28) := ⟨_, rfl⟩
  have x0 : w0.cell? ⟨w.heap.size, 0, none⟩ = some (.int .i64 r.least) := by rw [hw0]; exact box_new (Ext.refl _) rfl
  have x1 : w0.cell? ⟨w.heap.size, 1, none⟩ = some (.int .i64 r.normal) := by rw [hw0]; exact box_new (Ext.refl _) rfl
  have x2 : w0.cell? ⟨w.heap.size, 2, none⟩ = some (.int .i64 r.most) := by rw [hw0]; exact box_new (Ext.refl _) rfl
  have hE0 : Ext w w0 := by rw [hw0]; exact Ext.alloc _ _
  have hlt0 : w.heap.size < w0.heap.size := by rw [hw0]; simp
  have HW0 := Lib.hid hw0
  clear hw0
  have h1 := HH1.out; have h2 := HH2.out
  go_enter Try.func20, Try.ntmps20
  go_wp2_with (first | (go_at_call 35; refine (spec_asked _ c l r m lo hi _ hl hq).mono ?_; rintro e w1 ⟨rfl, hE1⟩; obtain ⟨hc1, hf1⟩ := bcell hE1; have hs1 := hE1.size; (try simp only [World.size_alloc] at hs1)) | (go_at_call 41; refine (spec_paBreaks _ B c d l br lo' hi' _ hl hl' (hq'.ext hE1)).mono ?_; rintro e w2 ⟨rfl, hE2⟩; obtain ⟨hc2, hf2⟩ := bcell hE2; have hs2 := hE2.size; (try simp only [World.size_alloc] at hs2)))
  clear h1 h2
  refine (spec_paLines A B c d l br lo hi lo' hi' _ hp HH2.out hcap (hq.ext (hE1.trans hE2)) (hq'.ext (hE1.trans hE2))).mono ?_
  rintro e w3 ⟨A3, c3, rfl, hc3, hR3, hE3⟩
  have hEE : Ext w0 w3 := by rw [HW0.out]; exact (hE1.trans hE2).trans hE3
  rw [← HEN.out] at hR3
  clear hE1 hE2 hc1 hf1 hc2 hf2 hs1 hs2 hE3 hq hq'
  go_wp2_with fail
  go_loopw [10, 32] (fun s j wr => ∃ k : Nat, k ≤ br.length + 1 ∧ j = .int .i64 k ∧ s = .int .i64 (lcs (lnL l ends (min k br.length)) r m) ∧ (∀ p, p < k → p < br.length → lineOk (cutL l (fr ends p) (endAt ends p)) r m = true) ∧ (br.length < k → canEnd (cutL l (fr ends br.length) l.length) r m = true) ∧ Ext w0 wr ∧ Ext w3 wr) (fun _ j _ => br.length + 1 - (intOf j).toNat)
  case atStart => exact ⟨0, Nat.zero_le _, rfl, by rw [Nat.zero_min]; rfl, fun p hp => by omega, fun h => by omega, hEE, Ext.refl _⟩
  case round =>
    obtain ⟨k, hk, rfl, rfl, hok, hce, hE, hE3⟩ := hrel
    have HOK := Lib.hid hok; clear hok
    have HCE := Lib.hid hce; clear hce
    have y0 := hE.cell x0
    have y1 := hE.cell x1
    have y2 := hE.cell x2
    have hsz := hE.size
    by_cases hlt : k < br.length + 1
    · obtain ⟨rw_, ln, b, off, HX, rfl, h3, c0, hlc, hRr, _, _⟩ := RdII.get (hR3.ext hE3) (k := k) (by rw [lnL_len]; exact hlt)
      have hln : ln = cutL l (fr ends k) (endAt ends k) := by have := HX.out.symm.trans (lnL_get hlt); injection this
      have HLN := Lib.hid hln; clear hln
      obtain ⟨F, hF⟩ : ∃ F, F = fr ends k := ⟨_, rfl⟩
      have HF := Lib.hid hF.symm; clear hF
      by_cases hkb : k < br.length
      · obtain ⟨x, HXB⟩ : ∃ x, Hid (br[k]? = some x) := ⟨_, List.getElem?_eq_getElem hkb⟩
        have HXE := Lib.hid (BR.out k x HXB.out)
        obtain ⟨X, hX, hx1, hx2, hfx⟩ := AT.out k x HXE.out
        subst hX
        rw [HF.out] at hfx
        have hat : endAt ends k = X := by rw [endAt_at HXE.out]; rfl
        have HAT := Lib.hid hat
        have hcut := cutL_len l (i := F) (k := X) (by omega)
        have hle : ln.length = X - F := by rw [HLN.out, HF.out, hat]; exact hcut
        have hc1 : 1 ≤ ln.length := by omega
        have hc2 : ln.length ≤ 24 := by omega
        have HCM : Hid (∀ x ∈ ln, 1 ≤ x ∧ x ≤ 600) := by show ∀ x ∈ ln, _; rw [HLN.out]; exact fun x hx => HPM.out x (cutL_mem hx)
        have hmin : min k br.length = k := Nat.min_eq_left (by omega)
        have hmin' : min (k + 1) br.length = k + 1 := Nat.min_eq_left (by omega)
        rw [hmin]
        have HS : Hid (lcs (lnL l ends (min (k + 1) br.length)) r m = wrap64 (lcs (lnL l ends k) r m + lc ln r m)) := by show _ = _; rw [hmin', lnL_succ, lcs_snoc, ← HLN.out]
        clear hcut hat hle hmin hmin'
        cases hlo : lineOk ln r m
        · have HLO := Lib.hid hlo; clear hlo
          go_wp2_with fail
          refine (paLine_v _ _ _ ln r m _ _ _ _ false (by simp; omega) HLO.out rfl hc1 hc2 HCM.out r1 r2 r3 r4 m1 m2 hRr).mono ?_
          rintro e w4 ⟨rfl, hE4⟩
          go_wp2_with fail
          go_ret2
          exact ⟨by rw [HBR.out k hkb (by rw [← HLN.out]; exact HLO.out)]; rfl, (by repeat (first | exact Ext.refl _ | assumption | refine Ext.trans ?_ (Ext.alloc _ _) | refine Ext.trans ?_ (Ext.drew _) | refine Ext.trans ?_ (Ext.drewN _ _) | refine Ext.trans ?_ (by assumption)))⟩
        · have HLO := Lib.hid hlo; clear hlo
          go_wp2_with fail
          refine (paLine_v _ _ _ ln r m _ _ _ _ true (by simp; omega) HLO.out rfl hc1 hc2 HCM.out r1 r2 r3 r4 m1 m2 hRr).mono ?_
          rintro e w4 ⟨rfl, hE4⟩
          go_wp2_with fail
          go_roundw
          case rel =>
            refine ⟨k + 1, by omega, by go_num, by rw [HS.out], fun p hp hpb => ?_, fun h => by omega, hE.trans hE4, hE3.trans hE4⟩
            by_cases hpk : p < k
            · exact HOK.out p hpk hpb
            · have : p = k := by omega
              subst this
              rw [← HLN.out]; exact HLO.out
          case measure => simp [intOf]; omega
      · have hkl : k = br.length := by omega
        subst hkl
        clear hkb
        obtain ⟨X, hX, hx1, hx2, hfx⟩ := AT.out br.length _ LA.out
        have hXl : X = l.length := by omega
        subst hXl
        rw [HF.out] at hfx
        have hat : endAt ends br.length = l.length := by rw [endAt_at LA.out]; rfl
        have HAT := Lib.hid hat
        have hcut := cutL_len l (i := F) (k := l.length) (by omega)
        have hle : ln.length = l.length - F := by rw [HLN.out, HF.out, hat]; exact hcut
        have hc1 : 1 ≤ ln.length := by omega
        have hc2 : ln.length ≤ 24 := by omega
        have HCM : Hid (∀ x ∈ ln, 1 ≤ x ∧ x ≤ 600) := by show ∀ x ∈ ln, _; rw [HLN.out]; exact fun x hx => HPM.out x (cutL_mem hx)
        have hmin : min br.length br.length = br.length := Nat.min_self _
        have hmin' : min (br.length + 1) br.length = br.length := Nat.min_eq_right (by omega)
        rw [hmin]
        have HS : Hid (lcs (lnL l ends (min (br.length + 1) br.length)) r m = wrap64 (lcs (lnL l ends br.length) r m + 0)) := by show _ = _; rw [hmin', lcs_in]
        clear hcut hat hle hmin hmin' hX
        cases hlo : canEnd ln r m
        · have HLO := Lib.hid hlo; clear hlo
          go_wp2_with fail
          refine (paLine_w _ _ _ ln r m _ _ _ _ false (by simp; try omega) HLO.out rfl hc1 hc2 HCM.out r1 r2 r3 r4 m1 m2 hRr).mono ?_
          rintro e w4 ⟨rfl, hE4⟩
          go_wp2_with fail
          go_ret2
          exact ⟨by rw [HLB.out (by rw [← HAT.out, ← HLN.out]; exact HLO.out)]; rfl, (by repeat (first | exact Ext.refl _ | assumption | refine Ext.trans ?_ (Ext.alloc _ _) | refine Ext.trans ?_ (Ext.drew _) | refine Ext.trans ?_ (Ext.drewN _ _) | refine Ext.trans ?_ (by assumption)))⟩
        · have HLO := Lib.hid hlo; clear hlo
          go_wp2_with fail
          refine (paLine_w _ _ _ ln r m _ _ _ _ true (by simp; try omega) HLO.out rfl hc1 hc2 HCM.out r1 r2 r3 r4 m1 m2 hRr).mono ?_
          rintro e w4 ⟨rfl, hE4⟩
          go_wp2_with fail
          go_roundw
          case rel =>
            refine ⟨br.length + 1, by omega, by go_num, by rw [HS.out, Int.add_zero], fun p hp hpb => HOK.out p hpb hpb, fun h => by have q := HLO.out; rw [HLN.out, HAT.out] at q; exact q, hE.trans hE4, hE3.trans hE4⟩
          case measure => simp [intOf]
    · have hkl : k = br.length + 1 := by omega
      subst hkl
      clear hlt
      go_wp2_with fail
      go_ret2
      exact ⟨by rw [HGD.out (fun p hp => HOK.out p (by omega) hp) (HCE.out (by omega)), Nat.min_eq_right (by omega)]; rfl, (by repeat (first | exact Ext.refl _ | assumption | refine Ext.trans ?_ (Ext.alloc _ _) | refine Ext.trans ?_ (Ext.drew _) | refine Ext.trans ?_ (Ext.drewN _ _) | refine Ext.trans ?_ (by assumption)))⟩
theorem toRule_any (x : Rul) (w : World) : Calls Try.prog 13 #[.agg #[.int .i64 x.least, .int .i64 x.normal, .int .i64 x.most]] w fun e w' => e = .returned (.agg #[.int .i64 x.least, .int .i64 x.normal, .int .i64 x.most]) ∧ Ext w w' := by
  go_enter Try.func13, Try.ntmps13
  go_wp2
  exact bodyPost_ret (v := .agg #[.int .i64 x.least, .int .i64 x.normal, .int .i64 x.most]) (by simp [results, Try.results13, go_sem]) rfl ⟨rfl, (by repeat (first | exact Ext.refl _ | assumption | refine Ext.trans ?_ (Ext.alloc _ _) | refine Ext.trans ?_ (Ext.drew _) | refine Ext.trans ?_ (Ext.drewN _ _) | refine Ext.trans ?_ (by assumption)))⟩
def cobV (l : List Int) (r : Rul) (m : Int) (br : List Int) : Value := .tuple #[.int .i64 (cobP l r m br).1, .bool (cobP l r m br).2]
theorem cobV_form (l : List Int) (r : Rul) (m : Int) (br : List Int) : ∃ x b, cobV l r m br = .tuple #[.int .i64 x, .bool b] := ⟨_, _, rfl⟩
theorem impl_cob (A B : Option Addr) (c d : Nat) (l br : List Int) (r : Rul) (m : Int) (lo hi lo' hi' : Nat) (w : World) (hl : l.length ≤ 1048577) (hl' : br.length ≤ 1048577) (hcap : l.length ≤ c) (hr : RdI w lo hi A l) (hr' : RdI w lo' hi' B br) :
    Calls Try.prog 21 #[.slice A l.length c, .agg #[.int .i64 r.least, .int .i64 r.normal, .int .i64 r.most], .int .i64 m, .slice B br.length d] w fun e w' => e = .returned (cobV l r m br) ∧ Ext w w' := impl_CostOfBreaks A B c d l br r m lo hi lo' hi' w hl hl' hcap hr hr'
theorem spec_cob (A B : Option Addr) (c d : Nat) (l br : List Int) (r : Rul) (m : Int) (lo hi lo' hi' : Nat) (w : World) (hl : l.length ≤ 1048577) (hl' : br.length ≤ 1048577) (hcap : l.length ≤ c) (hr : RdI w lo hi A l) (hr' : RdI w lo' hi' B br) :
    Calls Try.prog 20 #[.slice A l.length c, .agg #[.int .i64 r.least, .int .i64 r.normal, .int .i64 r.most], .int .i64 m, .slice B br.length d] w fun e w' => e = .returned (cobV l r m br) ∧ Ext w w' := spec_CostOfBreaks A B c d l br r m lo hi lo' hi' w hl hl' hcap hr hr'
end Go.Proofs.Ytmfoankgfiofdaa
