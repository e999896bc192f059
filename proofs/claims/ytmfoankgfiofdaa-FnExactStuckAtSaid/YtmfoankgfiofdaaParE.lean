/- The walks of CostOfBreaks: the program's and the reference's. -/
import Derived.Test.YtmfoankgfiofdaaParD
namespace Go.Proofs.Ytmfoankgfiofdaa
open Go.RowKit
set_option linter.unusedVariables false
def lcs (L : List (List Int)) (r : Rul) (m : Int) : Int := L.foldl (fun n x => wrap64 (n + lc x r m)) 0
theorem lcs_snoc (L : List (List Int)) (x : List Int) (r : Rul) (m : Int) : lcs (L ++ [x]) r m = wrap64 (lcs L r m + lc x r m) := by simp [lcs]
theorem lcs_in (L : List (List Int)) (r : Rul) (m : Int) : wrap64 (lcs L r m + 0) = lcs L r m := by
  rcases List.eq_nil_or_concat L with h | ⟨L', x, h⟩
  · subst h; simp [lcs, wrap64]
  · rw [h, List.concat_eq_append, lcs_snoc, Int.add_zero]
    generalize lcs L' r m + lc x r m = y
    unfold wrap64; omega
def cobOk (l br : List Int) (r : Rul) (m : Int) : Bool := ((lnL l (endsB l br) br.length).all fun x => lineOk x r m) && canEnd (cutL l (fr (endsB l br) br.length) l.length) r m
def cobP (l : List Int) (r : Rul) (m : Int) (br : List Int) : Int × Bool := if (asked l r m && brk l br) && cobOk l br r m then (lcs (lnL l (endsB l br) br.length) r m, true) else (0, false)
theorem cobP_bad {l br : List Int} {r : Rul} {m : Int} (h : (asked l r m && brk l br) = false) : cobP l r m br = (0, false) := by simp only [cobP, h]; rfl
theorem cobP_no {l br : List Int} {r : Rul} {m : Int} (h : cobOk l br r m = false) : cobP l r m br = (0, false) := by simp only [cobP, h, Bool.and_false]; rfl
theorem lnL_get {l ends : List Int} {k p : Nat} (hp : p < k) : (lnL l ends k)[p]? = some (cutL l (fr ends p) (endAt ends p)) := by simp [lnL, hp]
theorem cobP_line {l br : List Int} {r : Rul} {m : Int} {p : Nat} (hp : p < br.length) (h : lineOk (cutL l (fr (endsB l br) p) (endAt (endsB l br) p)) r m = false) : cobP l r m br = (0, false) := by
  refine cobP_no ?_
  rw [cobOk, all_no (lnL_get hp) h]; rfl
theorem cobP_last {l br : List Int} {r : Rul} {m : Int} (h : canEnd (cutL l (fr (endsB l br) br.length) l.length) r m = false) : cobP l r m br = (0, false) := by
  refine cobP_no ?_
  rw [cobOk, h, Bool.and_false]
theorem cobP_good {l br : List Int} {r : Rul} {m : Int} (h1 : asked l r m = true) (h2 : brk l br = true) (h : ∀ p, p < br.length → lineOk (cutL l (fr (endsB l br) p) (endAt (endsB l br) p)) r m = true) (h' : canEnd (cutL l (fr (endsB l br) br.length) l.length) r m = true) : cobP l r m br = (lcs (lnL l (endsB l br) br.length) r m, true) := by
  have hk : cobOk l br r m = true := by
    rw [cobOk, h', Bool.and_true, List.all_eq_true]
    intro x hx
    simp only [lnL, List.mem_map, List.mem_range] at hx
    obtain ⟨p, hp, rfl⟩ := hx
    exact h p hp
  simp only [cobP, h1, h2, hk]; rfl
theorem lineCost_v (A : Option Addr) (c n : Nat) (l : List Int) (r : Rul) (m : Int) (lo hi : Nat) (w : World) (b : Bool) (hb : lineOk l r m = b) (hn : l.length = n) (h1 : 1 ≤ l.length) (h2 : l.length ≤ 24) (hw : ∀ x ∈ l, 1 ≤ x ∧ x ≤ 600) (r1 : 1 ≤ r.least) (r2 : r.least ≤ r.normal) (r3 : r.normal ≤ r.most) (r4 : r.most ≤ 54) (m1 : 1 ≤ m) (m2 : m ≤ 2000) (hr : RdI w lo hi A l) :
    Calls Try.prog 45 #[.slice A n c, .agg #[.int .i64 r.least, .int .i64 r.normal, .int .i64 r.most], .int .i64 m] w fun e w' => e = .returned (.tuple #[.int .i64 (lc l r m), .bool b]) ∧ Ext w w' := by
  rw [← hb]; exact impl_lineCost A c n l r m lo hi w hn h1 h2 hw r1 r2 r3 r4 m1 m2 hr
theorem canEnd_v (A : Option Addr) (c n : Nat) (l : List Int) (r : Rul) (m : Int) (lo hi : Nat) (w : World) (b : Bool) (hb : canEnd l r m = b) (hn : l.length = n) (h1 : 1 ≤ l.length) (h2 : l.length ≤ 24) (hw : ∀ x ∈ l, 1 ≤ x ∧ x ≤ 600) (r1 : 1 ≤ r.least) (r2 : r.least ≤ r.normal) (r3 : r.normal ≤ r.most) (r4 : r.most ≤ 54) (m1 : 1 ≤ m) (m2 : m ≤ 2000) (hr : RdI w lo hi A l) :
    Calls Try.prog 46 #[.slice A n c, .agg #[.int .i64 r.least, .int .i64 r.normal, .int .i64 r.most], .int .i64 m] w fun e w' => e = .returned (.bool b) ∧ Ext w w' := by
  rw [← hb]; exact impl_canEnd A c n l r m lo hi w hn h1 h2 hw r1 r2 r3 r4 m1 m2 hr
theorem impl_CostOfBreaks (A B : Option Addr) (c d : Nat) (l br : List Int) (r : Rul) (m : Int) (lo hi lo' hi' : Nat) (w : World) (hl : l.length ≤ 1048577) (hl' : br.length ≤ 1048577) (hcap : l.length ≤ c) (hr : RdI w lo hi A l) (hr' : RdI w lo' hi' B br) :
    Calls Try.prog 21 #[.slice A l.length c, .agg #[.int .i64 r.least, .int .i64 r.normal, .int .i64 r.most], .int .i64 m, .slice B br.length d] w fun e w' => e = .returned (.tuple #[.int .i64 (cobP l r m br).1, .bool (cobP l r m br).2]) ∧ Ext w w' := by
  have hq := hr.ext (Ext.alloc w (.cells #[.int .i64 r.least, .int .i64 r.normal, .int .i64 r.most] 28))
  have hq' := hr'.ext (Ext.alloc w (.cells #[.int .i64 r.least, .int .i64 r.normal, .int .i64 r.most] 28))
  cases h1 : asked l r m
  · rw [cobP_bad (by simp [h1])]
    go_enter Try.func21, Try.ntmps21
    go_wp2_with (first | (go_at_call 37; refine (impl_asked A c l r m lo hi _ hl hq).mono ?_; rintro e w1 ⟨rfl, hE1⟩; obtain ⟨hc1, hf1⟩ := bcell hE1; have hs1 := hE1.size; (try simp only [World.size_alloc] at hs1)))
    go_ret2
    exact ⟨rfl, (by repeat (first | exact Ext.refl _ | assumption | refine Ext.trans ?_ (Ext.alloc _ _) | refine Ext.trans ?_ (Ext.drew _) | refine Ext.trans ?_ (Ext.drewN _ _) | refine Ext.trans ?_ (by assumption)))⟩
  cases h2 : brk l br
  · rw [cobP_bad (by simp [h2])]
    go_enter Try.func21, Try.ntmps21
    go_wp2_with (first | (go_at_call 37; refine (impl_asked A c l r m lo hi _ hl hq).mono ?_; rintro e w1 ⟨rfl, hE1⟩; obtain ⟨hc1, hf1⟩ := bcell hE1; have hs1 := hE1.size; (try simp only [World.size_alloc] at hs1)) | (go_at_call 44; refine (impl_areBreaks A B c d l br lo' hi' _ hl hl' (hq'.ext hE1)).mono ?_; rintro e w2 ⟨rfl, hE2⟩; obtain ⟨hc2, hf2⟩ := bcell hE2; have hs2 := hE2.size; (try simp only [World.size_alloc] at hs2)))
    go_ret2
    exact ⟨rfl, (by repeat (first | exact Ext.refl _ | assumption | refine Ext.trans ?_ (Ext.alloc _ _) | refine Ext.trans ?_ (Ext.drew _) | refine Ext.trans ?_ (Ext.drewN _ _) | refine Ext.trans ?_ (by assumption)))⟩
  obtain ⟨hp, ⟨r1, r2, r3, r4⟩, m1, m2⟩ := asked_parts h1
  have hpl := pw_len hp
  have hbl := brk_len hp h2
  have HPM := Lib.hid (pw_mem hp)
  have HBR : Hid (∀ p, p < br.length → lineOk (cutL l (fr (endsB l br) p) (endAt (endsB l br) p)) r m = false → cobP l r m br = (0, false)) := fun p hp h => cobP_line hp h
  have HLB : Hid (canEnd (cutL l (fr (endsB l br) br.length) l.length) r m = false → cobP l r m br = (0, false)) := fun h => cobP_last h
  have HGD : Hid ((∀ p, p < br.length → lineOk (cutL l (fr (endsB l br) p) (endAt (endsB l br) p)) r m = true) → canEnd (cutL l (fr (endsB l br) br.length) l.length) r m = true → cobP l r m br = (lcs (lnL l (endsB l br) br.length) r m, true)) := fun h h' => cobP_good h1 h2 h h'
  have HH1 := Lib.hid h1; have HH2 := Lib.hid h2
  obtain ⟨_, b, off, _, rfl, _, _, g3, _, _⟩ := RdI.get hr (k := 0) (by omega)
  obtain ⟨ends, hends⟩ : ∃ e, e = endsB l br := ⟨_, rfl⟩
  rw [← hends] at HBR HLB HGD
  have AT : Hid (∀ (k : Nat) x, ends[k]? = some x → ∃ X : Nat, x = X ∧ 1 ≤ X ∧ X ≤ l.length ∧ fr ends k < X) := by
    show ∀ (k : Nat) x, _
    intro k x hx
    rw [hends] at hx ⊢
    obtain ⟨X, q1, q2, q3, _, q5⟩ := brk_at hp h2 hx
    exact ⟨X, q1, q2, q3, q5⟩
  have BR : Hid (∀ (k : Nat) x, br[k]? = some x → ends[k]? = some x) := by
    show ∀ (k : Nat) x, _
    intro k x hx
    rw [hends, endsB, List.getElem?_append_left (List.getElem?_eq_some_iff.1 hx).1]; exact hx
  have LA : Hid (ends[br.length]? = some (l.length : Int)) := by show _ = _; rw [hends, endsB, List.getElem?_append_right (Nat.le_refl _)]; simp
  clear hends h1 h2
  obtain ⟨w0, hw0⟩ : ∃ w0, w0 = w.alloc (.cells #[.int .i64 r.least, .int .i64 r.normal, .int .i64 r.most] 28) := ⟨_, rfl⟩
  have x0 : w0.cell? ⟨w.heap.size, 0, none⟩ = some (.int .i64 r.least) := by rw [hw0]; exact box_new (Ext.refl _) rfl
  have x1 : w0.cell? ⟨w.heap.size, 1, none⟩ = some (.int .i64 r.normal) := by rw [hw0]; exact box_new (Ext.refl _) rfl
  have x2 : w0.cell? ⟨w.heap.size, 2, none⟩ = some (.int .i64 r.most) := by rw [hw0]; exact box_new (Ext.refl _) rfl
  have hE0 : Ext w w0 := by rw [hw0]; exact Ext.alloc _ _
  have hlt0 : w.heap.size < w0.heap.size := by rw [hw0]; simp
  have HW0 := Lib.hid hw0
  clear hw0
  have h1 := HH1.out; have h2 := HH2.out
  go_enter Try.func21, Try.ntmps21
  go_wp2_with (first | (go_at_call 37; refine (impl_asked _ c l r m lo hi _ hl hq).mono ?_; rintro e w1 ⟨rfl, hE1⟩; obtain ⟨hc1, hf1⟩ := bcell hE1; have hs1 := hE1.size; (try simp only [World.size_alloc] at hs1)) | (go_at_call 44; refine (impl_areBreaks _ B c d l br lo' hi' _ hl hl' (hq'.ext hE1)).mono ?_; rintro e w2 ⟨rfl, hE2⟩; obtain ⟨hc2, hf2⟩ := bcell hE2; have hs2 := hE2.size; (try simp only [World.size_alloc] at hs2)))
  clear h1 h2
  have hEE : Ext w0 w2 := by rw [HW0.out]; exact hE1.trans hE2
  have hw02 := HW0.out
  rw [← hw02] at hq hq'
  clear hw02 hE1 hE2 hc1 hf1 hc2 hf2 hs1 hs2
  go_loopw [10, 11, 29] (fun s f j wr => ∃ (k F : Nat), k ≤ br.length ∧ j = .int .i64 k ∧ f = .int .i64 F ∧ s = .int .i64 (lcs (lnL l ends k) r m) ∧ fr ends k = F ∧ (∀ p, p < k → lineOk (cutL l (fr ends p) (endAt ends p)) r m = true) ∧ Ext w0 wr) (fun _ _ j _ => br.length - (intOf j).toNat)
  case atStart => exact ⟨0, 0, Nat.zero_le _, rfl, rfl, rfl, rfl, fun p hp => by omega, hEE⟩
  case round =>
    obtain ⟨k, F, hk, rfl, rfl, rfl, hF, hok, hE⟩ := hrel
    have HF := Lib.hid hF; clear hF
    have HOK := Lib.hid hok; clear hok
    have y0 : ∀ x : XW wr, x.v.cell? ⟨w.heap.size, 0, none⟩ = _ := fun x => x.h.cell (hE.cell x0)
    have y1 : ∀ x : XW wr, x.v.cell? ⟨w.heap.size, 1, none⟩ = _ := fun x => x.h.cell (hE.cell x1)
    have y2 : ∀ x : XW wr, x.v.cell? ⟨w.heap.size, 2, none⟩ = _ := fun x => x.h.cell (hE.cell x2)
    by_cases hlt : k < br.length
    · obtain ⟨x, bE, offE, HX, rfl, _, _, h3, c0, _⟩ := RdI.get (hq'.ext hE) hlt
      have HXE := Lib.hid (BR.out k x HX.out)
      obtain ⟨X, hX, hx1, hx2, hfx⟩ := AT.out k x HXE.out
      subst hX
      rw [HF.out] at hfx
      have hat : endAt ends k = X := by rw [endAt_at HXE.out]; rfl
      have HFS : Hid (fr ends (k + 1) = X) := by show _ = _; rw [fr_succ, hat]
      have HS : Hid (lcs (lnL l ends (k + 1)) r m = wrap64 (lcs (lnL l ends k) r m + lc (cutL l F X) r m)) := by show _ = _; rw [lnL_succ, HF.out, hat, lcs_snoc]
      have HAT := Lib.hid hat
      have hcF : ¬ c = F := by omega
      have hcut := cutL_len l (i := F) (k := X) (by omega)
      have HC := Lib.hid hcut
      have hRc := (hq.ext hE).cut F X
      have hCM : ∀ x ∈ cutL l F X, 1 ≤ x ∧ x ≤ 600 := fun x hx => HPM.out x (cutL_mem hx)
      have HCM := Lib.hid hCM
      have hc1 : 1 ≤ (cutL l F X).length := by omega
      have hc2 : (cutL l F X).length ≤ 24 := by omega
      clear hcut hat hCM
      cases hlo : lineOk (cutL l F X) r m
      · have HLO := Lib.hid hlo; clear hlo
        go_wp2_with fail
        refine wp_region_xw (w0 := wr) (by kernel_rfl) (by kernel_rfl) (by repeat (first | exact Ext.refl _ | assumption | refine Ext.trans ?_ (Ext.alloc _ _) | refine Ext.trans ?_ (Ext.drew _) | refine Ext.trans ?_ (Ext.drewN _ _) | refine Ext.trans ?_ (by assumption))) ?_; (repeat (go_big_quiet_step ((go_at_call 45; exact XW.call (lineCost_v _ (c - F) (X - F) (cutL l F X) r m _ _ _ false HLO.out HC.out hc1 hc2 HCM.out r1 r2 r3 r4 m1 m2 (hRc.ext (XW.h _))))))); refine wpQuiet_nil ?_; intro w3 hw'; obtain ⟨⟨_, hEw3⟩, hw''⟩ := hw'; subst hw''
        go_wp2
        go_ret2
        exact ⟨by rw [HBR.out k hlt (by rw [HF.out, HAT.out]; exact HLO.out)]; rfl, (by repeat (first | exact Ext.refl _ | assumption | refine Ext.trans ?_ (Ext.alloc _ _) | refine Ext.trans ?_ (Ext.drew _) | refine Ext.trans ?_ (Ext.drewN _ _) | refine Ext.trans ?_ (by assumption)))⟩
      · have HLO := Lib.hid hlo; clear hlo
        go_wp2_with fail
        refine wp_region_xw (w0 := wr) (by kernel_rfl) (by kernel_rfl) (by repeat (first | exact Ext.refl _ | assumption | refine Ext.trans ?_ (Ext.alloc _ _) | refine Ext.trans ?_ (Ext.drew _) | refine Ext.trans ?_ (Ext.drewN _ _) | refine Ext.trans ?_ (by assumption))) ?_; (repeat (go_big_quiet_step ((go_at_call 45; exact XW.call (lineCost_v _ (c - F) (X - F) (cutL l F X) r m _ _ _ true HLO.out HC.out hc1 hc2 HCM.out r1 r2 r3 r4 m1 m2 (hRc.ext (XW.h _))))))); refine wpQuiet_nil ?_; intro w3 hw'; obtain ⟨⟨_, hEw3⟩, hw''⟩ := hw'; subst hw''
        go_wp2
        go_roundw
        case rel =>
          refine ⟨k + 1, X, by omega, by go_num, rfl, by rw [HS.out], HFS.out, fun p hp => ?_, (by repeat (first | exact Ext.refl _ | assumption | refine Ext.trans ?_ (Ext.alloc _ _) | refine Ext.trans ?_ (Ext.drew _) | refine Ext.trans ?_ (Ext.drewN _ _) | refine Ext.trans ?_ (by assumption)))⟩
          by_cases hpk : p < k
          · exact HOK.out p hpk
          · have : p = k := by omega
            subst this
            rw [HF.out, HAT.out]; exact HLO.out
        case measure => simp [intOf]; omega
    · have hkl : k = br.length := by omega
      subst hkl
      clear hlt
      obtain ⟨X, hX, hx1, hx2, hfx⟩ := AT.out br.length _ LA.out
      have hXl : X = l.length := by omega
      subst hXl
      rw [HF.out] at hfx
      have hcF : ¬ c = F := by omega
      have hcut := cutL_len l (i := F) (k := l.length) (by omega)
      have HC := Lib.hid hcut
      have hRc := (hq.ext hE).cut F l.length
      have hCM : ∀ x ∈ cutL l F l.length, 1 ≤ x ∧ x ≤ 600 := fun x hx => HPM.out x (cutL_mem hx)
      have HCM := Lib.hid hCM
      have hc1 : 1 ≤ (cutL l F l.length).length := by omega
      have hc2 : (cutL l F l.length).length ≤ 24 := by omega
      clear hcut hCM hX
      cases hlo : canEnd (cutL l F l.length) r m
      · have HLO := Lib.hid hlo; clear hlo
        go_wp2_with fail
        refine wp_region_xw (w0 := wr) (by kernel_rfl) (by kernel_rfl) (by repeat (first | exact Ext.refl _ | assumption | refine Ext.trans ?_ (Ext.alloc _ _) | refine Ext.trans ?_ (Ext.drew _) | refine Ext.trans ?_ (Ext.drewN _ _) | refine Ext.trans ?_ (by assumption))) ?_; (repeat (go_big_quiet_step ((go_at_call 46; exact XW.call (canEnd_v _ (c - F) (l.length - F) (cutL l F l.length) r m _ _ _ false HLO.out HC.out hc1 hc2 HCM.out r1 r2 r3 r4 m1 m2 (hRc.ext (XW.h _))))))); refine wpQuiet_nil ?_; intro w3 hw'; obtain ⟨⟨_, hEw3⟩, hw''⟩ := hw'; subst hw''
        go_wp2
        go_ret2
        exact ⟨by rw [HLB.out (by rw [HF.out]; exact HLO.out)]; rfl, (by repeat (first | exact Ext.refl _ | assumption | refine Ext.trans ?_ (Ext.alloc _ _) | refine Ext.trans ?_ (Ext.drew _) | refine Ext.trans ?_ (Ext.drewN _ _) | refine Ext.trans ?_ (by assumption)))⟩
      · have HLO := Lib.hid hlo; clear hlo
        go_wp2_with fail
        refine wp_region_xw (w0 := wr) (by kernel_rfl) (by kernel_rfl) (by repeat (first | exact Ext.refl _ | assumption | refine Ext.trans ?_ (Ext.alloc _ _) | refine Ext.trans ?_ (Ext.drew _) | refine Ext.trans ?_ (Ext.drewN _ _) | refine Ext.trans ?_ (by assumption))) ?_; (repeat (go_big_quiet_step ((go_at_call 46; exact XW.call (canEnd_v _ (c - F) (l.length - F) (cutL l F l.length) r m _ _ _ true HLO.out HC.out hc1 hc2 HCM.out r1 r2 r3 r4 m1 m2 (hRc.ext (XW.h _))))))); refine wpQuiet_nil ?_; intro w3 hw'; obtain ⟨⟨_, hEw3⟩, hw''⟩ := hw'; subst hw''
        go_wp2
        go_ret2
        exact ⟨by rw [HGD.out HOK.out (by rw [HF.out]; exact HLO.out)]; rfl, (by repeat (first | exact Ext.refl _ | assumption | refine Ext.trans ?_ (Ext.alloc _ _) | refine Ext.trans ?_ (Ext.drew _) | refine Ext.trans ?_ (Ext.drewN _ _) | refine Ext.trans ?_ (by assumption)))⟩
end Go.Proofs.Ytmfoankgfiofdaa
