/- The walks of hasNumber, heightWithout and plLeft. -/
import Derived.Test.YtnhddepmhelgiaaLvP
import Derived.Test.YtnhddepmhelgiaaPaI
namespace Go.Proofs.Ytnhddepmhelgiaa
open Go.RowKit
set_option linter.unusedVariables false
theorem hasNumber_any (A : Option Addr) (c n : Nat) (l : List Int) (x : Int) (lo hi : Nat) (w : World) (hn : l.length = n) (hl : n ≤ 1048577) (hr : RdI w lo hi A l) :
    Calls Try.prog 76 #[.slice A n c, .int .i64 x] w fun e w' => e = .returned (.bool (decide (x ∈ l))) ∧ w = w' := by
  subst hn
  go_enter Try.func76, Try.ntmps76
  go_wp2
  go_loop [9] (fun i => ∃ k : Nat, k ≤ l.length ∧ i = .int .i64 k ∧ Hid (¬ x ∈ l.take k)) (fun i => l.length - (intOf i).toNat)
  case atStart => exact ⟨0, Nat.zero_le _, rfl, fun h => by simp at h⟩
  case round =>
    obtain ⟨k, hk, rfl, HG⟩ := hrel
    by_cases hlt : k < l.length
    · obtain ⟨y, b, off, HX, rfl, h1, h2, h3, c0, _⟩ := RdI.get hr hlt
      by_cases e : y = x
      · have t1 : (y == x) = true := by simpa using e
        have HV : Hid (decide (x ∈ l) = true) := decide_eq_true (e ▸ List.mem_of_getElem? HX.out)
        clear e
        go_wp2
        go_ret
        exact ⟨ret_bool HV.out.symm, rfl⟩
      · have t1 : (y == x) = false := by simpa using e
        have E : Hid (¬ y = x) := e
        clear e
        go_wp2
        go_round
        case rel => exact ⟨k + 1, by omega, by go_num, fun h => by
          rw [take_snoc HX.out] at h
          rcases List.mem_append.1 h with h | h
          · exact HG.out h
          · exact E.out (List.mem_singleton.1 h).symm⟩
        case measure => simp [intOf]; omega
    · have hkl : k = l.length := by omega
      subst hkl
      clear hlt
      have h := HG.out
      rw [List.take_of_length_le (Nat.le_refl _)] at h
      have HV : Hid (decide (x ∈ l) = false) := decide_eq_false h
      clear h
      go_wp2
      go_ret
      exact ⟨ret_bool HV.out.symm, rfl⟩
theorem par_at {ls : List (List Int)} (h : par ls = true) {k : Nat} {l : List Int} (hl : ls[k]? = some l) : l.length = hdLen ls ∧ l.length ≤ 1048577 ∧ ∀ x ∈ l, 0 ≤ x ∧ x ≤ 200 := by
  have := par_row h hl
  exact ⟨this.1, by omega, this.2.2⟩
theorem impl_heightWithout (A B : Option Addr) (c d m : Nat) (ls : List (List Int)) (ms : List Nat) (lo hi lo' hi' : Nat) (w : World) (hm : ms.length = m) (hm4 : m ≤ 4) (hp : par ls = true) (hM : LvM ls.length ms) (hr : RdII w lo hi A ls) (hr' : RdI w lo' hi' B (iL ms)) :
    Calls Try.prog 71 #[.slice A ls.length c, .slice B m d] w fun e w' => e = .returned (.int .i64 (lvH ls ms)) ∧ Ext w w' := by
  subst hm
  have h24 := par_len hp
  obtain ⟨hH0, hH1⟩ := lvH_bound (ms := ms) hp
  obtain ⟨H, hH⟩ : ∃ H, H = lvH ls ms := ⟨_, rfl⟩
  rw [← hH] at hH0 hH1 ⊢
  have HP := Lib.hid hp; have HM := Lib.hid hM; have HH := Lib.hid hH
  clear hp hM hH
  go_enter Try.func71, Try.ntmps71
  go_wp2
  go_loopw [5, 6] (fun s i wr => ∃ (k : Nat) (t : Int), k ≤ ls.length ∧ i = .int .i64 k ∧ s = .int .i64 t ∧ 0 ≤ t ∧ t ≤ 4800 ∧ Hid (t + lvF ms ls k = H) ∧ Ext w wr) (fun _ i _ => ls.length - (intOf i).toNat)
  case atStart => exact ⟨0, 0, Nat.zero_le _, rfl, rfl, Int.le_refl _, by omega, by rw [HH.out]; exact Int.zero_add _, Ext.refl _⟩
  case round =>
    obtain ⟨k, t, hk, rfl, rfl, ht0, ht1, HT, hE⟩ := hrel
    by_cases hlt : k < ls.length
    · obtain ⟨⟨ra, rc, rp, rq⟩, r, b, off, HX, rfl, h3, c0, _, hR, _, _⟩ := RdII.get (hr.ext hE) hlt
      simp only at c0 hR
      obtain ⟨p1, p2, p3⟩ := par_at HP.out HX.out
      have hI : Hid (r.length = hdLen ls ∧ ∀ x ∈ r, 0 ≤ x ∧ x ≤ 200 * ((k : Int) + 1)) := ⟨p1, fun x hx => by have := p3 x hx; omega⟩
      have HG : Hid (t + lvG ms k r (ls.drop (k + 1)) = H) := by have := HT.out; rw [lvF_at HX.out] at this; exact this
      have hR0 : RdI wr 0 wr.heap.size ra r := Rd.wide hR (Nat.zero_le _) hR.1 (Nat.le_refl _)
      clear p1 p2 p3 HT
      go_wp2
      go_loopw [6, 7] (fun i row wr => ∃ (j : Nat) (R : List Int) (RA : Option Addr) (Rc : Nat), k ≤ j ∧ j < ls.length ∧ i = .int .i64 j ∧ row = .slice RA R.length Rc ∧ Hid (R.length = hdLen ls ∧ ∀ x ∈ R, 0 ≤ x ∧ x ≤ 200 * ((j : Int) + 1)) ∧ RdI wr 0 wr.heap.size RA R ∧ Hid (t + lvG ms j R (ls.drop (j + 1)) = H) ∧ Ext w wr) (fun i _ _ => ls.length - (intOf i).toNat)
      case atStart => exact ⟨k, r, ra, rc, Nat.le_refl _, hlt, rfl, rfl, hI, hR0, HG, hE⟩
      case round =>
        obtain ⟨j, R, RA, Rc, hkj, hj, rfl, rfl, HI, hRR, HG, hE⟩ := hrel
        have hRl : R.length ≤ 6 := by rw [HI.out.1]; exact hdLen_le HP.out
        by_cases hin : j ∈ ms
        · have hj1 : j + 1 < ls.length := HM.out.lt j hin
          have hdec : decide ((j : Int) ∈ iL ms) = true := decide_eq_true (iL_mem.2 hin)
          obtain ⟨⟨sa, sc, sp, sq⟩, r2, b2, off2, HX2, eA, h4, c1, _, hR2, _, _⟩ := RdII.get (hr.ext hE) hj1
          injection eA with eA; injection eA with eb eo _; subst eb; subst eo
          simp only at c1 hR2
          have HIN : Hid (j ∈ ms) := hin
          have K3 : Hid (∀ w', Ext wr w' → Calls Try.prog 67 #[.slice RA R.length Rc, .slice sa r2.length sc] w' (RetI w' (joinR R r2))) := fun w' h => by
            obtain ⟨p1, p2, p3⟩ := par_at HP.out HX2.out
            exact impl_joined RA sa Rc sc R.length r2.length R r2 _ _ _ _ _ rfl rfl (by omega) (by rw [HI.out.1, p1]) (fun x hx => by have := HI.out.2 x hx; omega) (fun x hx => by have := p3 x hx; omega) (hRR.ext h) (hR2.ext h)
          have hjl : (joinR R r2).length = R.length := joinR_len (by rw [HI.out.1, (par_at HP.out HX2.out).1])
          have HJL := Lib.hid hjl
          clear hin hjl
          have g1 : (0 : Int) ≤ (j : Int) + 1 := by omega
          have g2 : (j : Int) + 1 < ls.length := by omega
          have q2 : ((j : Int) + 1).toNat = j + 1 := by omega
          go_wp2_with ((go_at_call 76; refine (hasNumber_any B d ms.length (iL ms) j _ _ _ (iL_len ms) (by omega) (hr'.ext hE)).mono ?_; rintro e w_ ⟨rfl, rfl⟩; rw [hdec]))
          refine (K3.out _ (Ext.refl _)).mono ?_
          rintro e w3 ⟨A3, c3, rfl, hc3, hR3, hE3⟩
          go_wp2_with fail
          go_roundw
          case rel =>
            refine ⟨j + 1, joinR R r2, A3, c3, by omega, hj1, by go_num, rfl, ⟨by rw [HJL.out, HI.out.1], fun x hx => ?_⟩, Rd.wide hR3 (Nat.zero_le _) (Nat.le_refl _) (Nat.le_refl _), ?_, (by repeat (first | exact Ext.refl _ | assumption | refine Ext.trans ?_ (Ext.alloc _ _) | refine Ext.trans ?_ (Ext.drew _) | refine Ext.trans ?_ (Ext.drewN _ _) | refine Ext.trans ?_ (by assumption)))⟩
            · have := joinR_bound HI.out.2 (par_at HP.out HX2.out).2.2 x hx; omega
            · have := HG.out; rw [lvG_in HX2.out HIN.out] at this; exact this
          case measure => simp [intOf]; omega
        · have hdec : decide ((j : Int) ∈ iL ms) = false := decide_eq_false (fun h => hin (iL_mem.1 h))
          have HIN : Hid (¬ j ∈ ms) := hin
          have hg := HG.out
          rw [lvG_out HIN.out] at hg
          have hn0 := lvF_nonneg ms ls (j + 1)
          have hgb := grt_nonneg R
          obtain ⟨G, hGG⟩ : ∃ G, G = grt R := ⟨_, rfl⟩
          have q1 : IntKind.i64.wrap (t + G) = t + G := IntWalk.i64_in _ (by omega)
          have hG1 : 0 ≤ t + G ∧ t + G ≤ 4800 := by omega
          have HGG := Lib.hid hGG; have HGA : Hid (t + G + lvF ms ls (j + 1) = H) := by show _ = _; omega
          clear hin hg hn0 hgb hGG
          go_wp2_with ((go_at_call 76; refine (hasNumber_any B d ms.length (iL ms) j _ _ _ (iL_len ms) (by omega) (hr'.ext hE)).mono ?_; rintro e w_ ⟨rfl, rfl⟩; rw [hdec]))
          refine (impl_greatest RA Rc R.length R _ _ _ rfl (by omega) hRR).mono ?_
          rintro e w3 ⟨rfl, rfl⟩
          rw [← HGG.out]
          go_wp2_with fail
          go_roundw
          case rel => exact ⟨j + 1, t + G, by omega, by go_num, rfl, hG1.1, hG1.2, HGA, hE⟩
          case measure => simp [intOf]; omega
    · have hkl : k = ls.length := by omega
      subst hkl
      clear hlt
      have hv : t = H := by have := HT.out; rw [lvF_end (Nat.le_refl _)] at this; omega
      subst hv
      go_wp2
      go_ret
      exact ⟨rfl, hE⟩
theorem jn_fit {X : List (List Int)} {i : Nat} {B : Int} (hB : 0 ≤ B) (h : Fit B X) : ∀ ms : List Nat, Fit (B * 2 ^ ms.length) (jn ms i X)
  | [] => by simpa [jn] using h
  | m :: ms => by
    have h0 : 0 ≤ B * 2 ^ ms.length := Int.mul_nonneg hB (Int.pow_nonneg (by omega))
    have := joinL_fit h0 (jn_fit (i := i) hB h ms) (m - i)
    rw [List.length_cons, Int.pow_succ, ← Int.mul_assoc, show B * 2 ^ ms.length * 2 = B * 2 ^ ms.length + B * 2 ^ ms.length by omega]
    exact this
theorem joinL_even {n k : Nat} {X : List (List Int)} (h : ∀ l ∈ X, l.length = n) (hk : k + 1 < X.length) : ∀ l ∈ joinL X k, l.length = n := by
  intro l hl
  rw [joinL, List.mem_append, List.mem_cons] at hl
  have e1 : X[k]? = some X[k] := List.getElem?_eq_getElem (by omega)
  have e2 : X[k + 1]? = some X[k + 1] := List.getElem?_eq_getElem hk
  rcases hl with hl | rfl | hl
  · exact h l (List.mem_of_mem_take hl)
  · have a := h _ (List.mem_of_getElem? e1)
    have b := h _ (List.mem_of_getElem? e2)
    rw [rowAt_of e1, rowAt_of e2, joinR_len (by rw [a, b]), a]
  · exact h l (List.mem_of_mem_drop hl)
theorem up_lt {i N : Nat} : ∀ (ms : List Nat) (m : Nat), (∀ x ∈ ms, m < x) → Up ms → (∀ x ∈ ms, x < N) → m < N → m + ms.length < N
  | [], m, _, _, _, h => by simpa using h
  | x :: ms, m, a, b, c, d => by
    have e1 := a x List.mem_cons_self
    have e2 := up_lt (i := i) ms x b.1 b.2 (fun y hy => c y (List.mem_cons_of_mem _ hy)) (c x List.mem_cons_self)
    simp only [List.length_cons]; omega
theorem jn_room {X : List (List Int)} {m : Nat} {ms : List Nat} (hu : Up (m :: ms)) (h : ∀ x ∈ m :: ms, x + 1 < X.length) : m + 1 < (jn ms 0 X).length := by
  have h1 := jn_len (i := 0) (X := X) ms hu.2 (fun x hx => ⟨Nat.zero_le _, by have := h x (List.mem_cons_of_mem _ hx); omega⟩)
  have h2 := up_lt (i := 0) (N := X.length - 1) ms m hu.1 hu.2 (fun x hx => by have := h x (List.mem_cons_of_mem _ hx); omega) (by have := h m List.mem_cons_self; omega)
  omega
theorem jn_even {n : Nat} {X : List (List Int)} (hX : ∀ l ∈ X, l.length = n) : ∀ ms : List Nat, Up ms → (∀ x ∈ ms, x + 1 < X.length) → ∀ l ∈ jn ms 0 X, l.length = n
  | [], _, _ => hX
  | m :: ms, hu, h => joinL_even (jn_even hX ms hu.2 (fun x hx => h x (List.mem_cons_of_mem _ hx))) (jn_room hu h)
theorem up_drop : ∀ (t : Nat) (ms : List Nat), Up ms → Up (ms.drop t)
  | 0, _, h => h
  | t + 1, [], _ => trivial
  | t + 1, m :: ms, h => up_drop t ms h.2
/-- What the reference's loop holds. -/
structure LvX (ls : List (List Int)) (ms : List Nat) : Prop where
  len : (jn ms 0 ls).length ≤ 24
  lens : ∀ l ∈ jn ms 0 ls, l.length ≤ 6
  even : ∀ k, k + 1 < (jn ms 0 ls).length → (rowAt (jn ms 0 ls) k).length = (rowAt (jn ms 0 ls) (k + 1)).length
  fit : Fit 3200 (jn ms 0 ls)
theorem LvX.of {ls : List (List Int)} {ms : List Nat} (hp : par ls = true) (hu : Up ms) (hb : ∀ m ∈ ms, m + 1 < ls.length) (h4 : ms.length ≤ 4) : LvX ls ms := by
  have h24 := par_len hp
  have hX : ∀ l ∈ ls, l.length = hdLen ls := fun l hl => (par_mem hp hl).1
  have hev := jn_even hX ms hu hb
  have hln := jn_len (i := 0) (X := ls) ms hu (fun m hm => ⟨Nat.zero_le _, by have := hb m hm; omega⟩)
  refine ⟨by omega, fun l hl => by rw [hev l hl]; exact hdLen_le hp, fun k hk => ?_, fun l hl x hx => ?_⟩
  · have e1 : (jn ms 0 ls)[k]? = some (jn ms 0 ls)[k] := List.getElem?_eq_getElem (by omega)
    have e2 : (jn ms 0 ls)[k + 1]? = some (jn ms 0 ls)[k + 1] := List.getElem?_eq_getElem hk
    rw [rowAt_of e1, rowAt_of e2, hev _ (List.mem_of_getElem? e1), hev _ (List.mem_of_getElem? e2)]
  · have h1 := jn_fit (i := 0) (B := 200) (by omega) (par_fit hp) ms l hl x hx
    have h2 : (2 : Int) ^ ms.length ≤ 16 := by
      rcases ms with _ | ⟨_, _ | ⟨_, _ | ⟨_, _ | ⟨_, _ | ⟨_, _⟩⟩⟩⟩⟩ <;> simp at h4 ⊢ <;> omega
    omega
theorem spec_plLeft (A B : Option Addr) (c d m : Nat) (ls : List (List Int)) (ms : List Nat) (n lo' hi' : Nat) (w : World) (hm : ms.length = m) (hm4 : m ≤ 4) (hp : par ls = true) (hcap : ls.length ≤ c) (hM : LvM ls.length ms) (hr : RdAA w n A ls) (hr' : RdI w lo' hi' B (iL ms)) :
    Calls Try.prog 75 #[.slice A ls.length c, .slice B m d] w fun e w' => e = .returned (.int .i64 (lvH ls ms)) ∧ Ext w w' := by
  subst hm
  have HP := Lib.hid hp; have HM := Lib.hid hM
  have HX : Hid (∀ t, LvX ls (ms.drop t)) := fun t => LvX.of hp (up_drop t ms hM.up) (fun m hm => hM.lt m (List.mem_of_mem_drop hm)) (by simp; omega)
  clear hp hM
  go_enter Try.func75, Try.ntmps75
  go_wp2
  go_loopw [0, 5] (fun l i wr => ∃ (t : Nat) (X : List (List Int)) (AX : Option Addr) (cX : Nat), t ≤ ms.length ∧ i = .int .i64 ((t : Int) - 1) ∧ l = .slice AX X.length cX ∧ X.length ≤ cX ∧ Hid (X = jn (ms.drop t) 0 ls) ∧ RdAA wr wr.heap.size AX X ∧ Ext w wr) (fun _ i _ => (intOf i + 1).toNat)
  case atStart => exact ⟨ms.length, ls, A, c, Nat.le_refl _, rfl, rfl, hcap, by rw [List.drop_of_length_le (Nat.le_refl _)]; rfl, hr.wide, Ext.refl _⟩
  case round =>
    obtain ⟨t, X, AX, cX, ht, rfl, rfl, hcX, HJ, hRX, hE⟩ := hrel
    have hln : X.length ≤ 24 := by rw [HJ.out]; exact (HX.out t).len
    have hxl : ∀ l ∈ X, l.length ≤ 6 := by rw [HJ.out]; exact (HX.out t).lens
    have hev : ∀ k, k + 1 < X.length → (rowAt X k).length = (rowAt X (k + 1)).length := by rw [HJ.out]; exact (HX.out t).even
    have hft : Fit 3200 X := by rw [HJ.out]; exact (HX.out t).fit
    have HXL := Lib.hid hxl; have HEV := Lib.hid hev; have HFT := Lib.hid hft
    clear hxl hev hft
    cases t with
    | succ t =>
      obtain ⟨q, hq⟩ : ∃ q, ms[t]? = some q := ⟨_, List.getElem?_eq_getElem (by omega)⟩
      obtain ⟨y, b, off, HY, rfl, _, _, h3, c0, _⟩ := RdI.get (hr'.ext hE) (k := t) (by rw [iL_len]; omega)
      have hy : y = (q : Int) := by have := HY.out; rw [iL_at hq] at this; injection this with this; exact this.symm
      subst hy
      have hdr : ms.drop t = q :: ms.drop (t + 1) := by rw [List.drop_eq_getElem_cons (by omega)]; congr 1; exact (List.getElem?_eq_some_iff.1 hq).2
      have hu := up_drop t ms HM.out.up
      rw [hdr] at hu
      have hroom : q + 1 < X.length := by
        rw [HJ.out]
        exact jn_room hu (fun x hx => HM.out.lt x (List.mem_of_mem_drop (i := t) (by rw [hdr]; exact hx)))
      have hJ2 : Hid (joinL X q = jn (ms.drop t) 0 ls) := by show _ = _; rw [hdr, HJ.out]; rfl
      have K : Hid (∀ w', Ext wr w' → Calls Try.prog 65 #[.slice AX X.length cX, .int .i64 q] w' (RetAA w' (joinL X q))) := fun w' h => by
        exact spec_plJoin AX cX X.length X q _ _ rfl (by omega) (fun l hl => by have := HXL.out l hl; omega) hcX hroom (HEV.out q hroom) (fun l hl x hx => by have := HFT.out l hl x hx; omega) (hRX.ext h)
      clear hdr hu hq
      have e0 : ((t + 1 : Nat) : Int) - 1 = (t : Int) := by omega
      rw [e0]
      have e1 : (t : Int) < ms.length := by omega
      have e2 : (0 : Int) ≤ (t : Int) := by omega
      go_wp2_with fail
      refine (K.out _ (Ext.refl _)).mono ?_
      rintro e w3 ⟨A3, c3, rfl, hc3, hR3, hE3⟩
      go_wp2_with fail
      go_roundw
      case rel => exact ⟨t, joinL X q, A3, c3, by omega, by go_num, rfl, hc3, hJ2, hR3, (by repeat (first | exact Ext.refl _ | assumption | refine Ext.trans ?_ (Ext.alloc _ _) | refine Ext.trans ?_ (Ext.drew _) | refine Ext.trans ?_ (Ext.drewN _ _) | refine Ext.trans ?_ (by assumption)))⟩
      case measure => simp [intOf]
    | zero =>
      have hs := lvH_same HM.out.up HM.out.lt
      have hJ0 := HJ.out
      rw [List.drop_zero] at hJ0
      rw [← hJ0] at hs
      have hv : sumW (X.map grt) = lvH ls ms := by
        rw [hs]
        refine sumW_eq (by rw [List.length_map]; omega) (fun x hxx => ?_)
        have := grts_fit (B := 3200) (by omega) HFT.out x hxx
        omega
      have HV := Lib.hid hv
      have HLX : Hid (∀ l ∈ X, l.length ≤ 1048577) := fun l hl => by have := HXL.out l hl; omega
      clear hv hs hJ0
      go_wp2_with fail
      refine (spec_plTotalA AX cX _ X _ _ rfl (by omega) HLX.out hRX).mono ?_
      rintro e w3 ⟨rfl, rfl⟩
      rw [HV.out]
      go_wp2_with fail
      go_ret
      exact ⟨rfl, hE⟩
end Go.Proofs.Ytnhddepmhelgiaa
