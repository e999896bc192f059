/- The walks of LeastRecast: the program's and the reference's. -/
import Derived.Test.YtnkkpphjahpadaaFoG
namespace Go.Proofs.Ytnkkpphjahpadaa
open Go.RowKit
set_option linter.unusedVariables false
def cntAll (l : List Int) : Bool := l.all fun x => inB x 0 100000
def cntB (f : List Srt) (l : List Int) : Bool := (cntAll l && font f) && decide (l.length = f.length)
theorem cnt_mem {l : List Int} (h : cntAll l = true) : ∀ x ∈ l, 0 ≤ x ∧ x ≤ 100000 := fun x hx => inB_iff.1 (List.all_eq_true.1 h x hx)
def lrAt (n t s : Int) : Int := if 0 < n * t - s then n * t - s else 0
def lrL (nd st : List Int) (t : Int) (k : Nat) : List Int := (List.range k).map fun i => lrAt (nd[i]?.getD 0) t (st[i]?.getD 0)
theorem lrL_len (nd st : List Int) (t : Int) (k : Nat) : (lrL nd st t k).length = k := by simp [lrL]
theorem lrL_succ {nd st : List Int} {t : Int} {k : Nat} {n s : Int} (h : nd[k]? = some n) (h' : st[k]? = some s) : lrL nd st t (k + 1) = lrL nd st t k ++ [lrAt n t s] := by
  simp [lrL, List.range_succ, h, h']
def lrB (f : List Srt) (st : List Int) (ws : List ByteArray) (t : Int) : Bool := ((csP f ws).2 && cntB f st) && inB t 0 1000
def lrP (f : List Srt) (st : List Int) (ws : List ByteArray) (t : Int) : List Int × Bool := if lrB f st ws t && cntAll (lrL (csP f ws).1 st t f.length) then (lrL (csP f ws).1 st t f.length, true) else ([], false)
theorem lrP_bad {f : List Srt} {st : List Int} {ws : List ByteArray} {t : Int} (h : (lrB f st ws t && cntAll (lrL (csP f ws).1 st t f.length)) = false) : lrP f st ws t = ([], false) := by simp only [lrP, h]; rfl
theorem lrP_good {f : List Srt} {st : List Int} {ws : List ByteArray} {t : Int} (h1 : lrB f st ws t = true) (h2 : cntAll (lrL (csP f ws).1 st t f.length) = true) : lrP f st ws t = (lrL (csP f ws).1 st t f.length, true) := by simp [lrP, h1, h2]
theorem csP_parts {f : List Srt} {ws : List ByteArray} (h : (csP f ws).2 = true) : font f = true ∧ wordsOk ws = true ∧ ws.all (setOk f) = true ∧ csP f ws = (needL f ws, true) := by
  cases h1 : font f && wordsOk ws
  · rw [csP_bad h1] at h; cases h
  · simp only [Bool.and_eq_true] at h1
    rw [csP_good h1.1 h1.2] at h ⊢
    cases h2 : ws.all (setOk f)
    · rw [neP_bad h2] at h; cases h
    · exact ⟨h1.1, h1.2, rfl, neP_good h2⟩
theorem need_bound {f : List Srt} {ws : List ByteArray} (hf : font f = true) (hw : wordsOk ws = true) {k : Nat} {n : Int} (h : (needL f ws)[k]? = some n) : 0 ≤ n ∧ n ≤ 640 := by
  have hk := (List.getElem?_eq_some_iff.1 h).1
  rw [needL_len] at hk
  rw [needL_at hk] at h
  injection h with h
  subst h
  have := ndTo_bound hf hw k ws.length (Nat.le_refl _)
  have := wordsOk_len hw
  omega
theorem lrP_len (f : List Srt) (st : List Int) (ws : List ByteArray) (t : Int) : (lrP f st ws t).1.length ≤ 4000000 := by
  cases h : lrB f st ws t && cntAll (lrL (csP f ws).1 st t f.length)
  · rw [lrP_bad h]; simp
  · simp only [Bool.and_eq_true] at h
    rw [lrP_good h.1 h.2]
    have h2 := h.1
    simp only [lrB, Bool.and_eq_true] at h2
    have := font_len (csP_parts h2.1.1).1
    show (lrL _ _ _ _).length ≤ _
    rw [lrL_len]; omega
theorem l1All_any (A : Option Addr) (c n : Nat) (l : List Int) (lo hi : Nat) (w : World) (hn : l.length = n) (hl : n ≤ 4000000) (hr : RdI w lo hi A l) :
    Calls Try.prog 83 #[.slice A n c, .int .i64 0, .int .i64 100000] w fun e w' => e = .returned (.bool (cntAll l)) ∧ w = w' := by
  subst hn
  go_enter Try.func83, Try.ntmps83
  go_wp2
  go_loop [11] (fun i => ∃ k : Nat, k ≤ l.length ∧ i = .int .i64 k ∧ cntAll (l.take k) = true) (fun i => l.length - (intOf i).toNat)
  case atStart => exact ⟨0, Nat.zero_le _, rfl, rfl⟩
  case round =>
    obtain ⟨k, hk, rfl, ha⟩ := hrel
    have HA := Lib.hid ha; clear ha
    by_cases hlt : k < l.length
    · obtain ⟨x, b, off, HX, rfl, _, _, h3, c0, _⟩ := RdI.get hr hlt
      cases t1 : inB x 0 100000
      · go_wp2_with (go_at_call 81; refine (l1In_any _ _ _ _).mono ?_; rintro e w' ⟨rfl, rfl⟩)
        go_ret
        exact ⟨ret_bool (by rw [cntAll, all_no HX.out t1]), rfl⟩
      · go_wp2_with (go_at_call 81; refine (l1In_any _ _ _ _).mono ?_; rintro e w' ⟨rfl, rfl⟩)
        go_round
        case rel => exact ⟨k + 1, by omega, by go_num, by have := HA.out; rw [cntAll] at this ⊢; rw [all_take _ HX.out, this, t1]; rfl⟩
        case measure => simp [intOf]; omega
    · have hkl : k = l.length := by omega
      subst hkl
      clear hlt
      go_wp2
      go_ret
      exact ⟨ret_bool (by have := HA.out; rw [List.take_of_length_le (Nat.le_refl _)] at this; rw [this]), rfl⟩
theorem impl_areCounts (A B : Option Addr) (c d n : Nat) (f : List Srt) (l : List Int) (lo hi lo' hi' : Nat) (w : World) (hn : l.length = n) (hl : f.length ≤ 1048577) (hb : ∀ s ∈ f, s.code.size ≤ 1048577) (hl' : n ≤ 4000000) (hr : RdS w lo hi A f) (hr' : RdI w lo' hi' B l) :
    Calls Try.prog 86 #[.slice A f.length c, .slice B n d] w fun e w' => e = .returned (.bool (cntB f l)) ∧ Ext w w' := by
  subst hn
  go_enter Try.func86, Try.ntmps86
  go_wp2
  go_loop [9] (fun i => ∃ k : Nat, k ≤ l.length ∧ i = .int .i64 k ∧ cntAll (l.take k) = true) (fun i => l.length - (intOf i).toNat)
  case atStart => exact ⟨0, Nat.zero_le _, rfl, rfl⟩
  case round =>
    obtain ⟨k, hk, rfl, ha⟩ := hrel
    have HA := Lib.hid ha; clear ha
    by_cases hlt : k < l.length
    · obtain ⟨x, b, off, HX, rfl, _, _, h3, c0, _⟩ := RdI.get hr' hlt
      cases t1 : inB x 0 100000
      · go_wp2_with (go_at_call 85; refine (within_any _ _ _ _).mono ?_; rintro e w' ⟨rfl, rfl⟩)
        go_ret
        exact ⟨ret_bool (by rw [cntB, cntAll, all_no HX.out t1]; rfl), Ext.refl _⟩
      · go_wp2_with (go_at_call 85; refine (within_any _ _ _ _).mono ?_; rintro e w' ⟨rfl, rfl⟩)
        go_round
        case rel => exact ⟨k + 1, by omega, by go_num, by have := HA.out; rw [cntAll] at this ⊢; rw [all_take _ HX.out, this, t1]; rfl⟩
        case measure => simp [intOf]; omega
    · have hkl : k = l.length := by omega
      subst hkl
      have HAL : Hid (cntAll l = true) := by have := HA.out; rwa [List.take_of_length_le (Nat.le_refl _)] at this
      clear hlt hk
      cases t2 : font f
      · have HV : Hid (cntB f l = false) := by show _ = _; simp [cntB, t2]
        go_wp2_with (go_at_call 67; refine (impl_IsFont A c f lo hi _ hl hb hr).mono ?_; rintro e w1 ⟨rfl, hE1⟩; obtain ⟨hc1, hf1⟩ := bcell hE1; have hs1 := hE1.size; (try simp only [World.size_alloc] at hs1))
        go_ret
        exact ⟨ret_bool HV.out.symm, (by repeat (first | exact Ext.refl _ | assumption | refine Ext.trans ?_ (Ext.alloc _ _) | refine Ext.trans ?_ (Ext.drew _) | refine Ext.trans ?_ (Ext.drewN _ _) | refine Ext.trans ?_ (by assumption)))⟩
      · have hv : cntB f l = ((l.length : Int) == (f.length : Int)) := by
          rw [cntB, HAL.out, t2]
          by_cases e : l.length = f.length
          · simp [e]
          · have : ¬ (l.length : Int) = (f.length : Int) := by omega
            simp [e, this]
        have HV := Lib.hid hv; clear hv
        go_wp2_with (go_at_call 67; refine (impl_IsFont A c f lo hi _ hl hb hr).mono ?_; rintro e w1 ⟨rfl, hE1⟩; obtain ⟨hc1, hf1⟩ := bcell hE1; have hs1 := hE1.size; (try simp only [World.size_alloc] at hs1))
        go_ret
        exact ⟨ret_bool (by rw [HV.out]), (by repeat (first | exact Ext.refl _ | assumption | refine Ext.trans ?_ (Ext.alloc _ _) | refine Ext.trans ?_ (Ext.drew _) | refine Ext.trans ?_ (Ext.drewN _ _) | refine Ext.trans ?_ (by assumption)))⟩
theorem impl_needWith (A B C : Option Addr) (c d d2 : Nat) (f : List Srt) (st : List Int) (ws : List ByteArray) (lo hi lo' hi' lo2 hi2 : Nat) (w : World) (hl : f.length ≤ 1048577) (hb : ∀ s ∈ f, s.code.size ≤ 1048577) (hl2 : st.length ≤ 1048577) (hl' : ws.length ≤ 1048577) (hb' : ∀ s ∈ ws, s.size ≤ 1048577) (hr : RdS w lo hi A f) (hr2 : RdI w lo2 hi2 C st) (hr' : RdT w lo' hi' B ws) :
    Calls Try.prog 84 #[.slice A f.length c, .slice C st.length d2, .slice B ws.length d] w (RetI2 w ((csP f ws).1, (csP f ws).2 && cntB f st)) := by
  obtain ⟨xs, hxs⟩ : ∃ xs, xs = (csP f ws).1 := ⟨_, rfl⟩
  obtain ⟨ok, hok⟩ : ∃ ok, ok = (csP f ws).2 := ⟨_, rfl⟩
  have h0 := impl_countSorts A B c d f ws lo hi lo' hi' w hl hb hl' hb' hr hr'
  have hp : csP f ws = (xs, ok) := by rw [hxs, hok]
  rw [hp] at h0
  rw [← hxs, ← hok]
  clear hxs hok hp
  cases ok
  · go_enter Try.func84, Try.ntmps84
    go_wp2_with fail
    refine h0.mono ?_
    rintro e w1 ⟨A1, c1, rfl, hc1, hR1, hE1⟩
    simp only at hc1 hR1
    go_wp2_with fail
    go_ret2
    exact ⟨A1, c1, rfl, hc1, hR1, hE1⟩
  · go_enter Try.func84, Try.ntmps84
    go_wp2_with fail
    refine h0.mono ?_
    rintro e w1 ⟨A1, c1, rfl, hc1, hR1, hE1⟩
    simp only at hc1 hR1
    go_wp2_with fail
    refine (impl_areCounts A C c d2 _ f st lo hi lo2 hi2 _ rfl hl hb (by omega) (hr.ext hE1) (hr2.ext hE1)).mono ?_
    rintro e w2 ⟨rfl, hE2⟩
    go_wp2_with fail
    go_ret2
    exact ⟨A1, c1, by simp, hc1, (hR1.ext hE2).wide (Nat.le_refl _) hE2.size (Nat.le_refl _), hE1.trans hE2⟩
theorem most_any (x : Int) (w : World) : Calls Try.prog 82 #[.int .i64 0, .int .i64 x] w fun e w' => e = .returned (.int .i64 (if 0 < x then x else 0)) ∧ w = w' := by
  by_cases h : x < 0
  · rw [if_neg (by omega)]
    go_enter Try.func82, Try.ntmps82
    go_wp2
    go_ret
    exact ⟨rfl, rfl⟩
  · rw [show (if 0 < x then x else 0) = x by split <;> omega]
    go_enter Try.func82, Try.ntmps82
    go_wp2
    go_ret
    exact ⟨rfl, rfl⟩
set_option maxRecDepth 40000 in
set_option maxHeartbeats 2000000 in
theorem impl_LeastRecast (A B C : Option Addr) (c d d2 : Nat) (f : List Srt) (st : List Int) (ws : List ByteArray) (t : Int) (lo hi lo' hi' lo2 hi2 : Nat) (w : World) (hl : f.length ≤ 1048577) (hb : ∀ s ∈ f, s.code.size ≤ 1048577) (hl2 : st.length ≤ 1048577) (hl' : ws.length ≤ 1048577) (hb' : ∀ s ∈ ws, s.size ≤ 1048577) (hr : RdS w lo hi A f) (hr2 : RdI w lo2 hi2 C st) (hr' : RdT w lo' hi' B ws) :
    Calls Try.prog 44 #[.slice A f.length c, .slice C st.length d2, .slice B ws.length d, .int .i64 t] w (RetI2 w (lrP f st ws t)) := by
  have h0 := impl_needWith A B C c d d2 f st ws lo hi lo' hi' lo2 hi2 w hl hb hl2 hl' hb' hr hr2 hr'
  cases ho : ((csP f ws).2 && cntB f st)
  · rw [lrP_bad (by rw [lrB, ho]; rfl)]
    rw [ho] at h0
    obtain ⟨xs, hxs⟩ : ∃ xs, xs = (csP f ws).1 := ⟨_, rfl⟩
    rw [← hxs] at h0
    clear hxs ho
    go_enter Try.func44, Try.ntmps44
    go_wp2_with fail
    refine h0.mono ?_
    rintro e w1 ⟨A1, c1, rfl, hc1, hR1, hE1⟩
    go_wp2_with fail
    go_ret2
    exact retI2_lit (by repeat (first | exact Ext.refl _ | assumption | refine Ext.trans ?_ (Ext.alloc _ _) | refine Ext.trans ?_ (Ext.drew _) | refine Ext.trans ?_ (Ext.drewN _ _) | refine Ext.trans ?_ (by assumption)))
  rw [ho] at h0
  have hoo := ho
  simp only [Bool.and_eq_true] at hoo
  obtain ⟨hf, hw, _, hcs⟩ := csP_parts hoo.1
  have hcb := hoo.2
  simp only [cntB, Bool.and_eq_true, decide_eq_true_eq] at hcb
  obtain ⟨⟨hsa, _⟩, hsl⟩ := hcb
  cases t0 : inB t 0 1000
  · rw [lrP_bad (by rw [lrB, t0]; simp)]
    rw [hcs] at h0
    clear hsl ho hoo hcs
    go_enter Try.func44, Try.ntmps44
    go_wp2_with fail
    refine h0.mono ?_
    rintro e w1 ⟨A1, c1, rfl, hc1, hR1, hE1⟩
    go_wp2_with (go_at_call 85; refine (within_any _ _ _ _).mono ?_; rintro e w' ⟨rfl, rfl⟩)
    go_ret2
    exact retI2_lit (by repeat (first | exact Ext.refl _ | assumption | refine Ext.trans ?_ (Ext.alloc _ _) | refine Ext.trans ?_ (Ext.drew _) | refine Ext.trans ?_ (Ext.drewN _ _) | refine Ext.trans ?_ (by assumption)))
  obtain ⟨t1, t2⟩ := inB_iff.1 t0
  have hlb : lrB f st ws t = true := by rw [lrB, ho, t0]; rfl
  obtain ⟨nd, hnd⟩ : ∃ nd, nd = needL f ws := ⟨_, rfl⟩
  have HNB : Hid (∀ (k : Nat) n, nd[k]? = some n → 0 ≤ n ∧ n ≤ 640) := by show ∀ (k : Nat) n, _; rw [hnd]; exact fun k n h => need_bound hf hw h
  have hndl : nd.length = f.length := by rw [hnd, needL_len]
  have HSB : Hid (∀ x ∈ st, 0 ≤ x ∧ x ≤ 100000) := cnt_mem hsa
  obtain ⟨P, hP⟩ : ∃ P, P = lrP f st ws t := ⟨_, rfl⟩
  rw [← hP]
  rw [hcs, ← hnd] at h0
  have HPB : Hid (cntAll (lrL nd st t nd.length) = false → P = ([], false)) := fun h => by rw [hP, lrP_bad (by rw [hcs, ← hnd, ← hndl, h]; simp)]
  have HPG : Hid (cntAll (lrL nd st t nd.length) = true → P = (lrL nd st t nd.length, true)) := fun h => by rw [hP, lrP_good hlb (by rw [hcs, ← hnd, ← hndl]; exact h), hcs, ← hnd, ← hndl]
  have HNL := Lib.hid hndl
  obtain ⟨hf1, hf2⟩ := font_len hf
  have g1 : nd.length ≤ 32 := by omega
  have g2 : nd.length ≤ st.length := by omega
  have HF := Lib.hid hf
  clear hP hlb hnd hndl hcs hoo ho hsl hf
  go_enter Try.func44, Try.ntmps44
  go_wp2_with fail
  refine h0.mono ?_
  rintro e w1 ⟨A1, c1, rfl, hc1, hN, hE1⟩
  simp only at hc1 hN
  have hS := hr2.ext hE1
  have hEW := hE1
  have hz1 := hE1.size
  go_wp2_with (go_at_call 85; refine (within_any _ _ _ _).mono ?_; rintro e w' ⟨rfl, rfl⟩)
  go_loopw [12, 33] (fun v j wr => ∃ k : Nat, k ≤ nd.length ∧ j = .int .i64 k ∧ wr.ownsRow w1.heap.size 3 1 v (lrL nd st t k).length ((lrL nd st t k).map (Value.int .i64)) ∧ Ext w1 wr) (fun _ j _ => nd.length - (intOf j).toNat)
  case atStart => exact ⟨0, Nat.zero_le _, rfl, own_lit0 _ _ (Nat.le_refl _) (Ext.refl _), (by repeat (first | exact Ext.refl _ | assumption | refine Ext.trans ?_ (Ext.alloc _ _) | refine Ext.trans ?_ (Ext.drew _) | refine Ext.trans ?_ (Ext.drewN _ _) | refine Ext.trans ?_ (by assumption)))⟩
  case round =>
    obtain ⟨k, hk, rfl, hown, hE⟩ := hrel
    by_cases hlt : k < nd.length
    · obtain ⟨n, b, off, HX, rfl, _, _, h3, c0, _⟩ := RdI.get (hN.ext hE) hlt
      obtain ⟨s, b2, off2, HY, rfl, _, _, h4, d0, _⟩ := RdI.get (hS.ext hE) (k := k) (by omega)
      obtain ⟨n1, n2⟩ := HNB.out k n HX.out
      obtain ⟨s1, s2⟩ := HSB.out s (List.mem_of_getElem? HY.out)
      have hll : (lrL nd st t k).length ≤ 32 := by rw [lrL_len]; omega
      have p1 : 0 ≤ n * t := Int.mul_nonneg n1 t1
      have p2 : n * t ≤ 640000 := by have := Int.mul_le_mul n2 t2 t1 (by omega); omega
      by_cases hx : s < n * t
      · have HS2 : Hid (lrL nd st t (k + 1) = lrL nd st t k ++ [n * t - s]) := by show _ = _; rw [lrL_succ HX.out HY.out, lrAt, if_pos (by omega)]
        skip
        go_wp2_with (first | (at_builtin; refine wp_app _ w1 rfl (.tmp 38) (.tmp 48) 34 rfl 3 _ 1 8 Try.underlying34 intInfo0 rfl (by omega) _ _ _ rfl (ownsRow_ext hown (Ext.alloc _ _)) (hE.trans (Ext.alloc _ _)) _ _ _ 1 1 [.int .i64 (n * t - s)] rfl rfl (rdA_new rfl (Ext.refl _)) (by simp [Value.oneCell']) (by omega) (by simp) ?_; intro v4 w4 hown4 hE4 hg4 hat4))
        go_roundw
        case rel => exact ⟨k + 1, by omega, by go_num, by rw [HS2.out, List.length_append, List.map_append]; exact hown4, hE4⟩
        case measure => simp [intOf]; omega
      · have HS2 : Hid (lrL nd st t (k + 1) = lrL nd st t k ++ [0]) := by show _ = _; rw [lrL_succ HX.out HY.out, lrAt, if_neg (by omega)]
        go_wp2_with (first | (at_builtin; refine wp_app _ w1 rfl (.tmp 38) (.tmp 48) 34 rfl 3 _ 1 8 Try.underlying34 intInfo0 rfl (by omega) _ _ _ rfl (ownsRow_ext hown (Ext.alloc _ _)) (hE.trans (Ext.alloc _ _)) _ _ _ 1 1 [.int .i64 (0)] rfl rfl (rdA_new rfl (Ext.refl _)) (by simp [Value.oneCell']) (by omega) (by simp) ?_; intro v4 w4 hown4 hE4 hg4 hat4))
        go_roundw
        case rel => exact ⟨k + 1, by omega, by go_num, by rw [HS2.out, List.length_append, List.map_append]; exact hown4, hE4⟩
        case measure => simp [intOf]; omega
    · have hkl : k = nd.length := by omega
      subst hkl
      clear hlt hk
      obtain ⟨A', c', rfl, hc', _⟩ := own_form hown
      have hRR := Rd.of_own hown
      have hRL : RdI wr w.heap.size wr.heap.size A' (lrL nd st t nd.length) := Rd.wide hRR hz1 (Nat.le_refl _) (Nat.le_refl _)
      have hll : (lrL nd st t nd.length).length ≤ 32 := by rw [lrL_len]; omega
      obtain ⟨L, hL⟩ : ∃ L, L = lrL nd st t nd.length := ⟨_, rfl⟩
      rw [← hL] at hRL hll hc' ⊢
      have HL := Lib.hid hL
      clear hown hRR
      have hcb : cntB f L = cntAll L := by rw [cntB, HF.out, HL.out, lrL_len, HNL.out]; simp
      cases h4 : cntAll L
      · have HV : Hid (P = ([], false)) := HPB.out (by rw [← hL]; exact h4)
        clear hL
        go_wp2_with fail
        refine (impl_areCounts A A' c c' _ f L lo hi _ _ _ rfl hl hb (by omega) (hr.ext (hEW.trans hE)) hRL).mono ?_
        rw [hcb, h4]; clear hcb
        rintro e w9 ⟨rfl, hE9⟩
        go_wp2_with fail
        go_ret2
        rw [HV.out]
        exact retI2_lit (((hEW.trans hE).trans hE9).trans (Ext.alloc _ _))
      · have HV : Hid (P = (L, true)) := by rw [hL]; exact HPG.out (by rw [← hL]; exact h4)
        clear hL
        go_wp2_with fail
        refine (impl_areCounts A A' c c' _ f L lo hi _ _ _ rfl hl hb (by omega) (hr.ext (hEW.trans hE)) hRL).mono ?_
        rw [hcb, h4]; clear hcb
        rintro e w9 ⟨rfl, hE9⟩
        go_wp2_with fail
        go_ret2
        rw [HV.out]
        exact ⟨A', c', rfl, hc', (Rd.ext hRL hE9).wide (Nat.le_refl _) hE9.size (Nat.le_refl _), (hEW.trans hE).trans hE9⟩
  
theorem spec_biAsked (A B C : Option Addr) (c d d2 : Nat) (f : List Srt) (st : List Int) (ws : List ByteArray) (lo hi lo' hi' lo2 hi2 : Nat) (w : World) (hl : f.length ≤ 1048577) (hb : ∀ s ∈ f, s.code.size ≤ 1048577) (hl2 : st.length ≤ 1048577) (hl' : ws.length ≤ 1048577) (hb' : ∀ s ∈ ws, s.size ≤ 1048577) (hr : RdS w lo hi A f) (hr2 : RdI w lo2 hi2 C st) (hr' : RdT w lo' hi' B ws) :
    Calls Try.prog 80 #[.slice A f.length c, .slice C st.length d2, .slice B ws.length d] w fun e w' => e = .returned (.bool ((csP f ws).2 && cntB f st)) ∧ Ext w w' := by
  have h0 := spec_biCopy A B c d f ws lo hi lo' hi' w hl hb hl' hb' hr hr'
  cases ho : (csP f ws).2
  · rw [ho] at h0
    rw [Bool.false_and]
    clear ho
    go_enter Try.func80, Try.ntmps80
    go_wp2_with fail
    refine h0.mono ?_
    rintro e w1 ⟨rfl, hE1⟩
    go_wp2_with fail
    go_ret
    exact ⟨rfl, (by repeat (first | exact Ext.refl _ | assumption | refine Ext.trans ?_ (Ext.alloc _ _) | refine Ext.trans ?_ (Ext.drew _) | refine Ext.trans ?_ (Ext.drewN _ _) | refine Ext.trans ?_ (by assumption)))⟩
  · rw [ho] at h0
    have hf := (csP_parts ho).1
    rw [Bool.true_and]
    clear ho
    have HST : ∀ w1, Ext w w1 → Calls Try.prog 113 #[.slice A f.length c, .slice C st.length d2] w1 fun e w' => e = .returned (.bool (cntB f st)) ∧ w1 = w' := by
      intro w1 hE1
      by_cases e : st.length = f.length
      · have hv : cntB f st = cntAll st := by simp [cntB, hf, e]
        have t3 : ((st.length : Int) == f.length) = true := by simp [e]
        have hr3 := hr2.ext hE1
        rw [hv]
        clear hv e
        go_enter Try.func113, Try.ntmps113
        go_wp2_with (go_at_call 83; refine (l1All_any C d2 _ st lo2 hi2 _ rfl (by omega) hr3).mono ?_; rintro e w' ⟨rfl, rfl⟩)
        go_ret
        exact ⟨rfl, rfl⟩
      · have hv : cntB f st = false := by simp [cntB, e]
        have t3 : ((st.length : Int) == f.length) = false := by rw [beq_eq_false_iff_ne]; omega
        rw [hv]
        clear hv e
        go_enter Try.func113, Try.ntmps113
        go_wp2_with fail
        go_ret
        exact ⟨rfl, rfl⟩
    have HS' := Lib.hid HST
    clear HST hf
    go_enter Try.func80, Try.ntmps80
    go_wp2_with fail
    refine h0.mono ?_
    rintro e w1 ⟨rfl, hE1⟩
    go_wp2_with fail
    refine (HS'.out _ hE1).mono ?_
    rintro e w2 ⟨rfl, rfl⟩
    go_wp2_with fail
    go_ret
    exact ⟨rfl, (by repeat (first | exact Ext.refl _ | assumption | refine Ext.trans ?_ (Ext.alloc _ _) | refine Ext.trans ?_ (Ext.drew _) | refine Ext.trans ?_ (Ext.drewN _ _) | refine Ext.trans ?_ (by assumption)))⟩
set_option maxRecDepth 40000 in
set_option maxHeartbeats 2000000 in
theorem spec_LeastRecast (A B C : Option Addr) (c d d2 : Nat) (f : List Srt) (st : List Int) (ws : List ByteArray) (t : Int) (lo hi lo' hi' lo2 hi2 : Nat) (w : World) (hl : f.length ≤ 1048577) (hb : ∀ s ∈ f, s.code.size ≤ 1048577) (hl2 : st.length ≤ 1048577) (hl' : ws.length ≤ 1048577) (hb' : ∀ s ∈ ws, s.size ≤ 1048577) (hr : RdS w lo hi A f) (hr2 : RdI w lo2 hi2 C st) (hr' : RdT w lo' hi' B ws) :
    Calls Try.prog 42 #[.slice A f.length c, .slice C st.length d2, .slice B ws.length d, .int .i64 t] w (RetI2 w (lrP f st ws t)) := by
  have h0 := spec_biAsked A B C c d d2 f st ws lo hi lo' hi' lo2 hi2 w hl hb hl2 hl' hb' hr hr2 hr'
  cases ho : ((csP f ws).2 && cntB f st)
  · rw [lrP_bad (by rw [lrB, ho]; rfl)]
    rw [ho] at h0
    clear ho
    go_enter Try.func42, Try.ntmps42
    go_wp2_with fail
    refine h0.mono ?_
    rintro e w1 ⟨rfl, hE1⟩
    go_wp2_with fail
    go_ret2
    exact retI2_lit (by repeat (first | exact Ext.refl _ | assumption | refine Ext.trans ?_ (Ext.alloc _ _) | refine Ext.trans ?_ (Ext.drew _) | refine Ext.trans ?_ (Ext.drewN _ _) | refine Ext.trans ?_ (by assumption)))
  rw [ho] at h0
  have hoo := ho
  simp only [Bool.and_eq_true] at hoo
  obtain ⟨hf, hw, hok, hcs⟩ := csP_parts hoo.1
  have hcb := hoo.2
  simp only [cntB, Bool.and_eq_true, decide_eq_true_eq] at hcb
  obtain ⟨⟨hsa, _⟩, hsl⟩ := hcb
  cases t0 : inB t 0 1000
  · rw [lrP_bad (by rw [lrB, t0]; simp)]
    clear hsl ho hoo hcs
    go_enter Try.func42, Try.ntmps42
    go_wp2_with fail
    refine h0.mono ?_
    rintro e w1 ⟨rfl, hE1⟩
    go_wp2_with (go_at_call 81; refine (l1In_any _ _ _ _).mono ?_; rintro e w' ⟨rfl, rfl⟩)
    go_ret2
    exact retI2_lit (by repeat (first | exact Ext.refl _ | assumption | refine Ext.trans ?_ (Ext.alloc _ _) | refine Ext.trans ?_ (Ext.drew _) | refine Ext.trans ?_ (Ext.drewN _ _) | refine Ext.trans ?_ (by assumption)))
  obtain ⟨t1, t2⟩ := inB_iff.1 t0
  have hlb : lrB f st ws t = true := by rw [lrB, ho, t0]; rfl
  obtain ⟨nd, hnd⟩ : ∃ nd, nd = needL f ws := ⟨_, rfl⟩
  have HNB : Hid (∀ (k : Nat) n, nd[k]? = some n → 0 ≤ n ∧ n ≤ 640) := by show ∀ (k : Nat) n, _; rw [hnd]; exact fun k n h => need_bound hf hw h
  have hndl : nd.length = f.length := by rw [hnd, needL_len]
  have HSB : Hid (∀ x ∈ st, 0 ≤ x ∧ x ≤ 100000) := cnt_mem hsa
  obtain ⟨P, hP⟩ : ∃ P, P = lrP f st ws t := ⟨_, rfl⟩
  rw [← hP]
  have HPB : Hid (cntAll (lrL nd st t nd.length) = false → P = ([], false)) := fun h => by rw [hP, lrP_bad (by rw [hcs, ← hnd, ← hndl, h]; simp)]
  have HPG : Hid (cntAll (lrL nd st t nd.length) = true → P = (lrL nd st t nd.length, true)) := fun h => by rw [hP, lrP_good hlb (by rw [hcs, ← hnd, ← hndl]; exact h), hcs, ← hnd, ← hndl]
  have HNE : Hid (neP f ws = (nd, true)) := by show _ = _; rw [hnd]; exact neP_good hok
  obtain ⟨hf1, hf2⟩ := font_len hf
  have g1 : nd.length ≤ 32 := by omega
  have g2 : nd.length ≤ st.length := by omega
  have HF := Lib.hid hf; have HW := Lib.hid hw
  clear hP hlb hnd hndl hcs hoo ho hsl hf hok hw
  go_enter Try.func42, Try.ntmps42
  go_wp2_with fail
  refine h0.mono ?_
  rintro e w0 ⟨rfl, hE0⟩
  go_wp2_with (go_at_call 81; refine (l1In_any _ _ _ _).mono ?_; rintro e w' ⟨rfl, rfl⟩)
  refine (spec_biNeed A B c d f ws lo hi lo' hi' _ HF.out HW.out (hr.ext hE0) (hr'.ext hE0)).mono ?_
  rw [HNE.out]
  rintro e w1 ⟨A1, c1, rfl, hc1, hN, hE1⟩
  simp only at hc1 hN
  have hEW := hE0.trans hE1
  have hS := hr2.ext hEW
  have hz1 := hEW.size
  go_wp2_with fail
  go_loopw [12, 33] (fun v j wr => ∃ k : Nat, k ≤ nd.length ∧ j = .int .i64 k ∧ wr.ownsRow w1.heap.size 3 1 v (lrL nd st t k).length ((lrL nd st t k).map (Value.int .i64)) ∧ Ext w1 wr) (fun _ j _ => nd.length - (intOf j).toNat)
  case atStart => exact ⟨0, Nat.zero_le _, rfl, own_nil _ _ _ _, (by repeat (first | exact Ext.refl _ | assumption | refine Ext.trans ?_ (Ext.alloc _ _) | refine Ext.trans ?_ (Ext.drew _) | refine Ext.trans ?_ (Ext.drewN _ _) | refine Ext.trans ?_ (by assumption)))⟩
  case round =>
    obtain ⟨k, hk, rfl, hown, hE⟩ := hrel
    by_cases hlt : k < nd.length
    · obtain ⟨n, b, off, HX, rfl, _, _, h3, c0, _⟩ := RdI.get (hN.ext hE) hlt
      obtain ⟨s, b2, off2, HY, rfl, _, _, h4, d0, _⟩ := RdI.get (hS.ext hE) (k := k) (by omega)
      obtain ⟨n1, n2⟩ := HNB.out k n HX.out
      obtain ⟨s1, s2⟩ := HSB.out s (List.mem_of_getElem? HY.out)
      have hll : (lrL nd st t k).length ≤ 32 := by rw [lrL_len]; omega
      have p1 : 0 ≤ t * n := Int.mul_nonneg t1 n1
      have p2 : t * n ≤ 640000 := by have := Int.mul_le_mul n2 t2 t1 (by omega); rw [Int.mul_comm] at this; omega
      by_cases hx : s < t * n
      · have HS2 : Hid (lrL nd st t (k + 1) = lrL nd st t k ++ [t * n - s]) := by show _ = _; rw [lrL_succ HX.out HY.out, lrAt, Int.mul_comm n t, if_pos (by omega)]
        have hxx : 0 < t * n - s := by omega
        go_wp2_with (first | (go_at_call 82; refine (most_any _ _).mono ?_; rintro e w_ ⟨rfl, rfl⟩; have hmo : (if 0 < t * n - s then t * n - s else 0) = t * n - s := if_pos (by omega); rw [hmo]; clear hmo) | (at_builtin; refine wp_app _ w1 rfl (.tmp 38) (.tmp 48) 34 rfl 3 _ 1 8 Try.underlying34 intInfo0 rfl (by omega) _ _ _ rfl (ownsRow_ext hown (Ext.alloc _ _)) (hE.trans (Ext.alloc _ _)) _ _ _ 1 1 [.int .i64 (t * n - s)] rfl rfl (rdA_new rfl (Ext.refl _)) (by simp [Value.oneCell']) (by omega) (by simp) ?_; intro v4 w4 hown4 hE4 hg4 hat4))
        go_roundw
        case rel => exact ⟨k + 1, by omega, by go_num, by rw [HS2.out, List.length_append, List.map_append]; exact hown4, hE4⟩
        case measure => simp [intOf]; omega
      · have HS2 : Hid (lrL nd st t (k + 1) = lrL nd st t k ++ [0]) := by show _ = _; rw [lrL_succ HX.out HY.out, lrAt, Int.mul_comm n t, if_neg (by omega)]
        go_wp2_with (first | (go_at_call 82; refine (most_any _ _).mono ?_; rintro e w_ ⟨rfl, rfl⟩; have hmo : (if 0 < t * n - s then t * n - s else 0) = 0 := if_neg (by omega); rw [hmo]; clear hmo) | (at_builtin; refine wp_app _ w1 rfl (.tmp 38) (.tmp 48) 34 rfl 3 _ 1 8 Try.underlying34 intInfo0 rfl (by omega) _ _ _ rfl (ownsRow_ext hown (Ext.alloc _ _)) (hE.trans (Ext.alloc _ _)) _ _ _ 1 1 [.int .i64 (0)] rfl rfl (rdA_new rfl (Ext.refl _)) (by simp [Value.oneCell']) (by omega) (by simp) ?_; intro v4 w4 hown4 hE4 hg4 hat4))
        go_roundw
        case rel => exact ⟨k + 1, by omega, by go_num, by rw [HS2.out, List.length_append, List.map_append]; exact hown4, hE4⟩
        case measure => simp [intOf]; omega
    · have hkl : k = nd.length := by omega
      subst hkl
      clear hlt hk
      obtain ⟨A', c', rfl, hc', _⟩ := own_form hown
      have hRR := Rd.of_own hown
      have hRL : RdI wr w.heap.size wr.heap.size A' (lrL nd st t nd.length) := Rd.wide hRR hz1 (Nat.le_refl _) (Nat.le_refl _)
      have hll : (lrL nd st t nd.length).length ≤ 32 := by rw [lrL_len]; omega
      obtain ⟨L, hL⟩ : ∃ L, L = lrL nd st t nd.length := ⟨_, rfl⟩
      rw [← hL] at hRL hll hc' ⊢
      have HL := Lib.hid hL
      clear hown hRR
      skip
      cases h4 : cntAll L
      · have HV : Hid (P = ([], false)) := HPB.out (by rw [← hL]; exact h4)
        clear hL
        go_wp2_with fail
        refine (l1All_any A' c' _ L _ _ _ rfl (by omega) hRL).mono ?_
        rw [h4]
        rintro e w9 ⟨rfl, rfl⟩
        go_wp2_with fail
        go_ret2
        rw [HV.out]
        exact retI2_lit (hEW.trans hE)
      · have HV : Hid (P = (L, true)) := by rw [hL]; exact HPG.out (by rw [← hL]; exact h4)
        clear hL
        go_wp2_with fail
        refine (l1All_any A' c' _ L _ _ _ rfl (by omega) hRL).mono ?_
        rw [h4]
        rintro e w9 ⟨rfl, rfl⟩
        go_wp2_with fail
        go_ret2
        rw [HV.out]
        exact ⟨A', c', rfl, hc', hRL, hEW.trans hE⟩
  
end Go.Proofs.Ytnkkpphjahpadaa
