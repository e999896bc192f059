/- The walks of CountSorts: the program's and the reference's. -/
import Derived.Test.YtnkkpphjahpadaaFoB
import Derived.Test.YtnkkpphjahpadaaFill
namespace Go.Proofs.Ytnkkpphjahpadaa
open Go.RowKit
set_option linter.unusedVariables false
theorem all_take {α : Type} {l : List α} {j : Nat} {y : α} (p : α → Bool) (h : l[j]? = some y) : (l.take (j + 1)).all p = ((l.take j).all p && p y) := by
  rw [take_snoc h]; simp
theorem all_no {α : Type} {l : List α} {j : Nat} {y : α} {p : α → Bool} (h : l[j]? = some y) (hp : p y = false) : l.all p = false := by
  rw [List.all_eq_false]; exact ⟨y, List.mem_of_getElem? h, by simp [hp]⟩
def wordsOk (ws : List ByteArray) : Bool := (ws.all fun s => lets s 1 16) && decide (ws.length ≤ 40)
theorem wordsOk_len {ws : List ByteArray} (h : wordsOk ws = true) : ws.length ≤ 40 := by simp only [wordsOk, Bool.and_eq_true, decide_eq_true_eq] at h; exact h.2
theorem wordsOk_at {ws : List ByteArray} (h : wordsOk ws = true) {s : ByteArray} (hs : s ∈ ws) : 1 ≤ s.size ∧ s.size ≤ 16 := by
  simp only [wordsOk, Bool.and_eq_true, List.all_eq_true] at h
  have := lets_size (h.1 s hs)
  omega
def occ (xs : List Int) (j : Nat) : Int := ((xs.filter fun x => x == (j : Int)).length : Int)
theorem occ_bound (xs : List Int) (j : Nat) : 0 ≤ occ xs j ∧ occ xs j ≤ xs.length := by
  have := List.length_filter_le (fun x : Int => x == (j : Int)) xs
  unfold occ; omega
theorem occ_same {xs : List Int} {q i : Nat} (h : xs[q]? = some (i : Int)) : occ (xs.take (q + 1)) i = occ (xs.take q) i + 1 := by
  rw [occ, take_snoc h, List.filter_append]; simp [occ]
theorem occ_other {xs : List Int} {q i j : Nat} (h : xs[q]? = some (i : Int)) (hj : ¬ j = i) : occ (xs.take (q + 1)) j = occ (xs.take q) j := by
  have : ((i : Int) == (j : Int)) = false := by rw [beq_eq_false_iff_ne]; omega
  rw [occ, take_snoc h, List.filter_append]; simp [occ, this]
def ndTo (f : List Srt) (ws : List ByteArray) (k j : Nat) : Int := ((ws.take k).map fun s => occ (setP f s).1 j).sum
theorem ndTo_succ {f : List Srt} {ws : List ByteArray} {k : Nat} {s : ByteArray} (h : ws[k]? = some s) (j : Nat) : ndTo f ws (k + 1) j = ndTo f ws k j + occ (setP f s).1 j := by
  rw [ndTo, take_snoc h, List.map_append, List.sum_append]; simp [ndTo]
theorem ndTo_bound {f : List Srt} {ws : List ByteArray} (hf : font f = true) (hw : wordsOk ws = true) (j : Nat) : ∀ k, k ≤ ws.length → 0 ≤ ndTo f ws k j ∧ ndTo f ws k j ≤ 16 * k := by
  intro k
  induction k with
  | zero => intro _; simp [ndTo]
  | succ k ih =>
    intro hk
    have hs : ws[k]? = some ws[k] := List.getElem?_eq_getElem (by omega)
    rw [ndTo_succ hs]
    have h1 := occ_bound (setP f ws[k]).1 j
    have h2 := setP_len hf ws[k]
    have h3 := wordsOk_at hw (List.mem_of_getElem? hs)
    have := ih (by omega)
    omega
def setOk (f : List Srt) (s : ByteArray) : Bool := (setP f s).2
def needL (f : List Srt) (ws : List ByteArray) : List Int := (List.range f.length).map (ndTo f ws ws.length)
theorem needL_len (f : List Srt) (ws : List ByteArray) : (needL f ws).length = f.length := by simp [needL]
theorem needL_at {f : List Srt} {ws : List ByteArray} {i : Nat} (hi : i < f.length) : (needL f ws)[i]? = some (ndTo f ws ws.length i) := by simp [needL, hi]
def neP (f : List Srt) (ws : List ByteArray) : List Int × Bool := if ws.all (setOk f) then (needL f ws, true) else ([], false)
theorem neP_bad {f : List Srt} {ws : List ByteArray} (h : ws.all (setOk f) = false) : neP f ws = ([], false) := by simp [neP, h]
theorem neP_good {f : List Srt} {ws : List ByteArray} (h : ws.all (setOk f) = true) : neP f ws = (needL f ws, true) := by simp [neP, h]
def csP (f : List Srt) (ws : List ByteArray) : List Int × Bool := if font f && wordsOk ws then neP f ws else ([], false)
theorem csP_bad {f : List Srt} {ws : List ByteArray} (h : (font f && wordsOk ws) = false) : csP f ws = ([], false) := by simp only [csP, h]; rfl
theorem csP_good {f : List Srt} {ws : List ByteArray} (h1 : font f = true) (h2 : wordsOk ws = true) : csP f ws = neP f ws := by simp [csP, h1, h2]
theorem csP_len (f : List Srt) (ws : List ByteArray) : (csP f ws).1.length ≤ 4000000 := by
  cases h : font f && wordsOk ws
  · rw [csP_bad h]; simp
  · simp only [Bool.and_eq_true] at h
    rw [csP_good h.1 h.2]
    cases h2 : ws.all (setOk f)
    · rw [neP_bad h2]; simp
    · rw [neP_good h2]
      have := font_len h.1
      show (needL f ws).length ≤ _
      rw [needL_len]; omega
theorem impl_areWords (A : Option Addr) (c : Nat) (ws : List ByteArray) (lo hi : Nat) (w : World) (hl : ws.length ≤ 1048577) (hb : ∀ s ∈ ws, s.size ≤ 1048577) (hr : RdT w lo hi A ws) :
    Calls Try.prog 112 #[.slice A ws.length c] w fun e w' => e = .returned (.bool (wordsOk ws)) ∧ w = w' := by
  have HB := Lib.hid hb; clear hb
  go_enter Try.func112, Try.ntmps112
  go_wp2
  go_loop [7] (fun i => ∃ k : Nat, k ≤ ws.length ∧ i = .int .i64 k ∧ (ws.take k).all (fun s => lets s 1 16) = true) (fun i => ws.length - (intOf i).toNat)
  case atStart => exact ⟨0, Nat.zero_le _, rfl, rfl⟩
  case round =>
    obtain ⟨k, hk, rfl, ha⟩ := hrel
    have HA := Lib.hid ha; clear ha
    by_cases hlt : k < ws.length
    · obtain ⟨s, b, off, HX, rfl, h3, c0⟩ := RdT.get hr hlt
      have hs := HB.out s (List.mem_of_getElem? HX.out)
      cases t1 : lets s 1 16
      · go_wp2_with (go_at_call 68; refine (impl_isWord s _ hs).mono ?_; rintro e w' ⟨rfl, rfl⟩)
        go_ret
        exact ⟨ret_bool (by rw [wordsOk, all_no HX.out t1]; rfl), rfl⟩
      · go_wp2_with (go_at_call 68; refine (impl_isWord s _ hs).mono ?_; rintro e w' ⟨rfl, rfl⟩)
        go_round
        case rel => exact ⟨k + 1, by omega, by go_num, by rw [all_take _ HX.out, HA.out, t1]; rfl⟩
        case measure => simp [intOf]; omega
    · have hkl : k = ws.length := by omega
      subst hkl
      clear hlt
      have HV : Hid (wordsOk ws = decide (ws.length ≤ 40)) := by
        show _ = _
        have h := HA.out
        rw [List.take_of_length_le (Nat.le_refl _)] at h
        simp [wordsOk, h]
      go_wp2
      go_ret
      exact ⟨ret_bool (by rw [HV.out]; simp; try omega), rfl⟩
theorem spec_tyWords (A : Option Addr) (c : Nat) (ws : List ByteArray) (lo hi : Nat) (w : World) (hl : ws.length ≤ 1048577) (hb : ∀ s ∈ ws, s.size ≤ 1048577) (hr : RdT w lo hi A ws) :
    Calls Try.prog 87 #[.slice A ws.length c] w fun e w' => e = .returned (.bool (wordsOk ws)) ∧ w = w' := by
  have HB := Lib.hid hb; clear hb
  go_enter Try.func87, Try.ntmps87
  go_wp2
  go_loop [7] (fun i => ∃ k : Nat, k ≤ ws.length ∧ i = .int .i64 k ∧ (ws.take k).all (fun s => lets s 1 16) = true) (fun i => ws.length - (intOf i).toNat)
  case atStart => exact ⟨0, Nat.zero_le _, rfl, rfl⟩
  case round =>
    obtain ⟨k, hk, rfl, ha⟩ := hrel
    have HA := Lib.hid ha; clear ha
    by_cases hlt : k < ws.length
    · obtain ⟨s, b, off, HX, rfl, h3, c0⟩ := RdT.get hr hlt
      have hs := HB.out s (List.mem_of_getElem? HX.out)
      cases t1 : lets s 1 16
      · go_wp2_with (go_at_call 93; refine (spec_tyWord s _ hs).mono ?_; rintro e w' ⟨rfl, rfl⟩)
        go_ret
        exact ⟨ret_bool (by rw [wordsOk, all_no HX.out t1]; rfl), rfl⟩
      · go_wp2_with (go_at_call 93; refine (spec_tyWord s _ hs).mono ?_; rintro e w' ⟨rfl, rfl⟩)
        go_round
        case rel => exact ⟨k + 1, by omega, by go_num, by rw [all_take _ HX.out, HA.out, t1]; rfl⟩
        case measure => simp [intOf]; omega
    · have hkl : k = ws.length := by omega
      subst hkl
      clear hlt
      have HV : Hid (wordsOk ws = decide (ws.length ≤ 40)) := by
        show _ = _
        have h := HA.out
        rw [List.take_of_length_le (Nat.le_refl _)] at h
        simp [wordsOk, h]
      go_wp2
      go_ret
      exact ⟨ret_bool (by rw [HV.out]; simp; try omega), rfl⟩
set_option maxHeartbeats 2000000 in
theorem impl_countSorts (A B : Option Addr) (c d : Nat) (f : List Srt) (ws : List ByteArray) (lo hi lo' hi' : Nat) (w : World) (hl : f.length ≤ 1048577) (hb : ∀ s ∈ f, s.code.size ≤ 1048577) (hl' : ws.length ≤ 1048577) (hb' : ∀ s ∈ ws, s.size ≤ 1048577) (hr : RdS w lo hi A f) (hr' : RdT w lo' hi' B ws) :
    Calls Try.prog 79 #[.slice A f.length c, .slice B ws.length d] w (RetI2 w (csP f ws)) := by
  cases h1 : font f
  · rw [csP_bad (by simp [h1])]
    go_enter Try.func79, Try.ntmps79
    go_wp2_with (go_at_call 67; refine (impl_IsFont A c f lo hi _ hl hb hr).mono ?_; rintro e w1 ⟨rfl, hE1⟩; obtain ⟨hc1, hf1⟩ := bcell hE1; have hs1 := hE1.size; (try simp only [World.size_alloc] at hs1))
    go_ret2
    exact retI2_lit (by repeat (first | exact Ext.refl _ | assumption | refine Ext.trans ?_ (Ext.alloc _ _) | refine Ext.trans ?_ (Ext.drew _) | refine Ext.trans ?_ (Ext.drewN _ _) | refine Ext.trans ?_ (by assumption)))
  cases h2 : wordsOk ws
  · rw [csP_bad (by simp [h2])]
    go_enter Try.func79, Try.ntmps79
    go_wp2_with (first | (go_at_call 67; refine (impl_IsFont A c f lo hi _ hl hb hr).mono ?_; rintro e w1 ⟨rfl, hE1⟩; obtain ⟨hc1, hf1⟩ := bcell hE1; have hs1 := hE1.size; (try simp only [World.size_alloc] at hs1)) | (go_at_call 112; refine (impl_areWords B d ws lo' hi' _ hl' hb' (hr'.ext hE1)).mono ?_; rintro e w' ⟨rfl, rfl⟩))
    go_ret2
    exact retI2_lit (by repeat (first | exact Ext.refl _ | assumption | refine Ext.trans ?_ (Ext.alloc _ _) | refine Ext.trans ?_ (Ext.drew _) | refine Ext.trans ?_ (Ext.drewN _ _) | refine Ext.trans ?_ (by assumption)))
  rw [csP_good h1 h2]
  obtain ⟨hf1_, hf2_⟩ := font_len h1
  have hwl := wordsOk_len h2
  have H1 := Lib.hid h1; have H2 := Lib.hid h2
  obtain ⟨P, hP⟩ : ∃ P, P = neP f ws := ⟨_, rfl⟩
  rw [← hP]
  have HP := Lib.hid hP; clear hP
  obtain ⟨cs0, hmk, hf0⟩ := make_ints (P := Try.prog) 34 3 Try.underlying34 intInfo0 f.length (by omega)
  have HF0 := Lib.hid hf0; clear hf0
  go_enter Try.func79, Try.ntmps79
  go_wp2_with (first | (go_at_call 67; refine (impl_IsFont A c f lo hi _ hl hb hr).mono ?_; rintro e w1 ⟨rfl, hE1⟩; obtain ⟨hc1, hf1⟩ := bcell hE1; have hs1 := hE1.size; (try simp only [World.size_alloc] at hs1)) | (go_at_call 112; refine (impl_areWords B d ws lo' hi' _ hl' hb' (hr'.ext hE1)).mono ?_; rintro e w' ⟨rfl, rfl⟩))
  clear hmk hc1 hf1 hb hb'
  clear h1 h2
  obtain ⟨G, hG⟩ : ∃ G, G = w1.heap.size := ⟨_, rfl⟩
  have hB0 : Blk (w1.alloc (.cells cs0 3)) G 3 cs0 := by rw [hG]; exact Blk.new _ _ _
  rw [← hG]
  have hwG : w.heap.size ≤ G := by omega
  clear hG
  go_loopw [27] (fun j wr => ∃ (k : Nat) (cur : Array Value), k ≤ ws.length ∧ j = .int .i64 k ∧ Blk wr G 3 cur ∧ FillI cur f.length (ndTo f ws k) ∧ (ws.take k).all (setOk f) = true ∧ Ext w wr) (fun j _ => ws.length - (intOf j).toNat)
  case atStart => exact ⟨0, cs0, Nat.zero_le _, rfl, hB0, HF0.out.congr (fun i _ => by simp [ndTo]), rfl, (by repeat (first | exact Ext.refl _ | assumption | refine Ext.trans ?_ (Ext.alloc _ _) | refine Ext.trans ?_ (Ext.drew _) | refine Ext.trans ?_ (Ext.drewN _ _) | refine Ext.trans ?_ (by assumption)))⟩
  case round =>
    obtain ⟨k, cur, hk, rfl, hB, hF, ha, hE⟩ := hrel
    have HA := Lib.hid ha; clear ha
    by_cases hlt : k < ws.length
    · have hgl0 := hB.lt
      obtain ⟨s, b, off, HX, eA, h3, c0⟩ := RdT.get (hr'.ext hE) hlt
      subst eA
      obtain ⟨s1, s2⟩ := wordsOk_at H2.out (List.mem_of_getElem? HX.out)
      obtain ⟨xs, hxs⟩ : ∃ xs, xs = (setP f s).1 := ⟨_, rfl⟩
      obtain ⟨ok, hok⟩ : ∃ ok, ok = (setP f s).2 := ⟨_, rfl⟩
      have HIN : Hid (∀ x ∈ xs, 0 ≤ x ∧ x < f.length) := by show ∀ x ∈ xs, _; rw [hxs]; exact setP_in f s
      have hxl : xs.length ≤ 16 := by rw [hxs]; have := setP_len H1.out s; omega
      have HXS := Lib.hid hxs
      have HOK := Lib.hid hok
      go_wp2_with fail
      refine (impl_sortsOf A c f s lo hi _ H1.out s2 (hr.ext hE)).mono ?_
      rintro e w3 ⟨A3, c3, rfl, hc3, hR3, hE3⟩
      rw [← hxs] at hc3 hR3 ⊢
      rw [← hok]
      clear hxs hok
      have hB3 := hB.ext hE3
      have hE4 := hE.trans hE3
      clear hB hE
      cases ok
      · have HV : Hid (P = ([], false)) := by show _ = _; rw [HP.out]; exact neP_bad (all_no HX.out HOK.out.symm)
        go_wp2_with fail
        go_ret2
        rw [HV.out]
        exact retI2_lit (by repeat (first | exact Ext.refl _ | assumption | refine Ext.trans ?_ (Ext.alloc _ _) | refine Ext.trans ?_ (Ext.drew _) | refine Ext.trans ?_ (Ext.drewN _ _) | refine Ext.trans ?_ (by assumption)))
      · have HA2 : Hid ((ws.take (k + 1)).all (setOk f) = true) := by show _ = _; rw [all_take _ HX.out, HA.out, setOk, ← HOK.out]; rfl
        go_wp2_with fail
        go_loopw [42] (fun j wr => ∃ (q : Nat) (cur : Array Value), q ≤ xs.length ∧ j = .int .i64 q ∧ Blk wr G 3 cur ∧ FillI cur f.length (fun i => ndTo f ws k i + occ (xs.take q) i) ∧ Out G (G + 1) w3 wr ∧ Ext w wr) (fun j _ => xs.length - (intOf j).toNat)
        case atStart => exact ⟨0, cur, Nat.zero_le _, rfl, hB3, hF.congr (fun i _ => by simp [occ]), Out.refl _ _ _, hE4⟩
        case round =>
          clear hB3 hF hE4
          obtain ⟨q, cur, hq, rfl, hB, hF, hO, hE⟩ := hrel
          by_cases hqt : q < xs.length
          · obtain ⟨x, b2, off2, HY, rfl, _, _, h4, y0, _⟩ := RdI.get (hR3.out hO (.inr (by omega))) hqt
            obtain ⟨x1, x2⟩ := HIN.out x (List.mem_of_getElem? HY.out)
            obtain ⟨i, rfl⟩ : ∃ i : Nat, x = i := ⟨x.toNat, by omega⟩
            have hil : i < f.length := by omega
            obtain ⟨q0, r0⟩ := hF.cell hB (k := i) hil
            have hb1 := ndTo_bound H1.out H2.out i k (by omega)
            have hb2 := occ_bound (xs.take q) i
            have hb3 : (xs.take q).length ≤ 16 := by simp; omega
            obtain ⟨v, hv⟩ : ∃ v, v = ndTo f ws k i + occ (xs.take q) i := ⟨_, rfl⟩
            rw [← hv] at q0
            have hv0 : 0 ≤ v := by omega
            have hv1 : v ≤ 1000 := by omega
            have HV := Lib.hid hv
            have hgl := hB.lt
            clear hb1 hb2 hb3 hv
            go_wp2
            go_roundw
            case rel => exact ⟨q + 1, _, by omega, by go_num, hB.set_ i _, (hF.set_ i _).congr (fun n _ => by
                by_cases e : n = i
                · subst e; rw [if_pos rfl, HV.out, occ_same HY.out]; omega
                · simp only [e, if_false]; rw [occ_other HY.out e]), hO.setCell (.inl ⟨Nat.le_refl _, by simp⟩) _, Ext.setCell hE hwG _⟩
            case measure => simp [intOf]; omega
          · have hql : q = xs.length := by omega
            subst hql
            clear hqt
            go_wp2
            go_roundw
            case rel => exact ⟨k + 1, cur, by omega, by go_num, hB, hF.congr (fun n _ => by rw [List.take_of_length_le (Nat.le_refl _), ndTo_succ HX.out, HXS.out]), HA2.out, hE⟩
            case measure => simp [intOf]; omega
    · have hkl : k = ws.length := by omega
      subst hkl
      clear hlt
      have HV : Hid (P = (needL f ws, true)) := by
        show _ = _
        have h := HA.out
        rw [List.take_of_length_le (Nat.le_refl _)] at h
        rw [HP.out]; exact neP_good h
      go_wp2
      go_ret2
      rw [HV.out]
      refine ⟨_, _, by rw [needL_len]; rfl, by rw [needL_len]; exact Nat.le_refl _, ?_, hE⟩
      exact hF.rd hB hwG (needL_len _ _) (fun i hi => needL_at hi)
set_option maxHeartbeats 2000000 in
theorem spec_biNeed (A B : Option Addr) (c d : Nat) (f : List Srt) (ws : List ByteArray) (lo hi lo' hi' : Nat) (w : World) (h1 : font f = true) (h2 : wordsOk ws = true) (hr : RdS w lo hi A f) (hr' : RdT w lo' hi' B ws) :
    Calls Try.prog 78 #[.slice A f.length c, .slice B ws.length d] w (RetI2 w (neP f ws)) := by
  obtain ⟨hf1_, hf2_⟩ := font_len h1
  have hwl := wordsOk_len h2
  have H1 := Lib.hid h1; have H2 := Lib.hid h2
  obtain ⟨P, hP⟩ : ∃ P, P = neP f ws := ⟨_, rfl⟩
  rw [← hP]
  have HP := Lib.hid hP; clear hP
  obtain ⟨cs0, hmk, hf0⟩ := make_ints (P := Try.prog) 34 3 Try.underlying34 intInfo0 f.length (by omega)
  have HF0 := Lib.hid hf0; clear hf0
  go_enter Try.func78, Try.ntmps78
  go_wp2
  clear hmk
  clear h1 h2
  obtain ⟨G, hG⟩ : ∃ G, G = w.heap.size := ⟨_, rfl⟩
  have hB0 : Blk (w.alloc (.cells cs0 3)) G 3 cs0 := by rw [hG]; exact Blk.new _ _ _
  rw [← hG]
  have hwG : w.heap.size ≤ G := by omega
  clear hG
  go_loopw [18] (fun j wr => ∃ (k : Nat) (cur : Array Value), k ≤ ws.length ∧ j = .int .i64 k ∧ Blk wr G 3 cur ∧ FillI cur f.length (ndTo f ws k) ∧ (ws.take k).all (setOk f) = true ∧ Ext w wr) (fun j _ => ws.length - (intOf j).toNat)
  case atStart => exact ⟨0, cs0, Nat.zero_le _, rfl, hB0, HF0.out.congr (fun i _ => by simp [ndTo]), rfl, (by repeat (first | exact Ext.refl _ | assumption | refine Ext.trans ?_ (Ext.alloc _ _) | refine Ext.trans ?_ (Ext.drew _) | refine Ext.trans ?_ (Ext.drewN _ _) | refine Ext.trans ?_ (by assumption)))⟩
  case round =>
    obtain ⟨k, cur, hk, rfl, hB, hF, ha, hE⟩ := hrel
    have HA := Lib.hid ha; clear ha
    by_cases hlt : k < ws.length
    · have hgl0 := hB.lt
      obtain ⟨s, b, off, HX, eA, h3, c0⟩ := RdT.get (hr'.ext hE) hlt
      subst eA
      obtain ⟨s1, s2⟩ := wordsOk_at H2.out (List.mem_of_getElem? HX.out)
      obtain ⟨xs, hxs⟩ : ∃ xs, xs = (setP f s).1 := ⟨_, rfl⟩
      obtain ⟨ok, hok⟩ : ∃ ok, ok = (setP f s).2 := ⟨_, rfl⟩
      have HIN : Hid (∀ x ∈ xs, 0 ≤ x ∧ x < f.length) := by show ∀ x ∈ xs, _; rw [hxs]; exact setP_in f s
      have hxl : xs.length ≤ 16 := by rw [hxs]; have := setP_len H1.out s; omega
      have HXS := Lib.hid hxs
      have HOK := Lib.hid hok
      go_wp2_with fail
      refine (spec_tySet A c f s lo hi _ H1.out s2 (hr.ext hE)).mono ?_
      rintro e w3 ⟨A3, c3, rfl, hc3, hR3, hE3⟩
      rw [← hxs] at hc3 hR3 ⊢
      rw [← hok]
      clear hxs hok
      have hB3 := hB.ext hE3
      have hE4 := hE.trans hE3
      clear hB hE
      cases ok
      · have HV : Hid (P = ([], false)) := by show _ = _; rw [HP.out]; exact neP_bad (all_no HX.out HOK.out.symm)
        go_wp2_with fail
        go_ret2
        rw [HV.out]
        exact retI2_lit (by repeat (first | exact Ext.refl _ | assumption | refine Ext.trans ?_ (Ext.alloc _ _) | refine Ext.trans ?_ (Ext.drew _) | refine Ext.trans ?_ (Ext.drewN _ _) | refine Ext.trans ?_ (by assumption)))
      · have HA2 : Hid ((ws.take (k + 1)).all (setOk f) = true) := by show _ = _; rw [all_take _ HX.out, HA.out, setOk, ← HOK.out]; rfl
        go_wp2_with fail
        go_loopw [32] (fun j wr => ∃ (q : Nat) (cur : Array Value), q ≤ xs.length ∧ j = .int .i64 q ∧ Blk wr G 3 cur ∧ FillI cur f.length (fun i => ndTo f ws k i + occ (xs.take q) i) ∧ Out G (G + 1) w3 wr ∧ Ext w wr) (fun j _ => xs.length - (intOf j).toNat)
        case atStart => exact ⟨0, cur, Nat.zero_le _, rfl, hB3, hF.congr (fun i _ => by simp [occ]), Out.refl _ _ _, hE4⟩
        case round =>
          clear hB3 hF hE4
          obtain ⟨q, cur, hq, rfl, hB, hF, hO, hE⟩ := hrel
          by_cases hqt : q < xs.length
          · obtain ⟨x, b2, off2, HY, rfl, _, _, h4, y0, _⟩ := RdI.get (hR3.out hO (.inr (by omega))) hqt
            obtain ⟨x1, x2⟩ := HIN.out x (List.mem_of_getElem? HY.out)
            obtain ⟨i, rfl⟩ : ∃ i : Nat, x = i := ⟨x.toNat, by omega⟩
            have hil : i < f.length := by omega
            obtain ⟨q0, r0⟩ := hF.cell hB (k := i) hil
            have hb1 := ndTo_bound H1.out H2.out i k (by omega)
            have hb2 := occ_bound (xs.take q) i
            have hb3 : (xs.take q).length ≤ 16 := by simp; omega
            obtain ⟨v, hv⟩ : ∃ v, v = ndTo f ws k i + occ (xs.take q) i := ⟨_, rfl⟩
            rw [← hv] at q0
            have hv0 : 0 ≤ v := by omega
            have hv1 : v ≤ 1000 := by omega
            have HV := Lib.hid hv
            have hgl := hB.lt
            clear hb1 hb2 hb3 hv
            go_wp2
            go_roundw
            case rel => exact ⟨q + 1, _, by omega, by go_num, hB.set_ i _, (hF.set_ i _).congr (fun n _ => by
                by_cases e : n = i
                · subst e; rw [if_pos rfl, HV.out, occ_same HY.out]; omega
                · simp only [e, if_false]; rw [occ_other HY.out e]), hO.setCell (.inl ⟨Nat.le_refl _, by simp⟩) _, Ext.setCell hE hwG _⟩
            case measure => simp [intOf]; omega
          · have hql : q = xs.length := by omega
            subst hql
            clear hqt
            go_wp2
            go_roundw
            case rel => exact ⟨k + 1, cur, by omega, by go_num, hB, hF.congr (fun n _ => by rw [List.take_of_length_le (Nat.le_refl _), ndTo_succ HX.out, HXS.out]), HA2.out, hE⟩
            case measure => simp [intOf]; omega
    · have hkl : k = ws.length := by omega
      subst hkl
      clear hlt
      have HV : Hid (P = (needL f ws, true)) := by
        show _ = _
        have h := HA.out
        rw [List.take_of_length_le (Nat.le_refl _)] at h
        rw [HP.out]; exact neP_good h
      go_wp2
      go_ret2
      rw [HV.out]
      refine ⟨_, _, by rw [needL_len]; rfl, by rw [needL_len]; exact Nat.le_refl _, ?_, hE⟩
      exact hF.rd hB hwG (needL_len _ _) (fun i hi => needL_at hi)
theorem spec_biCopy (A B : Option Addr) (c d : Nat) (f : List Srt) (ws : List ByteArray) (lo hi lo' hi' : Nat) (w : World) (hl : f.length ≤ 1048577) (hb : ∀ s ∈ f, s.code.size ≤ 1048577) (hl' : ws.length ≤ 1048577) (hb' : ∀ s ∈ ws, s.size ≤ 1048577) (hr : RdS w lo hi A f) (hr' : RdT w lo' hi' B ws) :
    Calls Try.prog 77 #[.slice A f.length c, .slice B ws.length d] w fun e w' => e = .returned (.bool (csP f ws).2) ∧ Ext w w' := by
  cases h1 : font f
  · rw [csP_bad (by simp [h1])]
    go_enter Try.func77, Try.ntmps77
    go_wp2_with (go_at_call 72; refine (spec_tyFont A c f lo hi _ hl hb hr).mono ?_; rintro e w1 ⟨rfl, hE1⟩; obtain ⟨hc1, hf1⟩ := bcell hE1; have hs1 := hE1.size; (try simp only [World.size_alloc] at hs1))
    go_ret
    exact ⟨rfl, (by repeat (first | exact Ext.refl _ | assumption | refine Ext.trans ?_ (Ext.alloc _ _) | refine Ext.trans ?_ (Ext.drew _) | refine Ext.trans ?_ (Ext.drewN _ _) | refine Ext.trans ?_ (by assumption)))⟩
  cases h2 : wordsOk ws
  · rw [csP_bad (by simp [h2])]
    go_enter Try.func77, Try.ntmps77
    go_wp2_with (first | (go_at_call 72; refine (spec_tyFont A c f lo hi _ hl hb hr).mono ?_; rintro e w1 ⟨rfl, hE1⟩; obtain ⟨hc1, hf1⟩ := bcell hE1; have hs1 := hE1.size; (try simp only [World.size_alloc] at hs1)) | (go_at_call 87; refine (spec_tyWords B d ws lo' hi' _ hl' hb' (hr'.ext hE1)).mono ?_; rintro e w' ⟨rfl, rfl⟩))
    go_ret
    exact ⟨rfl, (by repeat (first | exact Ext.refl _ | assumption | refine Ext.trans ?_ (Ext.alloc _ _) | refine Ext.trans ?_ (Ext.drew _) | refine Ext.trans ?_ (Ext.drewN _ _) | refine Ext.trans ?_ (by assumption)))⟩
  rw [csP_good h1 h2]
  obtain ⟨P, hP⟩ : ∃ P, P = neP f ws := ⟨_, rfl⟩
  rw [← hP]
  go_enter Try.func77, Try.ntmps77
  go_wp2_with (first | (go_at_call 72; refine (spec_tyFont A c f lo hi _ hl hb hr).mono ?_; rintro e w1 ⟨rfl, hE1⟩; obtain ⟨hc1, hf1⟩ := bcell hE1; have hs1 := hE1.size; (try simp only [World.size_alloc] at hs1)) | (go_at_call 87; refine (spec_tyWords B d ws lo' hi' _ hl' hb' (hr'.ext hE1)).mono ?_; rintro e w' ⟨rfl, rfl⟩))
  refine (spec_biNeed A B c d f ws lo hi lo' hi' _ h1 h2 (hr.ext hE1) (hr'.ext hE1)).mono ?_
  rw [← hP]
  clear hP
  rintro e w3 ⟨A3, c3, rfl, hc3, hR3, hE3⟩
  go_wp2_with fail
  go_ret
  exact ⟨rfl, (by repeat (first | exact Ext.refl _ | assumption | refine Ext.trans ?_ (Ext.alloc _ _) | refine Ext.trans ?_ (Ext.drew _) | refine Ext.trans ?_ (Ext.drewN _ _) | refine Ext.trans ?_ (by assumption)))⟩
theorem spec_CountSorts (A B : Option Addr) (c d : Nat) (f : List Srt) (ws : List ByteArray) (lo hi lo' hi' : Nat) (w : World) (hl : f.length ≤ 1048577) (hb : ∀ s ∈ f, s.code.size ≤ 1048577) (hl' : ws.length ≤ 1048577) (hb' : ∀ s ∈ ws, s.size ≤ 1048577) (hr : RdS w lo hi A f) (hr' : RdT w lo' hi' B ws) :
    Calls Try.prog 39 #[.slice A f.length c, .slice B ws.length d] w (RetI2 w (csP f ws)) := by
  cases h : (csP f ws).2
  · have hv : csP f ws = ([], false) := by
      cases h1 : font f && wordsOk ws
      · exact csP_bad h1
      · simp only [Bool.and_eq_true] at h1
        rw [csP_good h1.1 h1.2] at h ⊢
        cases h2 : ws.all (setOk f)
        · exact neP_bad h2
        · rw [neP_good h2] at h; cases h
    have h0 := spec_biCopy A B c d f ws lo hi lo' hi' w hl hb hl' hb' hr hr'
    rw [h] at h0
    rw [hv]
    clear hv h
    go_enter Try.func39, Try.ntmps39
    go_wp2_with fail
    refine h0.mono ?_
    rintro e w1 ⟨rfl, hE1⟩
    go_wp2_with fail
    go_ret2
    exact retI2_lit (by repeat (first | exact Ext.refl _ | assumption | refine Ext.trans ?_ (Ext.alloc _ _) | refine Ext.trans ?_ (Ext.drew _) | refine Ext.trans ?_ (Ext.drewN _ _) | refine Ext.trans ?_ (by assumption)))
  · have hh : font f = true ∧ wordsOk ws = true := by
      cases h1 : font f && wordsOk ws
      · rw [csP_bad h1] at h; cases h
      · simpa using h1
    have h0 := spec_biCopy A B c d f ws lo hi lo' hi' w hl hb hl' hb' hr hr'
    rw [h] at h0
    rw [csP_good hh.1 hh.2]
    clear h
    obtain ⟨h1, h2⟩ := hh
    go_enter Try.func39, Try.ntmps39
    go_wp2_with fail
    refine h0.mono ?_
    rintro e w1 ⟨rfl, hE1⟩
    go_wp2_with fail
    refine (spec_biNeed A B c d f ws lo hi lo' hi' _ h1 h2 (hr.ext hE1) (hr'.ext hE1)).mono ?_
    rintro e w3 ⟨A3, c3, rfl, hc3, hR3, hE3⟩
    go_wp2_with fail
    go_ret2
    exact ⟨A3, c3, rfl, hc3, hR3.wide hE1.size (Nat.le_refl _) (Nat.le_refl _), (by repeat (first | exact Ext.refl _ | assumption | refine Ext.trans ?_ (Ext.alloc _ _) | refine Ext.trans ?_ (Ext.drew _) | refine Ext.trans ?_ (Ext.drewN _ _) | refine Ext.trans ?_ (by assumption)))⟩
theorem impl_CountSorts (A B : Option Addr) (c d : Nat) (f : List Srt) (ws : List ByteArray) (lo hi lo' hi' : Nat) (w : World) (hl : f.length ≤ 1048577) (hb : ∀ s ∈ f, s.code.size ≤ 1048577) (hl' : ws.length ≤ 1048577) (hb' : ∀ s ∈ ws, s.size ≤ 1048577) (hr : RdS w lo hi A f) (hr' : RdT w lo' hi' B ws) :
    Calls Try.prog 41 #[.slice A f.length c, .slice B ws.length d] w (RetI2 w (csP f ws)) := by
  go_enter Try.func41, Try.ntmps41
  go_wp2_with fail
  refine (impl_countSorts A B c d f ws lo hi lo' hi' _ hl hb hl' hb' hr hr').mono ?_
  rintro e w3 ⟨A3, c3, rfl, hc3, hR3, hE3⟩
  go_wp2_with fail
  go_ret2
  exact ⟨A3, c3, rfl, hc3, hR3, (by repeat (first | exact Ext.refl _ | assumption | refine Ext.trans ?_ (Ext.alloc _ _) | refine Ext.trans ?_ (Ext.drew _) | refine Ext.trans ?_ (Ext.drewN _ _) | refine Ext.trans ?_ (by assumption)))⟩
end Go.Proofs.Ytnkkpphjahpadaa
