/- The walks of the values of all places: the program's and the reference's. -/
import Derived.Test.YtnkkpphjahpadaaHyB
namespace Go.Proofs.Ytnkkpphjahpadaa
open Go.RowKit
set_option linter.unusedVariables false
theorem lets_byte {s : ByteArray} {lo hi : Int} (h : lets s lo hi = true) {n : Nat} (hn : n < s.size) : (s[n]'hn).toNat < 128 := by
  cases e : chLOk (s[n]'hn)
  · rw [lets_bad hn lo hi e] at h; cases h
  · simp [chLOk, chL] at e; omega
def gt (o : List Int) (i : Nat) : Int := o[i]?.getD 0
theorem gt_rep (n i : Nat) : gt (List.replicate n 0) i = 0 := by
  unfold gt
  rw [List.getElem?_replicate]
  split <;> rfl
theorem setM_no {o : List Int} {j v : Int} {n : Nat} (hn : o.length = n) (h : inB j 0 ((n : Int) - 1) = false) : setM o j v = o := by rw [setM, hn, h]; rfl
theorem setM_yes {o : List Int} {v : Int} {m n : Nat} (hn : o.length = n) (hm : m < n) (i : Nat) : gt (setM o m v) i = if i = m then (if gt o m < v then v else gt o m) else gt o i := by
  have h : inB (m : Int) 0 ((n : Int) - 1) = true := inB_iff.2 (by omega)
  rw [setM, hn, h, if_pos rfl]
  simp only [gt, Int.toNat_natCast]
  by_cases e : i = m
  · subst e
    rw [if_pos rfl, List.getElem?_set_self (by omega)]; rfl
  · rw [if_neg e, List.getElem?_set_ne (fun h => e h.symm)]
theorem upd_succ {V : List Int} {a k : Nat} {o : List Int} {v : Int} (h : V[k]? = some v) : updTo V a (k + 1) o = setM (updTo V a k o) ((a : Int) + k - 1) v := by rw [updTo, h]; rfl
theorem at_no {t : Pt} {r : List UInt8} {a : Nat} {o : List Int} (h : preB (bl t.L) (r.drop a) = false) : atTo t r (a + 1) o = atTo t r a o := by rw [atTo, h]; rfl
theorem at_yes {t : Pt} {r : List UInt8} {a : Nat} {o : List Int} (h : preB (bl t.L) (r.drop a) = true) : atTo t r (a + 1) o = updTo t.V a t.V.length (atTo t r a o) := by rw [atTo, h]; rfl
theorem va_succ {ps : List ByteArray} {r : List UInt8} {k : Nat} {p : ByteArray} (h : ps[k]? = some p) : vaTo ps r (k + 1) = atTo (ptP p).1 r r.length (vaTo ps r k) := by simp [vaTo, h]
set_option maxRecDepth 20000 in
set_option maxHeartbeats 4000000 in
theorem impl_valuesOf (A : Option Addr) (c : Nat) (ps : List ByteArray) (word : ByteArray) (lo hi : Nat) (w : World) (hv : vaB ps word = true) (hb : ∀ s ∈ ps, s.size ≤ 1048577) (hr : RdT w lo hi A ps) :
    Calls Try.prog 96 #[.slice A ps.length c, .string word] w (RetI w (vaL ps word)) := by
  have HB := Lib.hid hb; clear hb
  obtain ⟨hall, hpl, hw1, hw2, hlets⟩ := vaB_parts hv
  have HALL := Lib.hid hall
  have HBY : Hid (∀ (i : Nat) (h : i < word.size), (word[i]'h).toNat < 128) := fun i h => lets_byte hlets h
  clear hall hlets hv
  obtain ⟨n, hn⟩ : ∃ n, word.size = n + 1 := ⟨word.size - 1, by omega⟩
  obtain ⟨r, hr0⟩ : ∃ r, r = bl word := ⟨_, rfl⟩
  have HRR := Lib.hid hr0
  have hrl : r.length = n + 1 := by rw [hr0, bl_len, hn]
  obtain ⟨P, hP⟩ : ∃ P, P = vaL ps word := ⟨_, rfl⟩
  rw [← hP]
  have HP : Hid (P = vaTo ps r ps.length) := by show _ = _; rw [hP, vaL, ← hr0]
  clear hP hr0
  have hLen : ∀ k, (vaTo ps r k).length = n := fun k => by rw [vaTo_len, hrl]; rfl
  have HLEN := Lib.hid hLen; have HRL := Lib.hid hrl; clear hLen hrl
  obtain ⟨cs0, hmk, hf0⟩ := make_ints (P := Try.prog) 34 3 Try.underlying34 intInfo0 n (by omega)
  have HF0 := Lib.hid hf0; clear hf0
  go_enter Try.func96, Try.ntmps96
  go_wp2_with fail
  clear hmk
  obtain ⟨G, hG⟩ : ∃ G, G = w.heap.size := ⟨_, rfl⟩
  have hB0 : Blk (w.alloc (.cells cs0 3)) G 3 cs0 := by rw [hG]; exact Blk.new _ _ _
  rw [← hG]
  have hwG : w.heap.size ≤ G := by omega
  have HWG := Lib.hid hG
  clear hG
  go_loopw [21] (fun j wr => ∃ (k : Nat) (cur : Array Value), k ≤ ps.length ∧ j = .int .i64 k ∧ Blk wr G 3 cur ∧ FillI cur n (gt (vaTo ps r k)) ∧ Ext w wr) (fun j _ => ps.length - (intOf j).toNat)
  case atStart => exact ⟨0, cs0, Nat.zero_le _, rfl, hB0, HF0.out.congr (fun i _ => by rw [vaTo, gt_rep]), (by repeat (first | exact Ext.refl _ | assumption | refine Ext.trans ?_ (Ext.alloc _ _) | refine Ext.trans ?_ (Ext.drew _) | refine Ext.trans ?_ (Ext.drewN _ _) | refine Ext.trans ?_ (by assumption)))⟩
  case round =>
    clear hB0
    obtain ⟨k, cur, hk, rfl, hB, hF, hE⟩ := hrel
    by_cases hlt : k < ps.length
    · have hgl0 := hB.lt
      obtain ⟨p, b, off, HX, eA, h3, c0⟩ := RdT.get (hr.ext hE) hlt
      subst eA
      have hpb := HB.out p (List.mem_of_getElem? HX.out)
      obtain ⟨t, ht0, htP, htOk, hL1, hL6⟩ := pat_at HALL.out HX.out
      have hpB : patB p = true := by have := HALL.out; exact List.all_eq_true.1 this p (List.mem_of_getElem? HX.out)
      have hVl : t.V.length = t.L.size + 1 := by rw [Pt.V_len, htOk.len]
      have HVA : Hid (vaTo ps r (k + 1) = atTo t r (n + 1) (vaTo ps r k)) := by show _ = _; rw [va_succ HX.out, htP, HRL.out]
      obtain ⟨O, hO⟩ : ∃ O, O = vaTo ps r k := ⟨_, rfl⟩
      have hOl : O.length = n := by rw [hO]; exact HLEN.out k
      rw [← hO] at hF
      have HVA2 : Hid (vaTo ps r (k + 1) = atTo t r (n + 1) O) := by show _ = _; rw [hO]; exact HVA.out
      have HOL := Lib.hid hOl
      clear HVA hO ht0 htOk hOl
      obtain ⟨wa, rfl⟩ : ∃ x, x = wr := ⟨_, rfl⟩
      go_wp2_with fail
      refine (impl_readPattern p _ hpb).mono ?_
      rintro e w1 ⟨A3, c3, V3, rfl, hc3, hV3, hR3, hE3⟩
      have hV3' := hV3 hpB
      rw [htP] at hV3'
      subst hV3'
      rw [htP, hpB]
      clear hV3 htP hpB
      have hB1 := hB.ext hE3
      have hE1 := hE.trans hE3
      have hs1 := hE3.size
      clear hB hE
      go_wp2_with fail
      obtain ⟨g, hg⟩ : ∃ g, g = w1.heap.size := ⟨_, rfl⟩
      obtain ⟨w2, hw2⟩ : ∃ w2, w2 = w1.iter word 0 := ⟨_, rfl⟩
      have hIt : w2.heap[g]? = some (.stringIter word 0) := by rw [hw2, hg]; exact iter_new _ _
      have hE12 : Ext w1 w2 := by rw [hw2]; exact Ext.alloc _ _
      have hB2 := hB1.ext hE12
      have hR2 := hR3.ext hE12
      have hE2 := hE1.trans hE12
      have hgw : w.heap.size ≤ g := by rw [hg]; exact hE1.size
      have hGg : G < g := by omega
      have h3g : w1.heap.size ≤ g := by omega
      rw [← hw2, ← hg]
      clear hw2 hg hB1 hE1 hR3 hE3 hE12
      go_loopg [11] (word.size) (fun z v wr => ∃ (i : Nat) (cur : Array Value), i + z = word.size ∧ wr.heap[g]? = some (.stringIter word i) ∧ Blk wr G 3 cur ∧ FillI cur n (gt (atTo t r i O)) ∧ RdI wr wa.heap.size w1.heap.size A3 t.V ∧ Ext w wr)
      case atStart => exact ⟨0, cur, by omega, hIt, hB2, hF, hR2, hE2⟩
      case round =>
        clear hIt hB2 hF hR2 hE2
        obtain ⟨i, cur, hiz, hIt, hB, hF, hR, hE⟩ := hrel
        have HIZ := Lib.hid hiz
        have hio : i ≤ word.size := by omega
        clear hiz
        have hgl := hB.lt
        by_cases hli : i < word.size
        · obtain ⟨wn, hnx0, hIn, hsn, hbn, ho1, ho2, ho3⟩ := next_at hIt hli (HBY.out i hli)
          have hnx := hnx0 Try.prog
          have hOut := out_iter hsn hbn ho1 ho2 ho3
          have hBn := hB.iter (by omega) hbn
          have hRn := hR.out hOut (.inl h3g)
          have hEn : Ext w wn := Ext.iter hE hgw hsn hbn ho1 ho2 ho3
          have HIt := Lib.hid hIn
          have i0 : (0 : Int) ≤ i := by omega
          have i1 : (i : Int) < word.size := by omega
          have hgn := hBn.lt
          clear hnx0 hbn ho1 ho2 ho3 hsn hE hIt hIn hB hR hOut
          have hpre : bl (word.extract i (n + 1)) = r.drop i := by rw [← hn, bl_drop, ← HRR.out]
          have HPRE := Lib.hid hpre
          clear hpre
          have hxs : (word.extract i (n + 1)).size = n + 1 - i := by simp [ByteArray.size_extract]; omega
          have HC : Hid (∀ w, Calls Try.prog 70 #[.string (word.extract i (n + 1)), .string t.L] w fun e w' => e = .returned (.bool (preB (bl t.L) (r.drop i))) ∧ w = w') := by
            show ∀ w, _
            intro w
            rw [← HPRE.out]
            exact strings_HasPrefix _ _ w (by omega) (by omega)
          clear hxs
          cases t1 : preB (bl t.L) (r.drop i)
          · have HS : Hid (atTo t r (i + 1) O = atTo t r i O) := at_no t1
            rw [t1] at HC
            clear t1
            go_wp2_with ((go_at_call 70; refine (HC.out _).mono ?_; rintro e w' ⟨rfl, rfl⟩))
            go_roundg (word.size - (i + 1))
            case measure => have := HIZ.out; omega
            case rel => exact ⟨i + 1, cur, by omega, HIt.out, hBn, hF.congr (fun q _ => by rw [HS.out]), hRn, hEn⟩
          · have HS : Hid (atTo t r (i + 1) O = updTo t.V i t.V.length (atTo t r i O)) := at_yes t1
            rw [t1] at HC
            clear t1
            obtain ⟨O2, hO2⟩ : ∃ O2, O2 = atTo t r i O := ⟨_, rfl⟩
            have hO2l : O2.length = n := by rw [hO2, atTo_len, HOL.out]
            have HO2L := Lib.hid hO2l
            rw [← hO2] at hF HS
            clear hO2 hO2l
            go_wp2_with ((go_at_call 70; refine (HC.out _).mono ?_; rintro e w' ⟨rfl, rfl⟩))
            clear HC
            go_loopw [44] (fun j wr => ∃ (q : Nat) (cur : Array Value), q ≤ t.V.length ∧ j = .int .i64 q ∧ wr.heap[g]? = some (.stringIter word (i + 1)) ∧ Blk wr G 3 cur ∧ FillI cur n (gt (updTo t.V i q O2)) ∧ RdI wr wa.heap.size w1.heap.size A3 t.V ∧ Ext w wr) (fun j _ => t.V.length - (intOf j).toNat)
            case atStart => exact ⟨0, cur, Nat.zero_le _, rfl, HIt.out, hBn, hF, hRn, hEn⟩
            case round =>
              clear hBn hF hRn hEn
              obtain ⟨q, cur, hq, rfl, hIt, hB, hF, hR, hE⟩ := hrel
              have HIT := Lib.hid hIt
              clear hIt
              have hgl2 := hB.lt
              by_cases hqt : q < t.V.length
              · obtain ⟨x, b2, off2, HY, rfl, _, _, h4, y0, _⟩ := RdI.get hR hqt
                have HU : Hid (updTo t.V i (q + 1) O2 = setM (updTo t.V i q O2) ((i : Int) + q - 1) x) := upd_succ HY.out
                have hUL : (updTo t.V i q O2).length = n := by rw [updTo_len, HO2L.out]
                have HUL := Lib.hid hUL; clear hUL
                cases hin : inB ((i : Int) + q - 1) 0 ((n : Int) - 1)
                · have HU2 : Hid (updTo t.V i (q + 1) O2 = updTo t.V i q O2) := by show _ = _; rw [HU.out]; exact setM_no HUL.out hin
                  go_wp2_with ((go_at_call 85; refine (within_any _ _ _ _).mono ?_; rintro e w' ⟨rfl, rfl⟩))
                  go_roundw
                  case rel => exact ⟨q + 1, cur, by omega, by go_num, HIT.out, hB, hF.congr (fun z _ => by rw [HU2.out]), hR, hE⟩
                  case measure => simp [intOf]; omega
                · have hb := inB_iff.1 hin
                  obtain ⟨m, hm⟩ : ∃ m : Nat, (i : Int) + q - 1 = (m : Int) := ⟨((i : Int) + q - 1).toNat, by omega⟩
                  have hmn : m < n := by omega
                  obtain ⟨q0, r0⟩ := hF.cell hB (k := m) hmn
                  obtain ⟨o, ho⟩ : ∃ o, o = gt (updTo t.V i q O2) m := ⟨_, rfl⟩
                  rw [← ho] at q0
                  have HO3 := Lib.hid ho; clear ho
                  have HU2 : Hid (∀ z, gt (updTo t.V i (q + 1) O2) z = if z = m then (if o < x then x else o) else gt (updTo t.V i q O2) z) := by
                    show ∀ z, _
                    intro z
                    rw [HU.out, hm, setM_yes HUL.out hmn, ← HO3.out]
                  have m0 : (0 : Int) ≤ m := by omega
                  have m1 : (m : Int) < n := by omega
                  have hin2 : inB (m : Int) 0 ((n : Int) - 1) = true := by rw [← hm]; exact hin
                  clear hb hin
                  go_wp2_with ((go_at_call 85; refine (within_any _ _ _ _).mono ?_; rintro e w' ⟨rfl, rfl⟩))
                  go_roundw
                  case rel => exact ⟨q + 1, _, by omega, by go_num, iter_set HIT.out (by omega), hB.set_ m _, (hF.set_ m _).congr (fun z _ => HU2.out z), hR.out (out_set _ _ _ _) (.inr (by omega)), Ext.setCell hE hwG _⟩
                  case measure => simp [intOf]; omega
              · have hql : q = t.V.length := by omega
                subst hql
                clear hqt
                go_wp2
                go_roundg (word.size - (i + 1))
                case measure => have := HIZ.out; omega
                case rel => exact ⟨i + 1, cur, by omega, HIT.out, hB, hF.congr (fun q _ => by rw [HS.out]), hR, hE⟩
        · have hil : i = n + 1 := by omega
          subst hil
          have hnx := next_stop hIt hli Try.prog
          clear hIt hli
          go_wp2
          go_roundw
          case rel => exact ⟨k + 1, cur, by omega, by go_num, hB, hF.congr (fun q _ => by rw [HVA2.out]), hE⟩
          case measure => simp [intOf]; omega
    · have hkl : k = ps.length := by omega
      subst hkl
      clear hlt
      go_wp2
      go_ret
      have hPl : P.length = n := by rw [HP.out]; exact HLEN.out _
      refine ⟨_, _, by rw [hPl]; rfl, by rw [hPl]; exact Nat.le_refl _, ?_, hE⟩
      exact hF.rd hB hwG hPl (fun i hi => by rw [HP.out, gt, List.getElem?_eq_getElem (by rw [HLEN.out]; exact hi)]; rfl)
theorem eqPre {word L : ByteArray} {r : List UInt8} {i : Nat} (hr : r = bl word) (h : i + L.size ≤ word.size) : ((word.extract i (i + L.size)).toList == L.toList) = preB (bl L) (r.drop i) := by
  subst hr
  rw [bl_toList, bl_toList, bl_extract, preB, bl_len]
  have h1 : i + L.size - i = L.size := by omega
  rw [h1, decide_eq_true (by rw [List.length_drop, bl_len]; omega), Bool.true_and]
theorem most_val {a b y : Int} (h : (if a < b then b else a) = y) (w : World) : Calls Try.prog 82 #[.int .i64 a, .int .i64 b] w fun e w' => e = .returned (.int .i64 y) ∧ w = w' := by subst h; exact most_pair a b w
theorem preB_short {c r : List UInt8} {b : Nat} (h : r.length < b + c.length) (hc : 1 ≤ c.length) : preB c (r.drop b) = false := by
  rw [preB, decide_eq_false (by rw [List.length_drop]; omega), Bool.false_and]
set_option maxRecDepth 20000 in
set_option maxHeartbeats 4000000 in
theorem spec_hyValues (A : Option Addr) (c : Nat) (ps : List ByteArray) (word : ByteArray) (lo hi : Nat) (w : World) (hv : vaB ps word = true) (hb : ∀ s ∈ ps, s.size ≤ 1048577) (hr : RdT w lo hi A ps) :
    Calls Try.prog 94 #[.slice A ps.length c, .string word] w (RetI w (vaL ps word)) := by
  have HB := Lib.hid hb; clear hb
  obtain ⟨hall, hpl, hw1, hw2, hlets⟩ := vaB_parts hv
  have HALL := Lib.hid hall
  clear hall hlets hv
  obtain ⟨n, hn⟩ : ∃ n, word.size = n + 1 := ⟨word.size - 1, by omega⟩
  obtain ⟨r, hr0⟩ : ∃ r, r = bl word := ⟨_, rfl⟩
  have HRR := Lib.hid hr0
  have hrl : r.length = n + 1 := by rw [hr0, bl_len, hn]
  obtain ⟨P, hP⟩ : ∃ P, P = vaL ps word := ⟨_, rfl⟩
  rw [← hP]
  have HP : Hid (P = vaTo ps r ps.length) := by show _ = _; rw [hP, vaL, ← hr0]
  clear hP hr0
  have hLen : ∀ k, (vaTo ps r k).length = n := fun k => by rw [vaTo_len, hrl]; rfl
  have HLEN := Lib.hid hLen; have HRL := Lib.hid hrl; clear hLen hrl
  obtain ⟨cs0, hmk, hf0⟩ := make_ints (P := Try.prog) 34 3 Try.underlying34 intInfo0 n (by omega)
  have HF0 := Lib.hid hf0; clear hf0
  go_enter Try.func94, Try.ntmps94
  go_wp2_with fail
  clear hmk
  obtain ⟨G, hG⟩ : ∃ G, G = w.heap.size := ⟨_, rfl⟩
  have hB0 : Blk (w.alloc (.cells cs0 3)) G 3 cs0 := by rw [hG]; exact Blk.new _ _ _
  rw [← hG]
  have hwG : w.heap.size ≤ G := by omega
  have HWG := Lib.hid hG
  clear hG
  go_loopw [21] (fun j wr => ∃ (k : Nat) (cur : Array Value), k ≤ ps.length ∧ j = .int .i64 k ∧ Blk wr G 3 cur ∧ FillI cur n (gt (vaTo ps r k)) ∧ Ext w wr) (fun j _ => ps.length - (intOf j).toNat)
  case atStart => exact ⟨0, cs0, Nat.zero_le _, rfl, hB0, HF0.out.congr (fun i _ => by rw [vaTo, gt_rep]), (by repeat (first | exact Ext.refl _ | assumption | refine Ext.trans ?_ (Ext.alloc _ _) | refine Ext.trans ?_ (Ext.drew _) | refine Ext.trans ?_ (Ext.drewN _ _) | refine Ext.trans ?_ (by assumption)))⟩
  case round =>
    clear hB0
    obtain ⟨k, cur, hk, rfl, hB, hF, hE⟩ := hrel
    by_cases hlt : k < ps.length
    · have hgl0 := hB.lt
      obtain ⟨p, b, off, HX, eA, h3, c0⟩ := RdT.get (hr.ext hE) hlt
      subst eA
      have hpb := HB.out p (List.mem_of_getElem? HX.out)
      obtain ⟨t, ht0, htP, htOk, hL1, hL6⟩ := pat_at HALL.out HX.out
      have hpB : patB p = true := by have := HALL.out; exact List.all_eq_true.1 this p (List.mem_of_getElem? HX.out)
      have hVl : t.V.length = t.L.size + 1 := by rw [Pt.V_len, htOk.len]
      have HVA : Hid (vaTo ps r (k + 1) = atTo t r (n + 1) (vaTo ps r k)) := by show _ = _; rw [va_succ HX.out, htP, HRL.out]
      obtain ⟨O, hO⟩ : ∃ O, O = vaTo ps r k := ⟨_, rfl⟩
      have hOl : O.length = n := by rw [hO]; exact HLEN.out k
      rw [← hO] at hF
      have HVA2 : Hid (vaTo ps r (k + 1) = atTo t r (n + 1) O) := by show _ = _; rw [hO]; exact HVA.out
      have HOL := Lib.hid hOl
      clear HVA hO ht0 htOk hOl
      obtain ⟨wa, rfl⟩ : ∃ x, x = wr := ⟨_, rfl⟩
      go_wp2_with fail
      refine (spec_hyPattern p _ hpb).mono ?_
      rintro e w1 ⟨A3, c3, V3, rfl, hc3, hV3, hR3, hE3⟩
      have hV3' := hV3 hpB
      rw [htP] at hV3'
      subst hV3'
      rw [htP, hpB]
      clear hV3 htP hpB
      have hB1 := hB.ext hE3
      have hE1 := hE.trans hE3
      have hs1 := hE3.size
      clear hB hE
      go_wp2_with fail
      go_loopw [11] (fun j wr => ∃ (i : Nat) (cur : Array Value), i ≤ n + 1 ∧ j = .int .i64 i ∧ Blk wr G 3 cur ∧ FillI cur n (gt (atTo t r i O)) ∧ RdI wr wa.heap.size w1.heap.size A3 t.V ∧ Ext w wr) (fun j _ => n + 1 - (intOf j).toNat)
      case atStart => exact ⟨0, cur, by omega, rfl, hB1, hF, hR3, hE1⟩
      case round =>
        clear hB1 hF hR3 hE1 hE3
        obtain ⟨i, cur, hio, rfl, hB, hF, hR, hE⟩ := hrel
        have hgl := hB.lt
        by_cases hli : i + t.L.size ≤ n + 1
        · have i1 : (i : Int) + (t.L.size : Int) ≤ (n : Int) + 1 := by omega
          have i2 : decide ((i : Int) + (t.L.size : Int) ≤ (n : Int) + 1) = true := decide_eq_true i1
          have HEQ := eqPre (i := i) HRR.out (by omega : i + t.L.size ≤ word.size)
          cases t1 : preB (bl t.L) (r.drop i)
          · have HS : Hid (atTo t r (i + 1) O = atTo t r i O) := at_no t1
            rw [t1] at HEQ
            clear t1
            go_wp2
            go_roundw
            case rel => exact ⟨i + 1, cur, by omega, by go_num, hB, hF.congr (fun q _ => by rw [HS.out]), hR, hE⟩
            case measure => simp [intOf]; omega
          · have HS : Hid (atTo t r (i + 1) O = updTo t.V i t.V.length (atTo t r i O)) := at_yes t1
            rw [t1] at HEQ
            clear t1
            obtain ⟨O2, hO2⟩ : ∃ O2, O2 = atTo t r i O := ⟨_, rfl⟩
            have hO2l : O2.length = n := by rw [hO2, atTo_len, HOL.out]
            have HO2L := Lib.hid hO2l
            rw [← hO2] at hF HS
            clear hO2 hO2l
            go_wp2
            clear HEQ
            go_loopw [51] (fun j wr => ∃ (q : Nat) (cur : Array Value), q ≤ t.V.length ∧ j = .int .i64 q ∧ Blk wr G 3 cur ∧ FillI cur n (gt (updTo t.V i q O2)) ∧ RdI wr wa.heap.size w1.heap.size A3 t.V ∧ Ext w wr) (fun j _ => t.V.length - (intOf j).toNat)
            case atStart => exact ⟨0, cur, Nat.zero_le _, rfl, hB, hF, hR, hE⟩
            case round =>
              clear hB hF hR hE
              obtain ⟨q, cur, hq, rfl, hB, hF, hR, hE⟩ := hrel
              have hgl2 := hB.lt
              by_cases hqt : q < t.V.length
              · obtain ⟨x, b2, off2, HY, rfl, _, _, h4, y0, _⟩ := RdI.get hR hqt
                have HU : Hid (updTo t.V i (q + 1) O2 = setM (updTo t.V i q O2) ((i : Int) + q - 1) x) := upd_succ HY.out
                have hUL : (updTo t.V i q O2).length = n := by rw [updTo_len, HO2L.out]
                have HUL := Lib.hid hUL; clear hUL
                cases hin : inB ((i : Int) + q - 1) 0 ((n : Int) - 1)
                · have HU2 : Hid (updTo t.V i (q + 1) O2 = updTo t.V i q O2) := by show _ = _; rw [HU.out]; exact setM_no HUL.out hin
                  go_wp2_with ((go_at_call 81; refine (l1In_any _ _ _ _).mono ?_; rintro e w' ⟨rfl, rfl⟩))
                  go_roundw
                  case rel => exact ⟨q + 1, cur, by omega, by go_num, hB, hF.congr (fun z _ => by rw [HU2.out]), hR, hE⟩
                  case measure => simp [intOf]; omega
                · have hb := inB_iff.1 hin
                  obtain ⟨m, hm⟩ : ∃ m : Nat, (i : Int) + q - 1 = (m : Int) := ⟨((i : Int) + q - 1).toNat, by omega⟩
                  have hmn : m < n := by omega
                  obtain ⟨q0, r0⟩ := hF.cell hB (k := m) hmn
                  obtain ⟨o, ho⟩ : ∃ o, o = gt (updTo t.V i q O2) m := ⟨_, rfl⟩
                  rw [← ho] at q0
                  have HO3 := Lib.hid ho; clear ho
                  obtain ⟨y, hy⟩ : ∃ y, (if o < x then x else o) = y := ⟨_, rfl⟩
                  have HU2 : Hid (∀ z, gt (updTo t.V i (q + 1) O2) z = if z = m then y else gt (updTo t.V i q O2) z) := by
                    show ∀ z, _
                    intro z
                    rw [HU.out, hm, setM_yes HUL.out hmn, ← HO3.out, hy]
                  have m0 : (0 : Int) ≤ m := by omega
                  have m1 : (m : Int) < n := by omega
                  have hin2 : inB (m : Int) 0 ((n : Int) - 1) = true := by rw [← hm]; exact hin
                  clear hb hin
                  go_wp2_with ((first | (go_at_call 81; refine (l1In_any _ _ _ _).mono ?_; rintro e w' ⟨rfl, rfl⟩) | (go_at_call 82; refine (most_val hy _).mono ?_; rintro e w' ⟨rfl, rfl⟩)))
                  go_roundw
                  case rel => exact ⟨q + 1, _, by omega, by go_num, hB.set_ m _, (hF.set_ m _).congr (fun z _ => HU2.out z), hR.out (out_set _ _ _ _) (.inr (by omega)), Ext.setCell hE hwG _⟩
                  case measure => simp [intOf]; omega
              · have hql : q = t.V.length := by omega
                subst hql
                clear hqt
                go_wp2
                go_roundw
                case rel => exact ⟨i + 1, cur, by omega, by go_num, hB, hF.congr (fun q _ => by rw [HS.out]), hR, hE⟩
                case measure => simp [intOf]; omega
        · have HEN : Hid (atTo t r (n + 1) O = atTo t r i O) := atTo_end t r i O (fun b hb => preB_short (by rw [HRL.out, bl_len]; omega) (by rw [bl_len]; omega)) (n + 1) hio
          go_wp2
          go_roundw
          case rel => exact ⟨k + 1, cur, by omega, by go_num, hB, hF.congr (fun q _ => by rw [HVA2.out, HEN.out]), hE⟩
          case measure => simp [intOf]; omega
    · have hkl : k = ps.length := by omega
      subst hkl
      clear hlt
      go_wp2
      go_ret
      have hPl : P.length = n := by rw [HP.out]; exact HLEN.out _
      refine ⟨_, _, by rw [hPl]; rfl, by rw [hPl]; exact Nat.le_refl _, ?_, hE⟩
      exact hF.rd hB hwG hPl (fun i hi => by rw [HP.out, gt, List.getElem?_eq_getElem (by rw [HLEN.out]; exact hi)]; rfl)
end Go.Proofs.Ytnkkpphjahpadaa
