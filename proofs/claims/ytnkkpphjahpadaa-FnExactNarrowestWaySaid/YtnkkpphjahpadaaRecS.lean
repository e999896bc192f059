/- The walks of the laws' own helpers over slices of Sort. (Printed by mkRec.py.) -/
import Derived.Test.YtnkkpphjahpadaaFlat
import Derived.Test.YtnkkpphjahpadaaStr
import Derived.Test.YtnkkpphjahpadaaXw
namespace Go.Proofs.Ytnkkpphjahpadaa
open Go.RowKit
set_option linter.unusedVariables false
structure Srt where
  code : ByteArray
  set : Int
def Srt.enc (m : Srt) : List Value := [.string m.code, .int .i64 m.set]
theorem Srt.enc_len (m : Srt) : m.enc.length = 2 := rfl
def RdS (w : World) (lo hi : Nat) (A : Option Addr) (l : List Srt) : Prop := Rd w lo hi A (l.flatMap Srt.enc)
theorem lenS (l : List Srt) : (l.flatMap Srt.enc).length = l.length * 2 := flat_len _ 2 Srt.enc_len l
section
variable {w w' : World} {lo hi : Nat} {A : Option Addr} {l : List Srt}
theorem RdS.ext (h : RdS w lo hi A l) (hb : Ext w w') : RdS w' lo hi A l := Rd.ext h hb
theorem RdS.out {lo' hi' : Nat} (h : RdS w lo hi A l) (ho : Out lo' hi' w w') (hd : hi ≤ lo' ∨ hi' ≤ lo) : RdS w' lo hi A l := Rd.out h ho hd
theorem getS (h : RdA w lo hi A (l.flatMap Srt.enc)) {k : Nat} (hk : k < l.length) :
    ∃ x b off, Hid (l[k]? = some x) ∧ A = some ⟨b, off, none⟩ ∧ b < w.heap.size ∧
      w.cell? ⟨b, off + k * 2, none⟩ = some (.string x.code) ∧ w.cell? ⟨b, off + k * 2 + 1, none⟩ = some (.int .i64 x.set) := by
  obtain ⟨b, off, e, h1, h2, h3, hc⟩ := h.at_ (k := k * 2) (by rw [lenS]; omega)
  have g := fun j hj => flat_get _ 2 Srt.enc_len l k hk j hj
  exact ⟨l[k], b, off, List.getElem?_eq_getElem hk, e, h3, hc _ _ (g 0 (by omega)), hc _ _ (g 1 (by omega))⟩
theorem RdS.get (h : RdS w lo hi A l) {k : Nat} (hk : k < l.length) :
    ∃ x b off, Hid (l[k]? = some x) ∧ A = some ⟨b, off, none⟩ ∧ b < w.heap.size ∧
      w.cell? ⟨b, off + k * 2, none⟩ = some (.string x.code) ∧ w.cell? ⟨b, off + k * 2 + 1, none⟩ = some (.int .i64 x.set) := getS (Rd.toA h) hk
end
def totS (l : List Srt) (k : Nat) : Nat := ((l.take k).map fun m => m.code.size).sum
theorem totS_succ {l : List Srt} {k : Nat} {m : Srt} (h : l[k]? = some m) : totS l (k + 1) = totS l k + m.code.size := by
  rw [totS, take_snoc h]; simp [totS]
theorem totS_mono (l : List Srt) {k : Nat} : ∀ n, k ≤ n → n ≤ l.length → totS l k ≤ totS l n := by
  intro n hk
  induction n with
  | zero => intro _; rw [show k = 0 by omega]; exact Nat.le_refl _
  | succ n ih =>
    intro hn
    by_cases e : k = n + 1
    · subst e; exact Nat.le_refl _
    · obtain ⟨s, hs⟩ : ∃ s, l[n]? = some s := ⟨_, List.getElem?_eq_getElem (by omega)⟩
      rw [totS_succ hs]
      have := ih (by omega) (by omega)
      omega
def bulkS (l : List Srt) : Nat := l.length + totS l l.length
theorem recS_le {l : List Srt} {m : Srt} (h : m ∈ l) : m.code.size ≤ totS l l.length := by
  obtain ⟨i, hi, rfl⟩ := List.mem_iff_getElem.1 h
  have h1 := totS_succ (List.getElem?_eq_getElem hi)
  have h2 := totS_mono l (k := i + 1) l.length (by omega) (Nat.le_refl _)
  omega
def szS (l : List Srt) (left : Int) : Int := if (bulkS l : Int) ≤ left then left - bulkS l else -1
theorem szS_yes {l : List Srt} {left : Int} (h : (bulkS l : Int) ≤ left) : szS l left = left - bulkS l := if_pos h
theorem szS_no {l : List Srt} {left : Int} (h : ¬ (bulkS l : Int) ≤ left) : szS l left = -1 := if_neg h
theorem szSort_yes (m : Srt) (left : Int) (w : World) (h0 : 0 ≤ left) (h1 : left ≤ 1048576) (h : (m.code.size : Int) ≤ left) :
    Calls Try.prog 31 #[.agg #[.string m.code, .int .i64 m.set], .int .i64 left] w fun e w' => e = .returned (.int .i64 (left - m.code.size)) ∧ Ext w w' := by
  go_enter Try.func31, Try.ntmps31
  go_wp2
  go_ret
  exact ⟨rfl, (by repeat (first | exact Ext.refl _ | assumption | refine Ext.trans ?_ (Ext.alloc _ _) | refine Ext.trans ?_ (Ext.drew _) | refine Ext.trans ?_ (Ext.drewN _ _) | refine Ext.trans ?_ (by assumption)))⟩
theorem szSort_no (m : Srt) (left : Int) (w : World) (h0 : 0 ≤ left) (h1 : left ≤ 1048576) (h2 : m.code.size ≤ maxLen) (h : left < (m.code.size : Int)) :
    Calls Try.prog 31 #[.agg #[.string m.code, .int .i64 m.set], .int .i64 left] w fun e w' => e = .returned (.int .i64 (-1)) ∧ Ext w w' := by
  unfold maxLen at h2
  go_enter Try.func31, Try.ntmps31
  go_wp2
  go_ret
  exact ⟨rfl, (by repeat (first | exact Ext.refl _ | assumption | refine Ext.trans ?_ (Ext.alloc _ _) | refine Ext.trans ?_ (Ext.drew _) | refine Ext.trans ?_ (Ext.drewN _ _) | refine Ext.trans ?_ (by assumption)))⟩
theorem szSortS_any (A : Option Addr) (c : Nat) (l : List Srt) (lo hi : Nat) (left : Int) (w : World) (hl : l.length ≤ 9223372036854775807) (hb : ∀ m ∈ l, m.code.size ≤ maxLen) (h0 : 0 ≤ left) (h1 : left ≤ 1048576) (hr : RdA w lo hi A (l.flatMap Srt.enc)) :
    Calls Try.prog 15 #[.slice A l.length c, .int .i64 left] w fun e w' => e = .returned (.int .i64 (szS l left)) ∧ Ext w w' := by
  have HB := Lib.hid hb; clear hb
  by_cases hlen : (l.length : Int) ≤ left
  case neg =>
    go_enter Try.func15, Try.ntmps15
    go_wp2
    go_ret
    exact ⟨ret_int (szS_no (by unfold bulkS; omega)).symm, (by repeat (first | exact Ext.refl _ | assumption | refine Ext.trans ?_ (Ext.alloc _ _) | refine Ext.trans ?_ (Ext.drew _) | refine Ext.trans ?_ (Ext.drewN _ _) | refine Ext.trans ?_ (by assumption)))⟩
  go_enter Try.func15, Try.ntmps15
  go_wp2
  go_loopw [1, 5] (fun s i wr => ∃ (k t : Nat), k ≤ l.length ∧ i = .int .i64 k ∧ s = .int .i64 (left - l.length - t) ∧ t = totS l k ∧ (l.length : Int) + t ≤ left ∧ Ext w wr) (fun _ i _ => l.length - (intOf i).toNat)
  case atStart => exact ⟨0, 0, Nat.zero_le _, rfl, by simp, by simp [totS], by omega, Ext.refl _⟩
  case round =>
    obtain ⟨k, t, hk, rfl, rfl, ht, htl, hE⟩ := hrel
    have HT := Lib.hid ht; clear ht
    by_cases hlt : k < l.length
    · obtain ⟨m, b, off, HX, rfl, h3, c0, c1⟩ := getS (hr.ext hE) hlt
      have hll := HB.out m (List.mem_of_getElem? HX.out)
      have hs := totS_succ HX.out
      have hm := totS_mono l (k := k + 1) l.length (by omega) (Nat.le_refl _)
      have HS := Lib.hid hs; have HM := Lib.hid hm
      clear hs hm
      by_cases hsm : (m.code.size : Int) ≤ left - l.length - t
      · go_wp2_with (go_at_call 31; refine (szSort_yes m _ _ (by omega) (by omega) hsm).mono ?_; rintro e w2 ⟨rfl, hE2⟩; obtain ⟨hc2, hf2⟩ := bcell hE2; have hs2 := hE2.size; (try simp only [World.size_alloc] at hs2))
        go_roundw
        case rel => exact ⟨k + 1, t + m.code.size, by omega, by go_num, val_int (by omega), by rw [HS.out, HT.out], by omega, (by repeat (first | exact Ext.refl _ | assumption | refine Ext.trans ?_ (Ext.alloc _ _) | refine Ext.trans ?_ (Ext.drew _) | refine Ext.trans ?_ (Ext.drewN _ _) | refine Ext.trans ?_ (by assumption)))⟩
        case measure => simp [intOf]; omega
      · go_wp2_with (go_at_call 31; refine (szSort_no m _ _ (by omega) (by omega) hll (by omega)).mono ?_; rintro e w2 ⟨rfl, hE2⟩; obtain ⟨hc2, hf2⟩ := bcell hE2; have hs2 := hE2.size; (try simp only [World.size_alloc] at hs2))
        go_ret
        have q1 := HS.out; have q2 := HM.out; have q3 := HT.out
        exact ⟨ret_int (szS_no (by unfold bulkS; omega)).symm, (by repeat (first | exact Ext.refl _ | assumption | refine Ext.trans ?_ (Ext.alloc _ _) | refine Ext.trans ?_ (Ext.drew _) | refine Ext.trans ?_ (Ext.drewN _ _) | refine Ext.trans ?_ (by assumption)))⟩
    · have hkl : k = l.length := by omega
      subst hkl
      clear hlt
      go_wp2
      go_ret
      have q3 := HT.out
      exact ⟨ret_int (by rw [szS_yes (by unfold bulkS; omega)]; unfold bulkS; omega), hE⟩
theorem toSort_any (x : Srt) (w : World) : Calls Try.prog 33 #[.agg #[.string x.code, .int .i64 x.set]] w fun e w' => e = .returned (.agg #[.string x.code, .int .i64 x.set]) ∧ Ext w w' := by
  go_enter Try.func33, Try.ntmps33
  go_wp2
  exact bodyPost_ret (v := .agg #[.string x.code, .int .i64 x.set]) (by simp [results, Try.results33, go_sem]) rfl ⟨rfl, (by repeat (first | exact Ext.refl _ | assumption | refine Ext.trans ?_ (Ext.alloc _ _) | refine Ext.trans ?_ (Ext.drew _) | refine Ext.trans ?_ (Ext.drewN _ _) | refine Ext.trans ?_ (by assumption)))⟩
theorem eqSort_same (x : Srt) (w : World) : Calls Try.prog 63 #[.agg #[.string x.code, .int .i64 x.set], .agg #[.string x.code, .int .i64 x.set]] w fun e w' => e = .returned (.bool true) ∧ Ext w w' := by
  go_enter Try.func63, Try.ntmps63
  go_wp2
  go_ret
  exact ⟨rfl, (by repeat (first | exact Ext.refl _ | assumption | refine Ext.trans ?_ (Ext.alloc _ _) | refine Ext.trans ?_ (Ext.drew _) | refine Ext.trans ?_ (Ext.drewN _ _) | refine Ext.trans ?_ (by assumption)))⟩
theorem infoS : (Try.prog.info? 46).map (fun i => (i.zero, i.size, i.bytes)) = some (some (.agg #[.string ByteArray.empty, .int .i64 0]), 2, 24) := by kernel_rfl
/-- The first k elements of the block are those of l. -/
def FilledS (cur : Array Value) (l : List Srt) (k : Nat) : Prop := cur.size = l.length * 2 ∧ ∀ (j : Nat) u, ((l.take k).flatMap Srt.enc)[j]? = some u → cur[j]? = some u
theorem FilledS.full {cur : Array Value} {l : List Srt} (h : FilledS cur l l.length) : ∀ (j : Nat) u, (l.flatMap Srt.enc)[j]? = some u → cur[j]? = some u := by
  have := h.2
  rwa [List.take_of_length_le (Nat.le_refl _)] at this
theorem FilledS.zero {cur : Array Value} {l : List Srt} (h : cur.size = l.length * 2) : FilledS cur l 0 := ⟨h, fun j u hu => by simp at hu⟩
theorem FilledS.step {cur : Array Value} {l : List Srt} {k : Nat} {x : Srt} (h : FilledS cur l k) (hx : l[k]? = some x) :
    FilledS (((cur.setIfInBounds (k * 2) (.string x.code)).setIfInBounds (k * 2 + 1) (.int .i64 x.set))) l (k + 1) := by
  have hk : k < l.length := (List.getElem?_eq_some_iff.1 hx).1
  obtain ⟨hs, hc⟩ := h
  refine ⟨by simpa using hs, fun j u hu => ?_⟩
  rw [take_snoc hx, List.flatMap_append] at hu
  have hl : ((l.take k).flatMap Srt.enc).length = k * 2 := by rw [lenS, List.length_take]; omega
  simp only [Array.getElem?_setIfInBounds]
  by_cases hj : j < k * 2
  · rw [List.getElem?_append_left (by omega)] at hu
    rw [if_neg (by omega), if_neg (by omega)]
    exact hc j u hu
  · rw [List.getElem?_append_right (by omega), hl] at hu
    have hj2 : j - k * 2 < 2 := by
      have := (List.getElem?_eq_some_iff.1 hu).1
      simpa [Srt.enc] using this
    have : j = k * 2 ∨ j = k * 2 + 1 := by omega
    rcases this with rfl | rfl
    · rw [Nat.sub_self] at hu
      simp [Srt.enc] at hu
      simp [hu]; omega
    · rw [show k * 2 + 1 - k * 2 = 1 by omega] at hu
      simp [Srt.enc] at hu
      simp [hu]; omega
theorem toSortS_any (A : Option Addr) (c : Nat) (l : List Srt) (lo hi : Nat) (w : World) (hl : l.length ≤ 1048577) (hr : RdA w lo hi A (l.flatMap Srt.enc)) :
    Calls Try.prog 17 #[.slice A l.length c] w fun e w' => ∃ g, e = .returned (.slice (some ⟨g, 0, none⟩) l.length l.length) ∧ RdS w' w.heap.size w'.heap.size (some ⟨g, 0, none⟩) l ∧ Ext w w' := by
  obtain ⟨i0, hi0, hz0, hz1, hz2⟩ := info_parts infoS
  have hmk := fun W => run_make_rowN (P := Try.prog) 27 46 i0 _ Try.underlying27 hi0 hz0 l.length l.length (Nat.le_refl _) (by rw [hz2]; omega) (by omega) W
  rw [hz1] at hmk
  generalize hcs : madeCells (Value.agg #[.string ByteArray.empty, .int .i64 0]).cells (l.length * 2) = cs0 at hmk
  have hsz : cs0.size = l.length * 2 := by rw [← hcs, size_madeCells]
  have HSZ := Lib.hid hsz
  clear hcs hsz hi0 hz0 hz1 hz2
  go_enter Try.func17, Try.ntmps17
  go_wp2
  clear hmk
  go_loopw [4] (fun i wr => ∃ (k : Nat) (cur : Array Value), k ≤ l.length ∧ i = .int .i64 k ∧ Blk wr w.heap.size 46 cur ∧ FilledS cur l k ∧ Ext w wr) (fun i _ => l.length - (intOf i).toNat)
  case atStart => exact ⟨0, cs0, Nat.zero_le _, rfl, Blk.new _ _ _, FilledS.zero HSZ.out, (by repeat (first | exact Ext.refl _ | assumption | refine Ext.trans ?_ (Ext.alloc _ _) | refine Ext.trans ?_ (Ext.drew _) | refine Ext.trans ?_ (Ext.drewN _ _) | refine Ext.trans ?_ (by assumption)))⟩
  case round =>
    obtain ⟨k, cur, hk, rfl, hB, hF, hE⟩ := hrel
    by_cases hlt : k < l.length
    · obtain ⟨x, b, off, HX, rfl, h3, c0, c1⟩ := getS (hr.ext hE) hlt
      have hcs := hF.1
      have HCS := Lib.hid hcs
      obtain ⟨v0, hv0⟩ : ∃ v, cur[k * 2]? = some v := ⟨_, Array.getElem?_eq_getElem (by omega)⟩
      obtain ⟨v1, hv1⟩ : ∃ v, cur[k * 2 + 1]? = some v := ⟨_, Array.getElem?_eq_getElem (by omega)⟩
      have q0 := hB.cell hv0
      have r0 := hB.frozen (k * 2)
      have q1 := hB.cell hv1
      have r1 := hB.frozen (k * 2 + 1)
      have hgl := hB.lt
      clear hcs hv0 hv1
      go_wp2_with (go_at_call 33; refine (toSort_any x _).mono ?_; rintro e w1 ⟨rfl, hE1⟩; obtain ⟨hc1, hf1⟩ := bcell hE1; have hs1 := hE1.size; (try simp only [World.size_alloc] at hs1))
      go_roundw
      case rel => exact ⟨k + 1, _, by omega, by go_num, (((hB.ext hE1).set_ _ _).set_ _ _), hF.step HX.out, (Ext.setCell (Ext.setCell (hE.trans hE1) (Nat.le_refl _) _) (Nat.le_refl _) _)⟩
      case measure => simp [intOf]; omega
    · have hkl : k = l.length := by omega
      subst hkl
      clear hlt
      go_wp2
      go_ret
      exact ⟨_, rfl, hB.rd (Nat.le_refl _) hF.full, hE⟩
theorem eqSortS_same (A B : Option Addr) (c d : Nat) (l : List Srt) (lo hi lo' hi' : Nat) (w : World) (hl : l.length ≤ 4611686018427387904) (hr : RdS w lo hi A l) (hr' : RdS w lo' hi' B l) :
    Calls Try.prog 20 #[.slice A l.length c, .slice B l.length d] w fun e w' => e = .returned (.bool true) ∧ Ext w w' := by
  go_enter Try.func20, Try.ntmps20
  go_wp2
  go_loopw [5] (fun i wr => ∃ k : Nat, k ≤ l.length ∧ i = .int .i64 k ∧ Ext w wr) (fun i _ => l.length - (intOf i).toNat)
  case atStart => exact ⟨0, Nat.zero_le _, rfl, Ext.refl _⟩
  case round =>
    obtain ⟨k, hk, rfl, hE⟩ := hrel
    by_cases hlt : k < l.length
    · obtain ⟨x, b, off, HX, rfl, h3, c0, c1⟩ := RdS.get (hr.ext hE) hlt
      obtain ⟨x', b', off', HX', rfl, h3', d0, d1⟩ := RdS.get (hr'.ext hE) hlt
      obtain rfl : x = x' := by have := HX.out.symm.trans HX'.out; injection this
      have hi0 : (0 : Int) ≤ k := by omega
      have hi1 : (k : Int) < l.length := by omega
      have e0 : ∀ y : XW wr, y.v.cell? ⟨b, off + k * 2, none⟩ = _ := fun y => y.h.cell c0
      have e1 : ∀ y : XW wr, y.v.cell? ⟨b, off + k * 2 + 1, none⟩ = _ := fun y => y.h.cell c1
      have e2 : ∀ y : XW wr, y.v.cell? ⟨b', off' + k * 2, none⟩ = _ := fun y => y.h.cell d0
      have e3 : ∀ y : XW wr, y.v.cell? ⟨b', off' + k * 2 + 1, none⟩ = _ := fun y => y.h.cell d1
      go_wp2_with fail
      refine wp_region_xw (w0 := wr) (by kernel_rfl) (by kernel_rfl) (by repeat (first | exact Ext.refl _ | assumption | refine Ext.trans ?_ (Ext.alloc _ _) | refine Ext.trans ?_ (Ext.drew _) | refine Ext.trans ?_ (Ext.drewN _ _) | refine Ext.trans ?_ (by assumption))) ?_; (repeat (go_big_quiet_step ((go_at_call 63; exact XW.call (eqSort_same x _))))); refine wpQuiet_nil ?_; intro w1 hw'; obtain ⟨⟨_, hEw1⟩, hw''⟩ := hw'; subst hw''
      clear e0 e1 e2 e3
      go_wp2
      go_roundw
      case rel => exact ⟨k + 1, by omega, by go_num, (by repeat (first | exact Ext.refl _ | assumption | refine Ext.trans ?_ (Ext.alloc _ _) | refine Ext.trans ?_ (Ext.drew _) | refine Ext.trans ?_ (Ext.drewN _ _) | refine Ext.trans ?_ (by assumption)))⟩
      case measure => simp [intOf]; omega
    · go_wp2
      go_ret
      exact ⟨rfl, hE⟩
end Go.Proofs.Ytnkkpphjahpadaa
