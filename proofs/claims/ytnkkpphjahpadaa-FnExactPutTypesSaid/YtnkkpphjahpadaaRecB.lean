/- The walks of the laws' own helpers over slices of Box. (Printed by mkRec.py.) -/
import Derived.Test.YtnkkpphjahpadaaFlat
import Derived.Test.YtnkkpphjahpadaaStr
import Derived.Test.YtnkkpphjahpadaaXw
namespace Go.Proofs.Ytnkkpphjahpadaa
open Go.RowKit
set_option linter.unusedVariables false
structure Bx where
  code : ByteArray
  row : Int
  column : Int
  count : Int
def Bx.enc (m : Bx) : List Value := [.string m.code, .int .i64 m.row, .int .i64 m.column, .int .i64 m.count]
theorem Bx.enc_len (m : Bx) : m.enc.length = 4 := rfl
def RdB (w : World) (lo hi : Nat) (A : Option Addr) (l : List Bx) : Prop := Rd w lo hi A (l.flatMap Bx.enc)
theorem lenB (l : List Bx) : (l.flatMap Bx.enc).length = l.length * 4 := flat_len _ 4 Bx.enc_len l
section
variable {w w' : World} {lo hi : Nat} {A : Option Addr} {l : List Bx}
theorem RdB.ext (h : RdB w lo hi A l) (hb : Ext w w') : RdB w' lo hi A l := Rd.ext h hb
theorem RdB.out {lo' hi' : Nat} (h : RdB w lo hi A l) (ho : Out lo' hi' w w') (hd : hi ≤ lo' ∨ hi' ≤ lo) : RdB w' lo hi A l := Rd.out h ho hd
theorem getB (h : RdA w lo hi A (l.flatMap Bx.enc)) {k : Nat} (hk : k < l.length) :
    ∃ x b off, Hid (l[k]? = some x) ∧ A = some ⟨b, off, none⟩ ∧ b < w.heap.size ∧
      w.cell? ⟨b, off + k * 4, none⟩ = some (.string x.code) ∧ w.cell? ⟨b, off + k * 4 + 1, none⟩ = some (.int .i64 x.row) ∧ w.cell? ⟨b, off + k * 4 + 2, none⟩ = some (.int .i64 x.column) ∧ w.cell? ⟨b, off + k * 4 + 3, none⟩ = some (.int .i64 x.count) := by
  obtain ⟨b, off, e, h1, h2, h3, hc⟩ := h.at_ (k := k * 4) (by rw [lenB]; omega)
  have g := fun j hj => flat_get _ 4 Bx.enc_len l k hk j hj
  exact ⟨l[k], b, off, List.getElem?_eq_getElem hk, e, h3, hc _ _ (g 0 (by omega)), hc _ _ (g 1 (by omega)), hc _ _ (g 2 (by omega)), hc _ _ (g 3 (by omega))⟩
theorem RdB.get (h : RdB w lo hi A l) {k : Nat} (hk : k < l.length) :
    ∃ x b off, Hid (l[k]? = some x) ∧ A = some ⟨b, off, none⟩ ∧ b < w.heap.size ∧
      w.cell? ⟨b, off + k * 4, none⟩ = some (.string x.code) ∧ w.cell? ⟨b, off + k * 4 + 1, none⟩ = some (.int .i64 x.row) ∧ w.cell? ⟨b, off + k * 4 + 2, none⟩ = some (.int .i64 x.column) ∧ w.cell? ⟨b, off + k * 4 + 3, none⟩ = some (.int .i64 x.count) := getB (Rd.toA h) hk
end
def totB (l : List Bx) (k : Nat) : Nat := ((l.take k).map fun m => m.code.size).sum
theorem totB_succ {l : List Bx} {k : Nat} {m : Bx} (h : l[k]? = some m) : totB l (k + 1) = totB l k + m.code.size := by
  rw [totB, take_snoc h]; simp [totB]
theorem totB_mono (l : List Bx) {k : Nat} : ∀ n, k ≤ n → n ≤ l.length → totB l k ≤ totB l n := by
  intro n hk
  induction n with
  | zero => intro _; rw [show k = 0 by omega]; exact Nat.le_refl _
  | succ n ih =>
    intro hn
    by_cases e : k = n + 1
    · subst e; exact Nat.le_refl _
    · obtain ⟨s, hs⟩ : ∃ s, l[n]? = some s := ⟨_, List.getElem?_eq_getElem (by omega)⟩
      rw [totB_succ hs]
      have := ih (by omega) (by omega)
      omega
def bulkB (l : List Bx) : Nat := l.length + totB l l.length
theorem recB_le {l : List Bx} {m : Bx} (h : m ∈ l) : m.code.size ≤ totB l l.length := by
  obtain ⟨i, hi, rfl⟩ := List.mem_iff_getElem.1 h
  have h1 := totB_succ (List.getElem?_eq_getElem hi)
  have h2 := totB_mono l (k := i + 1) l.length (by omega) (Nat.le_refl _)
  omega
def szB (l : List Bx) (left : Int) : Int := if (bulkB l : Int) ≤ left then left - bulkB l else -1
theorem szB_yes {l : List Bx} {left : Int} (h : (bulkB l : Int) ≤ left) : szB l left = left - bulkB l := if_pos h
theorem szB_no {l : List Bx} {left : Int} (h : ¬ (bulkB l : Int) ≤ left) : szB l left = -1 := if_neg h
theorem szBox_yes (m : Bx) (left : Int) (w : World) (h0 : 0 ≤ left) (h1 : left ≤ 1048576) (h : (m.code.size : Int) ≤ left) :
    Calls Try.prog 97 #[.agg #[.string m.code, .int .i64 m.row, .int .i64 m.column, .int .i64 m.count], .int .i64 left] w fun e w' => e = .returned (.int .i64 (left - m.code.size)) ∧ Ext w w' := by
  go_enter Try.func97, Try.ntmps97
  go_wp2
  go_ret
  exact ⟨rfl, (by repeat (first | exact Ext.refl _ | assumption | refine Ext.trans ?_ (Ext.alloc _ _) | refine Ext.trans ?_ (Ext.drew _) | refine Ext.trans ?_ (Ext.drewN _ _) | refine Ext.trans ?_ (by assumption)))⟩
theorem szBox_no (m : Bx) (left : Int) (w : World) (h0 : 0 ≤ left) (h1 : left ≤ 1048576) (h2 : m.code.size ≤ maxLen) (h : left < (m.code.size : Int)) :
    Calls Try.prog 97 #[.agg #[.string m.code, .int .i64 m.row, .int .i64 m.column, .int .i64 m.count], .int .i64 left] w fun e w' => e = .returned (.int .i64 (-1)) ∧ Ext w w' := by
  unfold maxLen at h2
  go_enter Try.func97, Try.ntmps97
  go_wp2
  go_ret
  exact ⟨rfl, (by repeat (first | exact Ext.refl _ | assumption | refine Ext.trans ?_ (Ext.alloc _ _) | refine Ext.trans ?_ (Ext.drew _) | refine Ext.trans ?_ (Ext.drewN _ _) | refine Ext.trans ?_ (by assumption)))⟩
theorem szBoxS_any (A : Option Addr) (c : Nat) (l : List Bx) (lo hi : Nat) (left : Int) (w : World) (hl : l.length ≤ 9223372036854775807) (hb : ∀ m ∈ l, m.code.size ≤ maxLen) (h0 : 0 ≤ left) (h1 : left ≤ 1048576) (hr : RdA w lo hi A (l.flatMap Bx.enc)) :
    Calls Try.prog 50 #[.slice A l.length c, .int .i64 left] w fun e w' => e = .returned (.int .i64 (szB l left)) ∧ Ext w w' := by
  have HB := Lib.hid hb; clear hb
  by_cases hlen : (l.length : Int) ≤ left
  case neg =>
    go_enter Try.func50, Try.ntmps50
    go_wp2
    go_ret
    exact ⟨ret_int (szB_no (by unfold bulkB; omega)).symm, (by repeat (first | exact Ext.refl _ | assumption | refine Ext.trans ?_ (Ext.alloc _ _) | refine Ext.trans ?_ (Ext.drew _) | refine Ext.trans ?_ (Ext.drewN _ _) | refine Ext.trans ?_ (by assumption)))⟩
  go_enter Try.func50, Try.ntmps50
  go_wp2
  go_loopw [1, 5] (fun s i wr => ∃ (k t : Nat), k ≤ l.length ∧ i = .int .i64 k ∧ s = .int .i64 (left - l.length - t) ∧ t = totB l k ∧ (l.length : Int) + t ≤ left ∧ Ext w wr) (fun _ i _ => l.length - (intOf i).toNat)
  case atStart => exact ⟨0, 0, Nat.zero_le _, rfl, by simp, by simp [totB], by omega, Ext.refl _⟩
  case round =>
    obtain ⟨k, t, hk, rfl, rfl, ht, htl, hE⟩ := hrel
    have HT := Lib.hid ht; clear ht
    by_cases hlt : k < l.length
    · obtain ⟨m, b, off, HX, rfl, h3, c0, c1, c2, c3⟩ := getB (hr.ext hE) hlt
      have hll := HB.out m (List.mem_of_getElem? HX.out)
      have hs := totB_succ HX.out
      have hm := totB_mono l (k := k + 1) l.length (by omega) (Nat.le_refl _)
      have HS := Lib.hid hs; have HM := Lib.hid hm
      clear hs hm
      by_cases hsm : (m.code.size : Int) ≤ left - l.length - t
      · go_wp2_with (go_at_call 97; refine (szBox_yes m _ _ (by omega) (by omega) hsm).mono ?_; rintro e w2 ⟨rfl, hE2⟩; obtain ⟨hc2, hf2⟩ := bcell hE2; have hs2 := hE2.size; (try simp only [World.size_alloc] at hs2))
        go_roundw
        case rel => exact ⟨k + 1, t + m.code.size, by omega, by go_num, val_int (by omega), by rw [HS.out, HT.out], by omega, (by repeat (first | exact Ext.refl _ | assumption | refine Ext.trans ?_ (Ext.alloc _ _) | refine Ext.trans ?_ (Ext.drew _) | refine Ext.trans ?_ (Ext.drewN _ _) | refine Ext.trans ?_ (by assumption)))⟩
        case measure => simp [intOf]; omega
      · go_wp2_with (go_at_call 97; refine (szBox_no m _ _ (by omega) (by omega) hll (by omega)).mono ?_; rintro e w2 ⟨rfl, hE2⟩; obtain ⟨hc2, hf2⟩ := bcell hE2; have hs2 := hE2.size; (try simp only [World.size_alloc] at hs2))
        go_ret
        have q1 := HS.out; have q2 := HM.out; have q3 := HT.out
        exact ⟨ret_int (szB_no (by unfold bulkB; omega)).symm, (by repeat (first | exact Ext.refl _ | assumption | refine Ext.trans ?_ (Ext.alloc _ _) | refine Ext.trans ?_ (Ext.drew _) | refine Ext.trans ?_ (Ext.drewN _ _) | refine Ext.trans ?_ (by assumption)))⟩
    · have hkl : k = l.length := by omega
      subst hkl
      clear hlt
      go_wp2
      go_ret
      have q3 := HT.out
      exact ⟨ret_int (by rw [szB_yes (by unfold bulkB; omega)]; unfold bulkB; omega), hE⟩
theorem toBox_any (x : Bx) (w : World) : Calls Try.prog 100 #[.agg #[.string x.code, .int .i64 x.row, .int .i64 x.column, .int .i64 x.count]] w fun e w' => e = .returned (.agg #[.string x.code, .int .i64 x.row, .int .i64 x.column, .int .i64 x.count]) ∧ Ext w w' := by
  go_enter Try.func100, Try.ntmps100
  go_wp2
  exact bodyPost_ret (v := .agg #[.string x.code, .int .i64 x.row, .int .i64 x.column, .int .i64 x.count]) (by simp [results, Try.results100, go_sem]) rfl ⟨rfl, (by repeat (first | exact Ext.refl _ | assumption | refine Ext.trans ?_ (Ext.alloc _ _) | refine Ext.trans ?_ (Ext.drew _) | refine Ext.trans ?_ (Ext.drewN _ _) | refine Ext.trans ?_ (by assumption)))⟩
theorem eqBox_same (x : Bx) (w : World) : Calls Try.prog 102 #[.agg #[.string x.code, .int .i64 x.row, .int .i64 x.column, .int .i64 x.count], .agg #[.string x.code, .int .i64 x.row, .int .i64 x.column, .int .i64 x.count]] w fun e w' => e = .returned (.bool true) ∧ Ext w w' := by
  go_enter Try.func102, Try.ntmps102
  go_wp2
  go_ret
  exact ⟨rfl, (by repeat (first | exact Ext.refl _ | assumption | refine Ext.trans ?_ (Ext.alloc _ _) | refine Ext.trans ?_ (Ext.drew _) | refine Ext.trans ?_ (Ext.drewN _ _) | refine Ext.trans ?_ (by assumption)))⟩
theorem infoB : (Try.prog.info? 104).map (fun i => (i.zero, i.size, i.bytes)) = some (some (.agg #[.string ByteArray.empty, .int .i64 0, .int .i64 0, .int .i64 0]), 4, 40) := by kernel_rfl
/-- The first k elements of the block are those of l. -/
def FilledB (cur : Array Value) (l : List Bx) (k : Nat) : Prop := cur.size = l.length * 4 ∧ ∀ (j : Nat) u, ((l.take k).flatMap Bx.enc)[j]? = some u → cur[j]? = some u
theorem FilledB.full {cur : Array Value} {l : List Bx} (h : FilledB cur l l.length) : ∀ (j : Nat) u, (l.flatMap Bx.enc)[j]? = some u → cur[j]? = some u := by
  have := h.2
  rwa [List.take_of_length_le (Nat.le_refl _)] at this
theorem FilledB.zero {cur : Array Value} {l : List Bx} (h : cur.size = l.length * 4) : FilledB cur l 0 := ⟨h, fun j u hu => by simp at hu⟩
theorem FilledB.step {cur : Array Value} {l : List Bx} {k : Nat} {x : Bx} (h : FilledB cur l k) (hx : l[k]? = some x) :
    FilledB (((((cur.setIfInBounds (k * 4) (.string x.code)).setIfInBounds (k * 4 + 1) (.int .i64 x.row)).setIfInBounds (k * 4 + 2) (.int .i64 x.column)).setIfInBounds (k * 4 + 3) (.int .i64 x.count))) l (k + 1) := by
  have hk : k < l.length := (List.getElem?_eq_some_iff.1 hx).1
  obtain ⟨hs, hc⟩ := h
  refine ⟨by simpa using hs, fun j u hu => ?_⟩
  rw [take_snoc hx, List.flatMap_append] at hu
  have hl : ((l.take k).flatMap Bx.enc).length = k * 4 := by rw [lenB, List.length_take]; omega
  simp only [Array.getElem?_setIfInBounds]
  by_cases hj : j < k * 4
  · rw [List.getElem?_append_left (by omega)] at hu
    rw [if_neg (by omega), if_neg (by omega), if_neg (by omega), if_neg (by omega)]
    exact hc j u hu
  · rw [List.getElem?_append_right (by omega), hl] at hu
    have hj2 : j - k * 4 < 4 := by
      have := (List.getElem?_eq_some_iff.1 hu).1
      simpa [Bx.enc] using this
    have : j = k * 4 ∨ j = k * 4 + 1 ∨ j = k * 4 + 2 ∨ j = k * 4 + 3 := by omega
    rcases this with rfl | rfl | rfl | rfl
    · rw [Nat.sub_self] at hu
      simp [Bx.enc] at hu
      simp [hu]; omega
    · rw [show k * 4 + 1 - k * 4 = 1 by omega] at hu
      simp [Bx.enc] at hu
      simp [hu]; omega
    · rw [show k * 4 + 2 - k * 4 = 2 by omega] at hu
      simp [Bx.enc] at hu
      simp [hu]; omega
    · rw [show k * 4 + 3 - k * 4 = 3 by omega] at hu
      simp [Bx.enc] at hu
      simp [hu]; omega
theorem toBoxS_any (A : Option Addr) (c : Nat) (l : List Bx) (lo hi : Nat) (w : World) (hl : l.length ≤ 1048577) (hr : RdA w lo hi A (l.flatMap Bx.enc)) :
    Calls Try.prog 52 #[.slice A l.length c] w fun e w' => ∃ g, e = .returned (.slice (some ⟨g, 0, none⟩) l.length l.length) ∧ RdB w' w.heap.size w'.heap.size (some ⟨g, 0, none⟩) l ∧ Ext w w' := by
  obtain ⟨i0, hi0, hz0, hz1, hz2⟩ := info_parts infoB
  have hmk := fun W => run_make_rowN (P := Try.prog) 66 104 i0 _ Try.underlying66 hi0 hz0 l.length l.length (Nat.le_refl _) (by rw [hz2]; omega) (by omega) W
  rw [hz1] at hmk
  generalize hcs : madeCells (Value.agg #[.string ByteArray.empty, .int .i64 0, .int .i64 0, .int .i64 0]).cells (l.length * 4) = cs0 at hmk
  have hsz : cs0.size = l.length * 4 := by rw [← hcs, size_madeCells]
  have HSZ := Lib.hid hsz
  clear hcs hsz hi0 hz0 hz1 hz2
  go_enter Try.func52, Try.ntmps52
  go_wp2
  clear hmk
  go_loopw [4] (fun i wr => ∃ (k : Nat) (cur : Array Value), k ≤ l.length ∧ i = .int .i64 k ∧ Blk wr w.heap.size 104 cur ∧ FilledB cur l k ∧ Ext w wr) (fun i _ => l.length - (intOf i).toNat)
  case atStart => exact ⟨0, cs0, Nat.zero_le _, rfl, Blk.new _ _ _, FilledB.zero HSZ.out, (by repeat (first | exact Ext.refl _ | assumption | refine Ext.trans ?_ (Ext.alloc _ _) | refine Ext.trans ?_ (Ext.drew _) | refine Ext.trans ?_ (Ext.drewN _ _) | refine Ext.trans ?_ (by assumption)))⟩
  case round =>
    obtain ⟨k, cur, hk, rfl, hB, hF, hE⟩ := hrel
    by_cases hlt : k < l.length
    · obtain ⟨x, b, off, HX, rfl, h3, c0, c1, c2, c3⟩ := getB (hr.ext hE) hlt
      have hcs := hF.1
      have HCS := Lib.hid hcs
      obtain ⟨v0, hv0⟩ : ∃ v, cur[k * 4]? = some v := ⟨_, Array.getElem?_eq_getElem (by omega)⟩
      obtain ⟨v1, hv1⟩ : ∃ v, cur[k * 4 + 1]? = some v := ⟨_, Array.getElem?_eq_getElem (by omega)⟩
      obtain ⟨v2, hv2⟩ : ∃ v, cur[k * 4 + 2]? = some v := ⟨_, Array.getElem?_eq_getElem (by omega)⟩
      obtain ⟨v3, hv3⟩ : ∃ v, cur[k * 4 + 3]? = some v := ⟨_, Array.getElem?_eq_getElem (by omega)⟩
      have q0 := hB.cell hv0
      have r0 := hB.frozen (k * 4)
      have q1 := hB.cell hv1
      have r1 := hB.frozen (k * 4 + 1)
      have q2 := hB.cell hv2
      have r2 := hB.frozen (k * 4 + 2)
      have q3 := hB.cell hv3
      have r3 := hB.frozen (k * 4 + 3)
      have hgl := hB.lt
      clear hcs hv0 hv1 hv2 hv3
      go_wp2_with (go_at_call 100; refine (toBox_any x _).mono ?_; rintro e w1 ⟨rfl, hE1⟩; obtain ⟨hc1, hf1⟩ := bcell hE1; have hs1 := hE1.size; (try simp only [World.size_alloc] at hs1))
      go_roundw
      case rel => exact ⟨k + 1, _, by omega, by go_num, (((((hB.ext hE1).set_ _ _).set_ _ _).set_ _ _).set_ _ _), hF.step HX.out, (Ext.setCell (Ext.setCell (Ext.setCell (Ext.setCell (hE.trans hE1) (Nat.le_refl _) _) (Nat.le_refl _) _) (Nat.le_refl _) _) (Nat.le_refl _) _)⟩
      case measure => simp [intOf]; omega
    · have hkl : k = l.length := by omega
      subst hkl
      clear hlt
      go_wp2
      go_ret
      exact ⟨_, rfl, hB.rd (Nat.le_refl _) hF.full, hE⟩
theorem eqBoxS_same (A B : Option Addr) (c d : Nat) (l : List Bx) (lo hi lo' hi' : Nat) (w : World) (hl : l.length ≤ 4611686018427387904) (hr : RdB w lo hi A l) (hr' : RdB w lo' hi' B l) :
    Calls Try.prog 54 #[.slice A l.length c, .slice B l.length d] w fun e w' => e = .returned (.bool true) ∧ Ext w w' := by
  go_enter Try.func54, Try.ntmps54
  go_wp2
  go_loopw [5] (fun i wr => ∃ k : Nat, k ≤ l.length ∧ i = .int .i64 k ∧ Ext w wr) (fun i _ => l.length - (intOf i).toNat)
  case atStart => exact ⟨0, Nat.zero_le _, rfl, Ext.refl _⟩
  case round =>
    obtain ⟨k, hk, rfl, hE⟩ := hrel
    by_cases hlt : k < l.length
    · obtain ⟨x, b, off, HX, rfl, h3, c0, c1, c2, c3⟩ := RdB.get (hr.ext hE) hlt
      obtain ⟨x', b', off', HX', rfl, h3', d0, d1, d2, d3⟩ := RdB.get (hr'.ext hE) hlt
      obtain rfl : x = x' := by have := HX.out.symm.trans HX'.out; injection this
      have hi0 : (0 : Int) ≤ k := by omega
      have hi1 : (k : Int) < l.length := by omega
      have e0 : ∀ y : XW wr, y.v.cell? ⟨b, off + k * 4, none⟩ = _ := fun y => y.h.cell c0
      have e1 : ∀ y : XW wr, y.v.cell? ⟨b, off + k * 4 + 1, none⟩ = _ := fun y => y.h.cell c1
      have e2 : ∀ y : XW wr, y.v.cell? ⟨b, off + k * 4 + 2, none⟩ = _ := fun y => y.h.cell c2
      have e3 : ∀ y : XW wr, y.v.cell? ⟨b, off + k * 4 + 3, none⟩ = _ := fun y => y.h.cell c3
      have e4 : ∀ y : XW wr, y.v.cell? ⟨b', off' + k * 4, none⟩ = _ := fun y => y.h.cell d0
      have e5 : ∀ y : XW wr, y.v.cell? ⟨b', off' + k * 4 + 1, none⟩ = _ := fun y => y.h.cell d1
      have e6 : ∀ y : XW wr, y.v.cell? ⟨b', off' + k * 4 + 2, none⟩ = _ := fun y => y.h.cell d2
      have e7 : ∀ y : XW wr, y.v.cell? ⟨b', off' + k * 4 + 3, none⟩ = _ := fun y => y.h.cell d3
      go_wp2_with fail
      refine wp_region_xw (w0 := wr) (by kernel_rfl) (by kernel_rfl) (by repeat (first | exact Ext.refl _ | assumption | refine Ext.trans ?_ (Ext.alloc _ _) | refine Ext.trans ?_ (Ext.drew _) | refine Ext.trans ?_ (Ext.drewN _ _) | refine Ext.trans ?_ (by assumption))) ?_; (repeat (go_big_quiet_step ((go_at_call 102; exact XW.call (eqBox_same x _))))); refine wpQuiet_nil ?_; intro w1 hw'; obtain ⟨⟨_, hEw1⟩, hw''⟩ := hw'; subst hw''
      clear e0 e1 e2 e3 e4 e5 e6 e7
      go_wp2
      go_roundw
      case rel => exact ⟨k + 1, by omega, by go_num, (by repeat (first | exact Ext.refl _ | assumption | refine Ext.trans ?_ (Ext.alloc _ _) | refine Ext.trans ?_ (Ext.drew _) | refine Ext.trans ?_ (Ext.drewN _ _) | refine Ext.trans ?_ (by assumption)))⟩
      case measure => simp [intOf]; omega
    · go_wp2
      go_ret
      exact ⟨rfl, hE⟩
end Go.Proofs.Ytnkkpphjahpadaa
