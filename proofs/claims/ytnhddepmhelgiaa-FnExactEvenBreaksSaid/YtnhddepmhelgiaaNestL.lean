/- The walks of the laws' helpers over slices of slices of int. -/
import Derived.Test.YtnhddepmhelgiaaInts
import Derived.Test.YtnhddepmhelgiaaNest
namespace Go.Proofs.Ytnhddepmhelgiaa
open Go.RowKit
set_option linter.unusedVariables false
/-- An argument that is a slice of slices of int: it can be read. -/
def RdAA (w : World) (n : Nat) (A : Option Addr) (ls : List (List Int)) : Prop :=
  ∃ rs : List Row, rs.length = ls.length ∧ RdA w 0 n A (List.zipWith Row.val rs ls) ∧ ∀ (i : Nat) r l, rs[i]? = some r → ls[i]? = some l → RdA w 0 n r.A (l.map (Value.int .i64))
theorem RdAA.ext {w w' : World} {n : Nat} {A : Option Addr} {ls : List (List Int)} (h : RdAA w n A ls) (hE : Ext w w') : RdAA w' n A ls := by
  obtain ⟨rs, h1, h2, h3⟩ := h
  exact ⟨rs, h1, h2.ext hE, fun i r l hr hl => (h3 i r l hr hl).ext hE⟩
theorem RdAA.out {w w' : World} {n lo hi : Nat} {A : Option Addr} {ls : List (List Int)} (h : RdAA w n A ls) (ho : Out lo hi w w') (hd : n ≤ lo ∨ hi ≤ 0) : RdAA w' n A ls := by
  obtain ⟨rs, h1, h2, h3⟩ := h
  exact ⟨rs, h1, h2.out ho hd, fun i r l hr hl => (h3 i r l hr hl).out ho hd⟩
theorem RdAA.get {w : World} {n : Nat} {A : Option Addr} {ls : List (List Int)} (h : RdAA w n A ls) {k : Nat} (hk : k < ls.length) :
    ∃ (B : Option Addr) (c : Nat) (l : List Int) (b off : Nat), Hid (ls[k]? = some l) ∧ A = some ⟨b, off, none⟩ ∧ b < w.heap.size ∧ w.cell? ⟨b, off + k, none⟩ = some (.slice B l.length c) ∧ RdA w 0 n B (l.map (Value.int .i64)) := by
  obtain ⟨rs, h1, h2, h3⟩ := h
  have hkr : k < rs.length := by omega
  obtain ⟨b, off, e, _, _, hb, hc⟩ := h2.at_ (k := k) (by simp; omega)
  have hcell := hc k (Row.val rs[k] ls[k]) (by rw [List.getElem?_zipWith, List.getElem?_eq_getElem hkr, List.getElem?_eq_getElem hk])
  exact ⟨rs[k].A, rs[k].c, ls[k], b, off, List.getElem?_eq_getElem hk, e, hb, hcell, h3 k rs[k] ls[k] (List.getElem?_eq_getElem hkr) (List.getElem?_eq_getElem hk)⟩

theorem sliceInfo : (Try.prog.info? 29).map (fun i => (i.zero, i.size, i.bytes)) = some (some (.slice none 0 0), 1, 24) := by kernel_rfl
/-- The rows made so far: k of them, in blocks from P on, one behind the other. -/
def Rows2 (w : World) (P : Nat) (cur : Array Value) (ls : List (List Int)) (k : Nat) (rs : List Row) : Prop :=
  cur.size = ls.length ∧ rs.length = k ∧ (∀ (i : Nat) r l, rs[i]? = some r → ls[i]? = some l → cur[i]? = some (r.val l) ∧ l.length ≤ r.c ∧ RdI w r.p r.q r.A l ∧ P ≤ r.p) ∧
    (∀ (i j : Nat) r s, i < j → rs[i]? = some r → rs[j]? = some s → r.q ≤ s.p ∨ s.q ≤ r.p)
theorem Rows2.qle {w : World} {P : Nat} {cur : Array Value} {ls : List (List Int)} {k : Nat} {rs : List Row} (h : Rows2 w P cur ls k rs) (hk : k ≤ ls.length) {i : Nat} {r : Row} (hr : rs[i]? = some r) : r.q ≤ w.heap.size := by
  have hi : i < rs.length := (List.getElem?_eq_some_iff.1 hr).1
  have := h.2.1
  obtain ⟨l, hl⟩ : ∃ l, ls[i]? = some l := ⟨_, List.getElem?_eq_getElem (by omega)⟩
  exact (h.2.2.1 i r l hr hl).2.2.1.1
theorem Rows2.step {w w' : World} {P : Nat} {cur : Array Value} {ls : List (List Int)} {k : Nat} {rs : List Row} {l : List Int} {g : Nat} (h : Rows2 w P cur ls k rs) (hx : ls[k]? = some l) (hPw : P ≤ w.heap.size)
    (hE : Ext w w') (hR : RdI w' w.heap.size w'.heap.size (some ⟨g, 0, none⟩) l) {G : Nat} (hG : G < P) (v : Value) (hv : v = .slice (some ⟨g, 0, none⟩) l.length l.length) :
    Rows2 (w'.setCell ⟨G, k, none⟩ v) P (cur.setIfInBounds k v) ls (k + 1) (rs ++ [⟨some ⟨g, 0, none⟩, l.length, w.heap.size, w'.heap.size⟩]) := by
  have hk : k < ls.length := (List.getElem?_eq_some_iff.1 hx).1
  have ho : Out G (G + 1) w' (w'.setCell ⟨G, k, none⟩ v) := Out.setCell (Out.refl G (G + 1) w') (p := ⟨G, k, none⟩) (.inl ⟨Nat.le_refl G, Nat.lt_succ_self G⟩) v
  obtain ⟨h1, h2, h3, h4⟩ := h
  refine ⟨by simpa using h1, by simp [h2], fun i r m hr hm => ?_, fun i j r s hij hr hs => ?_⟩
  · rcases Nat.lt_or_ge i k with hi | hi
    · rw [List.getElem?_append_left (by omega)] at hr
      obtain ⟨g1, g2, g3, g4⟩ := h3 i r m hr hm
      refine ⟨by rw [Array.getElem?_setIfInBounds, if_neg (by omega)]; exact g1, g2, (g3.ext hE).out ho (by omega), g4⟩
    · rw [List.getElem?_append_right (by omega), h2] at hr
      have hi0 : i - k = 0 := by have := (List.getElem?_eq_some_iff.1 hr).1; simpa using this
      rw [hi0] at hr
      simp at hr
      have hik : i = k := by omega
      subst hik
      have := hx.symm.trans hm; injection this with this; subst this; subst hr
      refine ⟨by rw [Array.getElem?_setIfInBounds, if_pos rfl, if_pos (by omega), hv]; rfl, Nat.le_refl _, hR.out ho (.inr (by omega)), hPw⟩
  · have hj : j < k + 1 := by have := (List.getElem?_eq_some_iff.1 hs).1; simp at this; omega
    rw [List.getElem?_append_left (by omega)] at hr
    rcases Nat.lt_or_ge j k with hj' | hj'
    · rw [List.getElem?_append_left (by omega)] at hs
      exact h4 i j r s hij hr hs
    · rw [List.getElem?_append_right (by omega), show j - rs.length = 0 by omega] at hs
      simp at hs
      subst hs
      obtain ⟨m, hm⟩ : ∃ m, ls[i]? = some m := ⟨_, List.getElem?_eq_getElem (by omega)⟩
      exact .inl (h3 i r m hr hm).2.2.1.1
theorem Rows2.ext {w w' : World} {P : Nat} {cur : Array Value} {ls : List (List Int)} {k : Nat} {rs : List Row} (h : Rows2 w P cur ls k rs) (hE : Ext w w') : Rows2 w' P cur ls k rs :=
  ⟨h.1, h.2.1, fun i r l hr hl => by obtain ⟨g1, g2, g3, g4⟩ := h.2.2.1 i r l hr hl; exact ⟨g1, g2, g3.ext hE, g4⟩, h.2.2.2⟩
theorem Rows2.rd {w : World} {G lo : Nat} {t : TypeId} {cur : Array Value} {ls : List (List Int)} {rs : List Row} (h : Rows2 w (G + 1) cur ls ls.length rs) (hB : Blk w G t cur) (hlo : lo ≤ G) : RdII w lo w.heap.size (some ⟨G, 0, none⟩) ls := by
  have hlt := hB.lt
  refine ⟨rs, G, G + 1, h.2.1, hlo, by omega, Nat.le_refl _, ?_, fun i r l hr hl => ?_, h.2.2.2⟩
  · have := hB.rd (lo := G) (Nat.le_refl _) (xs := List.zipWith Row.val rs ls) (fun j u hu => by
      rw [List.getElem?_zipWith] at hu
      cases hr : rs[j]? with
      | none => rw [hr] at hu; simp at hu
      | some r =>
        cases hl : ls[j]? with
        | none => rw [hr, hl] at hu; simp at hu
        | some l =>
          rw [hr, hl] at hu
          simp at hu
          rw [← hu]
          exact (h.2.2.1 j r l hr hl).1)
    refine ⟨by omega, fun hn => ?_⟩
    obtain ⟨b, off, e, h1, h2, hc⟩ := this.2 hn
    injection e with e; injection e with e1 e2; subst e1; subst e2
    exact ⟨G, 0, rfl, Nat.le_refl _, by omega, hc⟩
  · obtain ⟨_, g2, g3, g4⟩ := h.2.2.1 i r l hr hl
    exact ⟨g2, g3, by omega, g3.1, .inr g4⟩

theorem toIntSS_any (A : Option Addr) (c : Nat) (ls : List (List Int)) (n : Nat) (w : World) (hl : ls.length ≤ 1048577) (hb : ∀ l ∈ ls, l.length ≤ 1048577) (hr : RdAA w n A ls) :
    Calls Try.prog 17 #[.slice A ls.length c] w fun e w' => ∃ g, e = .returned (.slice (some ⟨g, 0, none⟩) ls.length ls.length) ∧ RdII w' w.heap.size w'.heap.size (some ⟨g, 0, none⟩) ls ∧ Ext w w' := by
  obtain ⟨i0, hi0, hz0, hz1, hz2⟩ := info_parts sliceInfo
  have hmk := fun W => run_make_rowN (P := Try.prog) 22 29 i0 _ Try.underlying22 hi0 hz0 ls.length ls.length (Nat.le_refl _) (by rw [hz2]; omega) (by omega) W
  rw [hz1] at hmk
  generalize hcs : madeCells (Value.slice none 0 0).cells (ls.length * 1) = cs0 at hmk
  have hsz : cs0.size = ls.length := by rw [← hcs, size_madeCells]; omega
  have HSZ := Lib.hid hsz
  have HB := Lib.hid hb
  clear hcs hsz hi0 hz0 hz1 hz2 hb
  go_enter Try.func17, Try.ntmps17
  go_wp2
  clear hmk
  obtain ⟨G, hG⟩ : ∃ G, G = w.heap.size := ⟨_, rfl⟩
  rw [← hG]
  have hB0 : Blk (w.alloc (.cells cs0 29)) G 29 cs0 := by rw [hG]; exact Blk.new _ _ _
  have hwG : w.heap.size ≤ G := by omega
  have HG := Lib.hid hG; clear hG
  go_loopw [4] (fun i wr => ∃ (k : Nat) (cur : Array Value) (rs : List Row), k ≤ ls.length ∧ i = .int .i64 k ∧ Blk wr G 29 cur ∧ Rows2 wr (G + 1) cur ls k rs ∧ Ext w wr) (fun i _ => ls.length - (intOf i).toNat)
  case atStart => exact ⟨0, cs0, [], Nat.zero_le _, rfl, hB0, ⟨HSZ.out, rfl, fun i r l hr => by simp at hr, fun i j r s _ hr => by simp at hr⟩, (by repeat (first | exact Ext.refl _ | assumption | refine Ext.trans ?_ (Ext.alloc _ _) | refine Ext.trans ?_ (Ext.drew _) | refine Ext.trans ?_ (Ext.drewN _ _) | refine Ext.trans ?_ (by assumption)))⟩
  case round =>
    obtain ⟨k, cur, rs, hk, rfl, hB, hF, hE⟩ := hrel
    by_cases hlt : k < ls.length
    · obtain ⟨B, c', l, b, off, HX, rfl, h3, c0, hR⟩ := RdAA.get (hr.ext hE) hlt
      have hll := HB.out l (List.mem_of_getElem? HX.out)
      obtain ⟨v0, hv0⟩ : ∃ v, cur[k]? = some v := ⟨_, Array.getElem?_eq_getElem (by have := hF.1; omega)⟩
      have q0 := hB.cell hv0
      have r0 := hB.frozen k
      have hgl := hB.lt
      clear hv0
      go_wp2_with fail
      refine (toIntS_any B c' l 0 n _ hll hR).mono ?_
      rintro e w1 ⟨g, rfl, hR1, hE1⟩
      have q1 := hE1.cell q0
      have r1 := (hB.ext hE1).frozen k
      clear q0 r0 c0
      go_wp2_with fail
      go_roundw
      case rel => exact ⟨k + 1, _, _, by omega, by go_num, (hB.ext hE1).set_ k _, hF.step HX.out (by omega) hE1 hR1 (Nat.lt_succ_self G) _ rfl, Ext.setCell (hE.trans hE1) hwG _⟩
      case measure => simp [intOf]; omega
    · have hkl : k = ls.length := by omega
      subst hkl
      clear hlt
      go_wp2
      go_ret
      exact ⟨G, rfl, hF.rd hB hwG, hE⟩

theorem eqIntSS_same (A B : Option Addr) (c d : Nat) (ls : List (List Int)) (lo hi lo' hi' : Nat) (w : World) (hl : ls.length ≤ 4611686018427387904) (hb : ∀ l ∈ ls, l.length ≤ 4611686018427387904) (hr : RdII w lo hi A ls) (hr' : RdII w lo' hi' B ls) :
    Calls Try.prog 19 #[.slice A ls.length c, .slice B ls.length d] w fun e w' => e = .returned (.bool true) ∧ Ext w w' := by
  have HB := Lib.hid hb; clear hb
  go_enter Try.func19, Try.ntmps19
  go_wp2
  go_loopw [5] (fun i wr => ∃ k : Nat, k ≤ ls.length ∧ i = .int .i64 k ∧ Ext w wr) (fun i _ => ls.length - (intOf i).toNat)
  case atStart => exact ⟨0, Nat.zero_le _, rfl, Ext.refl _⟩
  case round =>
    obtain ⟨k, hk, rfl, hE⟩ := hrel
    by_cases hlt : k < ls.length
    · obtain ⟨⟨ra, rc, rp, rq⟩, l, b, off, HX, rfl, h3, c0, _, hR, _, _⟩ := RdII.get (hr.ext hE) hlt
      obtain ⟨⟨sa, sc, sp, sq⟩, l', b', off', HX', rfl, h3', d0, _, hR', _, _⟩ := RdII.get (hr'.ext hE) hlt
      obtain rfl : l = l' := by have := HX.out.symm.trans HX'.out; injection this
      simp only at c0 d0 hR hR'
      have hll := HB.out l (List.mem_of_getElem? HX.out)
      have hi0 : (0 : Int) ≤ k := by omega
      have hi1 : (k : Int) < ls.length := by omega
      have e0 : ∀ w', Ext wr w' → w'.cell? ⟨b, off + k, none⟩ = _ := fun _ h => h.cell c0
      have e4 : ∀ w', Ext wr w' → w'.cell? ⟨b', off' + k, none⟩ = _ := fun _ h => h.cell d0
      go_wp2_with fail
      go_region_held3 (fun w' => Ext wr w') (exact (by repeat (first | exact Ext.refl _ | assumption | refine Ext.trans ?_ (Ext.alloc _ _) | refine Ext.trans ?_ (Ext.drew _) | refine Ext.trans ?_ (Ext.drewN _ _) | refine Ext.trans ?_ (by assumption)))) (first | (go_at_call 24; refine (eqIntS_same _ _ _ _ l _ _ _ _ _ hll (hR.ext (by repeat (first | exact Ext.refl _ | assumption | refine Ext.trans ?_ (Ext.alloc _ _) | refine Ext.trans ?_ (Ext.drew _) | refine Ext.trans ?_ (Ext.drewN _ _) | refine Ext.trans ?_ (by assumption)))) (hR'.ext (by repeat (first | exact Ext.refl _ | assumption | refine Ext.trans ?_ (Ext.alloc _ _) | refine Ext.trans ?_ (Ext.drew _) | refine Ext.trans ?_ (Ext.drewN _ _) | refine Ext.trans ?_ (by assumption))))).mono ?_; rintro e w1 ⟨rfl, hE1⟩))
      go_wp2
      go_roundw
      case rel => exact ⟨k + 1, by omega, by go_num, (by repeat (first | exact Ext.refl _ | assumption | refine Ext.trans ?_ (Ext.alloc _ _) | refine Ext.trans ?_ (Ext.drew _) | refine Ext.trans ?_ (Ext.drewN _ _) | refine Ext.trans ?_ (by assumption)))⟩
      case measure => simp [intOf]; omega
    · go_wp2
      go_ret
      exact ⟨rfl, hE⟩
end Go.Proofs.Ytnhddepmhelgiaa
