/- The walks of l1Own, joined, plJoin, plTotal. -/
import Derived.Test.YtnhddepmhelgiaaPaQ
import Derived.Test.YtnhddepmhelgiaaNestG
import Derived.Test.YtnhddepmhelgiaaApart
import Derived.Deep.RegionWith
namespace Go.Proofs.Ytnhddepmhelgiaa
open Go.RowKit
set_option linter.unusedVariables false
theorem RdA.wide {w : World} {lo hi lo' hi' : Nat} {A : Option Addr} {xs : List Value} (h : RdA w lo hi A xs) (h1 : lo' ≤ lo) (h2 : hi ≤ hi') (h3 : hi' ≤ w.heap.size) : RdA w lo' hi' A xs :=
  ⟨h3, fun hn => by obtain ⟨b, off, e, k1, k2, hc⟩ := h.2 hn; exact ⟨b, off, e, by omega, by omega, hc⟩⟩
theorem RdA.none_ {w : World} {lo hi : Nat} {A : Option Addr} {xs : List Value} (h : RdA w lo hi A xs) : A = none → xs.length = 0 := by
  intro hA
  cases xs with
  | nil => rfl
  | cons x xs => obtain ⟨b, off, e, _⟩ := h.2 (by simp); rw [hA] at e; cases e
theorem RdA.take {w : World} {lo hi : Nat} {A : Option Addr} {xs : List Value} (h : RdA w lo hi A xs) (k : Nat) : RdA w lo hi A (xs.take k) :=
  ⟨h.1, fun hn => by
    obtain ⟨b, off, e, h1, h2, hc⟩ := h.2 (by intro h; rw [h] at hn; simp at hn)
    refine ⟨b, off, e, h1, h2, fun j u hu => hc j u ?_⟩
    rw [List.getElem?_take] at hu
    split at hu
    · exact hu
    · cases hu⟩
theorem RdA.drop {w : World} {lo hi b off : Nat} {xs : List Value} (h : RdA w lo hi (some ⟨b, off, none⟩) xs) (k : Nat) : RdA w lo hi (some ⟨b, off + k, none⟩) (xs.drop k) :=
  ⟨h.1, fun hn => by
    obtain ⟨b', off', e, h1, h2, hc⟩ := h.2 (by intro h; rw [h] at hn; simp at hn)
    injection e with e; injection e with e1 e2; subst e1; subst e2
    refine ⟨b, off + k, rfl, h1, h2, fun j u hu => ?_⟩
    rw [List.getElem?_drop] at hu
    rw [Nat.add_assoc]
    exact hc _ u hu⟩
theorem ints_one (l : List Int) : ∀ u ∈ l.map (Value.int .i64), u.oneCell' = true := by
  intro u hu
  obtain ⟨x, _, rfl⟩ := List.mem_map.1 hu
  rfl
theorem rows_one (rs : List Row) (ls : List (List Int)) : ∀ u ∈ List.zipWith Row.val rs ls, u.oneCell' = true := by
  intro u hu
  obtain ⟨i, hi⟩ := List.mem_iff_getElem?.1 hu
  rw [List.getElem?_zipWith] at hi
  cases h1 : rs[i]? with
  | none => rw [h1] at hi; simp at hi
  | some r =>
    cases h2 : ls[i]? with
    | none => rw [h1, h2] at hi; simp at hi
    | some l => rw [h1, h2] at hi; simp at hi; subst hi; rfl
theorem RdII.toAA {w : World} {lo hi : Nat} {A : Option Addr} {ls : List (List Int)} (h : RdII w lo hi A ls) : RdAA w w.heap.size A ls := h.toAA_
theorem RdAA.wide {w : World} {n : Nat} {A : Option Addr} {ls : List (List Int)} (h : RdAA w n A ls) : RdAA w w.heap.size A ls := by
  obtain ⟨rs, h1, h2, h3⟩ := h
  exact ⟨rs, h1, h2.wide (Nat.le_refl _) h2.1 (Nat.le_refl _), fun i r l hr hl => (h3 i r l hr hl).wide (Nat.le_refl _) (h3 i r l hr hl).1 (Nat.le_refl _)⟩
theorem spec_l1Own (A : Option Addr) (c n : Nat) (l : List Int) (lo hi : Nat) (w : World) (hn : l.length = n) (hl : n ≤ 1048577) (hr : RdA w lo hi A (l.map (Value.int .i64))) :
    Calls Try.prog 66 #[.slice A n c] w (RetI w l) := by
  subst hn
  have hno : A = none → l.length = 0 := fun h => by have := hr.none_ h; simpa using this
  have HNO := Lib.hid hno; clear hno
  go_enter Try.func66, Try.ntmps66
  go_wp2_with (at_builtin; refine wp_app _ w rfl (.tmp 3) (.tmp 4) 29 rfl 3 _ 1 8 Try.underlying29 intInfo0 rfl (by omega) _ 0 [] rfl (own_lit0 _ _ (Nat.le_refl _) (Ext.refl _)) (by repeat (first | exact Ext.refl _ | assumption | refine Ext.trans ?_ (Ext.alloc _ _) | refine Ext.trans ?_ (Ext.drew _) | refine Ext.trans ?_ (Ext.drewN _ _) | refine Ext.trans ?_ (by assumption))) _ _ _ l.length _ (l.map (Value.int .i64)) rfl (by simp) (hr.ext (by repeat (first | exact Ext.refl _ | assumption | refine Ext.trans ?_ (Ext.alloc _ _) | refine Ext.trans ?_ (Ext.drew _) | refine Ext.trans ?_ (Ext.drewN _ _) | refine Ext.trans ?_ (by assumption)))) (ints_one l) (by omega) HNO.out ?_; intro v2 w2 hown2 hE2 hg2 hat2)
  rw [Nat.zero_add, List.nil_append] at hown2
  obtain ⟨A', c', rfl, hc', _⟩ := own_form hown2
  go_ret
  exact ⟨A', c', rfl, hc', Rd.of_own hown2, hE2⟩
theorem impl_joined (A B : Option Addr) (c d n m : Nat) (a b : List Int) (lo hi lo' hi' : Nat) (w : World) (hn : a.length = n) (hm : b.length = m) (hl : n ≤ 1048577) (he : a.length = b.length) (ha : ∀ x ∈ a, 0 ≤ x ∧ x ≤ 1000000) (hb : ∀ x ∈ b, 0 ≤ x ∧ x ≤ 1000000) (hr : RdI w lo hi A a) (hr' : RdI w lo' hi' B b) :
    Calls Try.prog 67 #[.slice A n c, .slice B m d] w (RetI w (joinR a b)) := by
  subst hn; subst hm
  have HA := Lib.hid ha
  have HB := Lib.hid hb
  have HE := Lib.hid he
  have he1 : a.length ≤ b.length := by omega
  clear ha hb he
  go_enter Try.func67, Try.ntmps67
  go_wp2
  go_loopw [5, 11] (fun v i wr => ∃ k : Nat, k ≤ a.length ∧ i = .int .i64 k ∧ wr.ownsRow w.heap.size 3 1 v k ((joinR (a.take k) (b.take k)).map (Value.int .i64)) ∧ Ext w wr) (fun _ i _ => a.length - (intOf i).toNat)
  case atStart => exact ⟨0, Nat.zero_le _, rfl, own_lit0 _ _ (Nat.le_refl _) (Ext.refl _), (by repeat (first | exact Ext.refl _ | assumption | refine Ext.trans ?_ (Ext.alloc _ _) | refine Ext.trans ?_ (Ext.drew _) | refine Ext.trans ?_ (Ext.drewN _ _) | refine Ext.trans ?_ (by assumption)))⟩
  case round =>
    obtain ⟨k, hk, rfl, hown, hE⟩ := hrel
    by_cases hlt : k < a.length
    · obtain ⟨x, b1, off1, HX, rfl, _, _, h3, c0, _⟩ := RdI.get (hr.ext hE) hlt
      obtain ⟨y, b2, off2, HY, rfl, _, _, h4, d0, _⟩ := RdI.get (hr'.ext hE) (k := k) (by omega)
      have hx := HA.out x (List.mem_of_getElem? HX.out)
      have hy := HB.out y (List.mem_of_getElem? HY.out)
      go_wp2_with (first | (at_builtin; refine wp_app _ w rfl (.tmp 16) (.tmp 23) 29 rfl 3 _ 1 8 Try.underlying29 intInfo0 rfl (by omega) _ k _ rfl (ownsRow_ext hown (Ext.alloc _ _)) (by repeat (first | exact Ext.refl _ | assumption | refine Ext.trans ?_ (Ext.alloc _ _) | refine Ext.trans ?_ (Ext.drew _) | refine Ext.trans ?_ (Ext.drewN _ _) | refine Ext.trans ?_ (by assumption))) _ _ _ 1 1 [.int .i64 (x + y)] rfl rfl (rdA_new rfl (Ext.refl _)) (by simp [Value.oneCell']) (by omega) (by simp) ?_; intro v3 w3 hown3 hE3 hg3 hat3))
      go_roundw
      case rel => exact ⟨k + 1, by omega, by go_num, by rw [joinR_take HX.out HY.out, List.map_append]; exact hown3, hE3⟩
      case measure => simp [intOf]; omega
    · have hkl : k = a.length := by omega
      subst hkl
      clear hlt
      obtain ⟨A', c', rfl, hc', _⟩ := own_form hown
      rw [joinR_takeAll HE.out] at hown
      go_wp2
      go_ret
      exact ⟨A', c', by rw [joinR_len HE.out]; rfl, by rw [joinR_len HE.out]; exact hc', Rd.of_own hown, hE⟩
theorem spec_plHighA (A : Option Addr) (c n : Nat) (l : List Int) (lo hi : Nat) (w : World) (hn : l.length = n) (hl : n ≤ 1048577) (hr : RdA w lo hi A (l.map (Value.int .i64))) :
    Calls Try.prog 74 #[.slice A n c] w fun e w' => e = .returned (.int .i64 (grt l)) ∧ w = w' := by
  subst hn
  go_enter Try.func74, Try.ntmps74
  go_wp2
  go_loop [3, 8] (fun s i => ∃ k : Nat, k ≤ l.length ∧ i = .int .i64 k ∧ s = .int .i64 (grt (l.take k))) (fun _ i => l.length - (intOf i).toNat)
  case atStart => exact ⟨0, Nat.zero_le _, rfl, by simp [grt]⟩
  case round =>
    obtain ⟨k, hk, rfl, rfl⟩ := hrel
    by_cases hlt : k < l.length
    · obtain ⟨x, b, off, HX, rfl, h3, c0⟩ := getI hr hlt
      go_wp2_with (go_at_call 68; refine (l1Most_any _ _ _).mono ?_; rintro e w' ⟨rfl, rfl⟩)
      go_round
      case rel => exact ⟨k + 1, by omega, by go_num, by rw [grt_snoc HX.out]⟩
      case measure => simp [intOf]; omega
    · go_wp2
      go_ret
      exact ⟨by rw [List.take_of_length_le (by omega)]; rfl, rfl⟩
theorem spec_plTotalA (A : Option Addr) (c m : Nat) (ls : List (List Int)) (n : Nat) (w : World) (hm : ls.length = m) (hl : m ≤ 1048577) (hb : ∀ l ∈ ls, l.length ≤ 1048577) (hr : RdAA w n A ls) :
    Calls Try.prog 72 #[.slice A m c] w fun e w' => e = .returned (.int .i64 (sumW (ls.map grt))) ∧ w = w' := by
  subst hm
  have HB := Lib.hid hb; clear hb
  go_enter Try.func72, Try.ntmps72
  go_wp2
  go_loop [3, 8] (fun s i => ∃ k : Nat, k ≤ ls.length ∧ i = .int .i64 k ∧ s = .int .i64 (sumW ((ls.take k).map grt))) (fun _ i => ls.length - (intOf i).toNat)
  case atStart => exact ⟨0, Nat.zero_le _, rfl, by simp [sumW]⟩
  case round =>
    obtain ⟨k, hk, rfl, rfl⟩ := hrel
    by_cases hlt : k < ls.length
    · obtain ⟨B, c', l, b, off, HX, rfl, h3, c0, hR⟩ := RdAA.get hr hlt
      have hll := HB.out l (List.mem_of_getElem? HX.out)
      go_wp2_with (go_at_call 74; refine (spec_plHighA _ _ _ l _ _ _ rfl hll hR).mono ?_; rintro e w' ⟨rfl, rfl⟩)
      go_round
      case rel => exact ⟨k + 1, by omega, by go_num, by rw [take_snoc HX.out, List.map_append]; simp [sumW]⟩
      case measure => simp [intOf]; omega
    · go_wp2
      go_ret
      exact ⟨by rw [List.take_of_length_le (by first | omega | (simp; omega))]; rfl, rfl⟩
/-- The outer row of joined rows. -/
theorem zip_join {rs : List Row} {ls : List (List Int)} (h : rs.length = ls.length) (i : Nat) (r : Row) :
    List.zipWith Row.val (rs.take i ++ r :: rs.drop (i + 2)) (joinL ls i) = List.zipWith Row.val (rs.take i) (ls.take i) ++ r.val (joinR (rowAt ls i) (rowAt ls (i + 1))) :: List.zipWith Row.val (rs.drop (i + 2)) (ls.drop (i + 2)) := by
  rw [joinL, List.zipWith_append (by simp [h])]; rfl
theorem zip_take (rs : List Row) (ls : List (List Int)) (i : Nat) : List.zipWith Row.val (rs.take i) (ls.take i) = (List.zipWith Row.val rs ls).take i := by rw [List.take_zipWith]
theorem zip_drop (rs : List Row) (ls : List (List Int)) (i : Nat) : List.zipWith Row.val (rs.drop i) (ls.drop i) = (List.zipWith Row.val rs ls).drop i := by rw [List.drop_zipWith]
theorem RdAA.join {w w' : World} {n : Nat} {ls : List (List Int)} {rs : List Row} (h1 : rs.length = ls.length) (h3 : ∀ (i : Nat) r l, rs[i]? = some r → ls[i]? = some l → RdA w 0 n r.A (l.map (Value.int .i64))) (hE : Ext w w')
    (i : Nat) {r : Row} (hB : RdA w' 0 w'.heap.size r.A ((joinR (rowAt ls i) (rowAt ls (i + 1))).map (Value.int .i64))) {A : Option Addr} (hO : RdA w' 0 w'.heap.size A (List.zipWith Row.val (rs.take i ++ r :: rs.drop (i + 2)) (joinL ls i))) (hi : i + 1 < ls.length) : RdAA w' w'.heap.size A (joinL ls i) := by
  refine ⟨rs.take i ++ r :: rs.drop (i + 2), by simp [joinL, h1], hO, fun j s l hs hl => ?_⟩
  have wd : ∀ {B : Option Addr} {l : List Int}, RdA w 0 n B (l.map (Value.int .i64)) → RdA w' 0 w'.heap.size B (l.map (Value.int .i64)) := fun h => (h.ext hE).wide (Nat.le_refl _) (h.ext hE).1 (Nat.le_refl _)
  have e1 : (rs.take i).length = i := by simp; omega
  have e2 : (ls.take i).length = i := by simp; omega
  rcases Nat.lt_trichotomy j i with hj | hj | hj
  · rw [List.getElem?_append_left (by omega), List.getElem?_take_of_lt hj] at hs
    rw [joinL, List.getElem?_append_left (by omega), List.getElem?_take_of_lt hj] at hl
    exact wd (h3 j s l hs hl)
  · rw [List.getElem?_append_right (by omega), e1, show j - i = 0 by omega] at hs
    rw [joinL, List.getElem?_append_right (by omega), e2, show j - i = 0 by omega] at hl
    simp at hs hl
    subst hs; subst hl
    exact hB
  · rw [List.getElem?_append_right (by omega), e1, show j - i = (j - i - 1) + 1 by omega, List.getElem?_cons_succ, List.getElem?_drop] at hs
    rw [joinL, List.getElem?_append_right (by omega), e2, show j - i = (j - i - 1) + 1 by omega, List.getElem?_cons_succ, List.getElem?_drop] at hl
    exact wd (h3 _ s l hs hl)
def RetAA (w : World) (ls : List (List Int)) (e : Ending) (w' : World) : Prop := ∃ A c, e = .returned (.slice A ls.length c) ∧ ls.length ≤ c ∧ RdAA w' w'.heap.size A ls ∧ Ext w w'
end Go.Proofs.Ytnhddepmhelgiaa
