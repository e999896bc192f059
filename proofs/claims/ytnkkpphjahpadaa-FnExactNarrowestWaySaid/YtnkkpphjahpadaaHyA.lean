/- The walks that read a pattern: the program's and the reference's. -/
import Derived.Test.YtnkkpphjahpadaaHyP
import Derived.Test.YtnkkpphjahpadaaFoJ
import Derived.Test.YtnkkpphjahpadaaXw
namespace Go.Proofs.Ytnkkpphjahpadaa
open Go.RowKit
set_option linter.unusedVariables false
/-- What reading a pattern returns. -/
def RetPat (w : World) (p : ByteArray) (e : Ending) (w' : World) : Prop := ∃ A c V, e = .returned (.tuple #[.string (ptP p).1.L, .slice A V.length c, .bool (patB p)]) ∧ V.length ≤ c ∧ (patB p = true → V = (ptP p).1.V) ∧ RdI w' w.heap.size w'.heap.size A V ∧ Ext w w'
theorem isDigit_any (c : UInt8) (w : World) : Calls Try.prog 141 #[.int .u8 c.toNat] w fun e w' => e = .returned (.bool (isD c)) ∧ w = w' := by
  unfold isD
  go_enter Try.func141, Try.ntmps141
  go_wp2
  all_goals (go_ret; simp [*]; try omega)
theorem retPat_none {w w' : World} {p : ByteArray} {c : Nat} (h : patTo p p.size = none) (hE : Ext w w') : RetPat w p (.returned (.tuple #[.string ByteArray.empty, .slice none 0 c, .bool false])) w' :=
  ⟨none, c, [], by simp [ptP, patB, h], Nat.zero_le _, (fun hb : patB p = true => by rw [patB_none h] at hb; cases hb), Rd.nil (Nat.le_refl _), hE⟩
theorem sum_some {t : Pt} (ht : PtOk t) (hs : t.L.size ≤ 6) : decide (0 < sumW t.V) = someD t := by
  have key : ∀ (l : List Int) (a : Int), 0 ≤ a → a + 9 * l.length ≤ 1000 → (∀ x ∈ l, 0 ≤ x ∧ x ≤ 9) → decide (0 < l.foldl (fun n x => wrap64 (n + x)) a) = (decide (0 < a) || l.any fun x => decide (0 < x)) := by
    intro l
    induction l with
    | nil => intro a _ _ _; rw [List.any_nil, Bool.or_false]; exact Bool.eq_iff_iff.2 ⟨fun h => decide_eq_true (of_decide_eq_true h), fun h => decide_eq_true (of_decide_eq_true h)⟩
    | cons x l ih =>
      intro a h0 h1 h2
      have hx := h2 x List.mem_cons_self
      simp only [List.length_cons, Int.natCast_add] at h1
      rw [List.foldl_cons, w64 (by omega) (by omega), ih (a + x) (by omega) (by omega) (fun y hy => h2 y (List.mem_cons_of_mem _ hy)), List.any_cons, ← Bool.or_assoc]
      congr 1
      rw [Bool.eq_iff_iff]; simp; omega
  have h := key t.V 0 (by omega) (by rw [Pt.V_len, ht.len]; omega) (fun x hx => by
    simp only [Pt.V, List.mem_append, List.mem_singleton] at hx
    rcases hx with hx | rfl
    · exact ht.all x hx
    · exact ⟨ht.lo, ht.hi⟩)
  refine (Bool.eq_iff_iff.2 ⟨fun h => decide_eq_true (of_decide_eq_true h), fun h => decide_eq_true (of_decide_eq_true h)⟩).trans (h.trans ?_)
  simp [someD]
theorem V_push (t : Pt) (L : ByteArray) : (Pt.mk L (t.I ++ [t.d]) 0).V = t.V ++ [0] := rfl
theorem V_set (t : Pt) (x : Int) : (Pt.mk t.L t.I x).V = t.V.set t.I.length x := by simp [Pt.V]
theorem V_at (t : Pt) : t.V[t.I.length]? = some t.d := by simp [Pt.V]
theorem impl_readPattern (p : ByteArray) (w : World) (hs : p.size ≤ 1048577) : Calls Try.prog 126 #[.string p] w (RetPat w p) := by
  go_enter Try.func126, Try.ntmps126
  go_wp2
  go_loopw [5, 6, 7] (fun u v i wr => ∃ (k : Nat) (t : Pt), k ≤ p.size ∧ i = .int .i64 k ∧ patTo p k = some t ∧ u = .string t.L ∧ wr.ownsRow w.heap.size 3 1 v t.V.length (t.V.map (Value.int .i64)) ∧ Ext w wr) (fun _ _ i _ => p.size - (intOf i).toNat)
  case atStart => exact ⟨0, ⟨ByteArray.empty, [], 0⟩, Nat.zero_le _, rfl, rfl, rfl, World.ownsRow_lit w _ 1 (Nat.le_refl _) (by decide) rfl, (by repeat (first | exact Ext.refl _ | assumption | refine Ext.trans ?_ (Ext.alloc _ _) | refine Ext.trans ?_ (Ext.drew _) | refine Ext.trans ?_ (Ext.drewN _ _) | refine Ext.trans ?_ (by assumption)))⟩
  case round =>
    obtain ⟨k, t, hk, rfl, hp, rfl, hown, hE⟩ := hrel
    obtain ⟨ht, hLk⟩ := patTo_ok p k t hk hp
    have hVl := t.V_len
    have hIl := ht.len
    have hd0 := ht.lo
    have hd9 := ht.hi
    have HT := Lib.hid ht; clear ht
    have HP := Lib.hid hp; clear hp
    rw [hIl] at hVl
    rw [hVl] at hown
    obtain ⟨g, cap, rfl, hg1, hgl, hcap⟩ := own_some hown (by omega)
    have HOWN := Lib.hid hown
    have c0 : wr.cell? ⟨g, t.L.size, none⟩ = some (.int .i64 t.d) := by
      rw [← hIl, hown.cellAt _ (by omega)]; simp [V_at]
    have f0 : wr.frozen? ⟨g, t.L.size, none⟩ = false := hown.frozenAt _
    have hst := fun u => hown.stored t.L.size u
    have HST := Lib.hid hst
    clear hown hst
    by_cases hlt : k < p.size
    · have hby := by8_at hlt
      have HBY := Lib.hid hby; clear hby
      cases t1 : isD p[k]
      · by_cases a1 : 97 ≤ (p[k].toNat : Int)
        · by_cases a2 : (p[k].toNat : Int) ≤ 122
          · have t2 : chLOk p[k] = true := by simp [chLOk, chL]; omega
            have HS : Hid (patTo p (k + 1) = some ⟨t.L ++ p.extract k (k + 1), t.I ++ [t.d], 0⟩) := by show _ = _; rw [patTo_succ HP.out]; exact patStep_letter (by rw [HBY.out, t2])
            have HVM : Hid (t.V.map (Value.int .i64) = t.V.map (Value.int .i64)) := rfl
            have hsz : (p.extract k (k + 1)).size = 1 := by simp [ByteArray.size_extract]; omega
            clear t2
            go_wp2_with (first | (go_at_call 141; refine (isDigit_any _ _).mono ?_; rintro e w' ⟨rfl, rfl⟩) | (at_builtin; refine wp_app _ w rfl (.tmp 57) (.tmp 58) 34 rfl 3 _ 1 8 Try.underlying34 intInfo0 rfl (by omega) _ _ _ rfl (ownsRow_ext HOWN.out (Ext.alloc _ _)) (hE.trans (Ext.alloc _ _)) _ _ _ 1 1 [.int .i64 0] rfl rfl (rdA_new rfl (Ext.refl _)) (by simp [Value.oneCell']) (by omega) (by simp) ?_; intro v3 w3 hown3 hE3 hg3 hat3))
            go_roundw
            case rel => exact ⟨k + 1, _, by omega, by go_num, HS.out, rfl, by rw [V_push, List.map_append, List.length_append, hVl]; exact hown3, hE3⟩
            case measure => simp [intOf]; omega
          · have HN : Hid (patTo p p.size = none) := patB_step HP.out hlt (patStep_bad (by rw [HBY.out]; simp [chLOk, chL]; omega) (by rw [HBY.out, t1]; rfl))
            go_wp2_with (go_at_call 141; refine (isDigit_any _ _).mono ?_; rintro e w' ⟨rfl, rfl⟩)
            go_ret3
            exact retPat_none HN.out (by repeat (first | exact Ext.refl _ | assumption | refine Ext.trans ?_ (Ext.alloc _ _) | refine Ext.trans ?_ (Ext.drew _) | refine Ext.trans ?_ (Ext.drewN _ _) | refine Ext.trans ?_ (by assumption)))
        · have HN : Hid (patTo p p.size = none) := patB_step HP.out hlt (patStep_bad (by rw [HBY.out]; simp [chLOk, chL]; omega) (by rw [HBY.out, t1]; rfl))
          go_wp2_with (go_at_call 141; refine (isDigit_any _ _).mono ?_; rintro e w' ⟨rfl, rfl⟩)
          go_ret3
          exact retPat_none HN.out (by repeat (first | exact Ext.refl _ | assumption | refine Ext.trans ?_ (Ext.alloc _ _) | refine Ext.trans ?_ (Ext.drew _) | refine Ext.trans ?_ (Ext.drewN _ _) | refine Ext.trans ?_ (by assumption)))
      · have hdg := t1
        simp only [isD, Bool.and_eq_true, decide_eq_true_eq] at hdg
        obtain ⟨a1, a2⟩ := hdg
        by_cases hd : t.d = 0
        · have HS : Hid (patTo p (k + 1) = some ⟨t.L, t.I, (p[k].toNat : Int) - 48⟩) := by show _ = _; rw [patTo_succ HP.out, ← HBY.out]; exact patStep_digit (by rw [HBY.out, t1]) hd
          rw [hd] at c0
          clear hd
          go_wp2_with (go_at_call 141; refine (isDigit_any _ _).mono ?_; rintro e w' ⟨rfl, rfl⟩)
          go_roundw
          case rel => exact ⟨k + 1, _, by omega, by go_num, HS.out, rfl, by have h0 := (HST.out (.int .i64 ((p[k].toNat : Int) - 48))).1; rw [V_set, List.length_set, List.map_set, hIl, hVl]; exact h0, hE.grown (HST.out _).2 (fun k hk => by injection hk with hk; subst hk; omega)⟩
          case measure => simp [intOf]; omega
        · have HN : Hid (patTo p p.size = none) := patB_step HP.out hlt (patStep_bad (by rw [HBY.out]; simp [chLOk, chL]; omega) (by simp [hd]))
          go_wp2_with (go_at_call 141; refine (isDigit_any _ _).mono ?_; rintro e w' ⟨rfl, rfl⟩)
          go_ret3
          exact retPat_none HN.out (by repeat (first | exact Ext.refl _ | assumption | refine Ext.trans ?_ (Ext.alloc _ _) | refine Ext.trans ?_ (Ext.drew _) | refine Ext.trans ?_ (Ext.drewN _ _) | refine Ext.trans ?_ (by assumption)))
    · have hkl : k = p.size := by omega
      subst hkl
      clear hlt
      have HB : Hid (patB p = ptB t) := patB_some HP.out
      have HPP : Hid (ptP p = (t, ptB t)) := by show _ = _; simp [ptP, HP.out]
      have hRV : RdI wr w.heap.size wr.heap.size (some ⟨g, 0, none⟩) t.V := Rd.of_own HOWN.out
      cases h6 : inB t.L.size 1 6
      · have HB2 : Hid (patB p = false) := by show _ = _; rw [HB.out, ptB, h6]; rfl
        go_wp2_with (first | (go_at_call 85; refine (within_any _ _ _ _).mono ?_; rintro e w' ⟨rfl, rfl⟩))
        go_ret3
        exact ⟨_, _, t.V, by rw [HPP.out, HB2.out, hVl]; rfl, by omega, fun h => by rw [HPP.out], hRV, hE⟩
      · have hb6 := inB_iff.1 h6
        have HB2 : Hid (patB p = decide (0 < sumW t.V)) := by show _ = _; rw [HB.out, ptB, h6, sum_some HT.out (by omega)]; rfl
        go_wp2_with (first | (go_at_call 85; refine (within_any _ _ _ _).mono ?_; rintro e w' ⟨rfl, rfl⟩) | (go_at_call 140; refine (impl_sum _ _ _ t.V _ _ _ hVl (by omega) hRV).mono ?_; rintro e w' ⟨rfl, rfl⟩))
        go_ret3
        exact ⟨_, _, t.V, by rw [HPP.out, HB2.out, hVl]; rfl, by omega, fun h => by rw [HPP.out], hRV, hE⟩
theorem spec_hyPattern (p : ByteArray) (w : World) (hs : p.size ≤ 1048577) : Calls Try.prog 124 #[.string p] w (RetPat w p) := by
  go_enter Try.func124, Try.ntmps124
  go_wp2
  go_loopw [5, 6, 7, 8] (fun u z v i wr => ∃ (k : Nat) (t : Pt), k ≤ p.size ∧ i = .int .i64 k ∧ z = .bool (someD t) ∧ patTo p k = some t ∧ u = .string t.L ∧ wr.ownsRow w.heap.size 3 1 v t.V.length (t.V.map (Value.int .i64)) ∧ Ext w wr) (fun _ _ _ i _ => p.size - (intOf i).toNat)
  case atStart => exact ⟨0, ⟨ByteArray.empty, [], 0⟩, Nat.zero_le _, rfl, rfl, rfl, rfl, World.ownsRow_lit w _ 1 (Nat.le_refl _) (by decide) rfl, (by repeat (first | exact Ext.refl _ | assumption | refine Ext.trans ?_ (Ext.alloc _ _) | refine Ext.trans ?_ (Ext.drew _) | refine Ext.trans ?_ (Ext.drewN _ _) | refine Ext.trans ?_ (by assumption)))⟩
  case round =>
    obtain ⟨k, t, hk, rfl, rfl, hp, rfl, hown, hE⟩ := hrel
    obtain ⟨ht, hLk⟩ := patTo_ok p k t hk hp
    have hVl := t.V_len
    have hIl := ht.len
    have hd0 := ht.lo
    have hd9 := ht.hi
    have HT := Lib.hid ht; clear ht
    have HP := Lib.hid hp; clear hp
    rw [hIl] at hVl
    rw [hVl] at hown
    obtain ⟨g, cap, rfl, hg1, hgl, hcap⟩ := own_some hown (by omega)
    have HOWN := Lib.hid hown
    have c0 : wr.cell? ⟨g, t.L.size, none⟩ = some (.int .i64 t.d) := by
      rw [← hIl, hown.cellAt _ (by omega)]; simp [V_at]
    have f0 : wr.frozen? ⟨g, t.L.size, none⟩ = false := hown.frozenAt _
    have hst := fun u => hown.stored t.L.size u
    have HST := Lib.hid hst
    clear hown hst
    by_cases hlt : k < p.size
    · have hby := by8_at hlt
      have HBY := Lib.hid hby; clear hby
      cases t1 : isD p[k]
      · by_cases a1 : 97 ≤ (p[k].toNat : Int)
        · by_cases a2 : (p[k].toNat : Int) ≤ 122
          · have t2 : chLOk p[k] = true := by simp [chLOk, chL]; omega
            have HS : Hid (patTo p (k + 1) = some ⟨t.L ++ p.extract k (k + 1), t.I ++ [t.d], 0⟩) := by show _ = _; rw [patTo_succ HP.out]; exact patStep_letter (by rw [HBY.out, t2])
            have HVM : Hid (t.V.map (Value.int .i64) = t.V.map (Value.int .i64)) := rfl
            have hsz : (p.extract k (k + 1)).size = 1 := by simp [ByteArray.size_extract]; omega
            clear t2
            go_wp2_with (first | (at_builtin; refine wp_app _ w rfl (.tmp 34) (.tmp 35) 34 rfl 3 _ 1 8 Try.underlying34 intInfo0 rfl (by omega) _ _ _ rfl (ownsRow_ext HOWN.out (Ext.alloc _ _)) (hE.trans (Ext.alloc _ _)) _ _ _ 1 1 [.int .i64 0] rfl rfl (rdA_new rfl (Ext.refl _)) (by simp [Value.oneCell']) (by omega) (by simp) ?_; intro v3 w3 hown3 hE3 hg3 hat3))
            go_roundw
            case rel => exact ⟨k + 1, _, by omega, by go_num, by rw [someD_letter], HS.out, rfl, by rw [V_push, List.map_append, List.length_append, hVl]; exact hown3, hE3⟩
            case measure => simp [intOf]; omega
          · have HN : Hid (patTo p p.size = none) := patB_step HP.out hlt (patStep_bad (by rw [HBY.out]; simp [chLOk, chL]; omega) (by rw [HBY.out, t1]; rfl))
            go_wp2
            go_ret3
            exact retPat_none HN.out (by repeat (first | exact Ext.refl _ | assumption | refine Ext.trans ?_ (Ext.alloc _ _) | refine Ext.trans ?_ (Ext.drew _) | refine Ext.trans ?_ (Ext.drewN _ _) | refine Ext.trans ?_ (by assumption)))
        · have HN : Hid (patTo p p.size = none) := patB_step HP.out hlt (patStep_bad (by rw [HBY.out]; simp [chLOk, chL]; omega) (by rw [HBY.out, t1]; rfl))
          have hnd : (p[k].toNat : Int) < 49 ∨ 57 < (p[k].toNat : Int) := by
            rcases Int.lt_or_le (p[k].toNat : Int) 49 with h | h
            · exact .inl h
            · rcases Int.lt_or_le 57 (p[k].toNat : Int) with h' | h'
              · exact .inr h'
              · simp [isD] at t1; omega
          clear t1
          rcases hnd with hnd | hnd
          · go_wp2
            go_ret3
            exact retPat_none HN.out (by repeat (first | exact Ext.refl _ | assumption | refine Ext.trans ?_ (Ext.alloc _ _) | refine Ext.trans ?_ (Ext.drew _) | refine Ext.trans ?_ (Ext.drewN _ _) | refine Ext.trans ?_ (by assumption)))
          · go_wp2
            go_ret3
            exact retPat_none HN.out (by repeat (first | exact Ext.refl _ | assumption | refine Ext.trans ?_ (Ext.alloc _ _) | refine Ext.trans ?_ (Ext.drew _) | refine Ext.trans ?_ (Ext.drewN _ _) | refine Ext.trans ?_ (by assumption)))
      · have hdg := t1
        simp only [isD, Bool.and_eq_true, decide_eq_true_eq] at hdg
        obtain ⟨a1, a2⟩ := hdg
        by_cases hd : t.d = 0
        · have HS : Hid (patTo p (k + 1) = some ⟨t.L, t.I, (p[k].toNat : Int) - 48⟩) := by show _ = _; rw [patTo_succ HP.out, ← HBY.out]; exact patStep_digit (by rw [HBY.out, t1]) hd
          rw [hd] at c0
          clear hd
          go_wp2
          go_roundw
          case rel => exact ⟨k + 1, _, by omega, by go_num, by rw [someD_digit t (by omega)], HS.out, rfl, by have h0 := (HST.out (.int .i64 ((p[k].toNat : Int) - 48))).1; rw [V_set, List.length_set, List.map_set, hIl, hVl]; exact h0, hE.grown (HST.out _).2 (fun k hk => by injection hk with hk; subst hk; omega)⟩
          case measure => simp [intOf]; omega
        · have HN : Hid (patTo p p.size = none) := patB_step HP.out hlt (patStep_bad (by rw [HBY.out]; simp [chLOk, chL]; omega) (by simp [hd]))
          go_wp2
          go_ret3
          exact retPat_none HN.out (by repeat (first | exact Ext.refl _ | assumption | refine Ext.trans ?_ (Ext.alloc _ _) | refine Ext.trans ?_ (Ext.drew _) | refine Ext.trans ?_ (Ext.drewN _ _) | refine Ext.trans ?_ (by assumption)))
    · have hkl : k = p.size := by omega
      subst hkl
      clear hlt
      have HB : Hid (patB p = ptB t) := patB_some HP.out
      have HPP : Hid (ptP p = (t, ptB t)) := by show _ = _; simp [ptP, HP.out]
      have hRV : RdI wr w.heap.size wr.heap.size (some ⟨g, 0, none⟩) t.V := Rd.of_own HOWN.out
      have HO : Hid (patB p = (inB t.L.size 1 6 && someD t)) := HB.out
      cases h5 : someD t
      · have HB2 : Hid (patB p = false) := by show _ = _; rw [HO.out, h5, Bool.and_false]
        go_wp2
        go_ret3
        exact ⟨_, _, t.V, by rw [HPP.out, HB2.out, hVl]; rfl, by omega, fun h => by rw [HPP.out], hRV, hE⟩
      · have HB2 : Hid (patB p = inB t.L.size 1 6) := by show _ = _; rw [HO.out, h5, Bool.and_true]
        go_wp2_with (first | (go_at_call 81; refine (l1In_any _ _ _ _).mono ?_; rintro e w' ⟨rfl, rfl⟩))
        go_ret3
        exact ⟨_, _, t.V, by rw [HPP.out, HB2.out, hVl]; rfl, by omega, fun h => by rw [HPP.out], hRV, hE⟩
end Go.Proofs.Ytnkkpphjahpadaa
