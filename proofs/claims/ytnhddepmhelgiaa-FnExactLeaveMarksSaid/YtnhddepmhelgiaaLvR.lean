/- The reference's recursion over the choices of marks. -/
import Derived.Test.YtnhddepmhelgiaaLvQ
namespace Go.Proofs.Ytnhddepmhelgiaa
open Go.RowKit
set_option linter.unusedVariables false
theorem spec_l1OwnO (A : Option Addr) (c n : Nat) (l : List Int) (lo hi : Nat) (w : World) (hn : l.length = n) (hl : n ≤ 1048577) (hr : RdA w lo hi A (l.map (Value.int .i64))) :
    Calls Try.prog 66 #[.slice A n c] w fun e w' => ∃ v, e = .returned v ∧ w'.ownsRow w.heap.size 3 1 v n (l.map (Value.int .i64)) ∧ Ext w w' := by
  subst hn
  have hno : A = none → l.length = 0 := fun h => by have := hr.none_ h; simpa using this
  have HNO := Lib.hid hno; clear hno
  go_enter Try.func66, Try.ntmps66
  go_wp2_with (at_builtin; refine wp_app _ w rfl (.tmp 3) (.tmp 4) 29 rfl 3 _ 1 8 Try.underlying29 intInfo0 rfl (by omega) _ 0 [] rfl (own_lit0 _ _ (Nat.le_refl _) (Ext.refl _)) (by repeat (first | exact Ext.refl _ | assumption | refine Ext.trans ?_ (Ext.alloc _ _) | refine Ext.trans ?_ (Ext.drew _) | refine Ext.trans ?_ (Ext.drewN _ _) | refine Ext.trans ?_ (by assumption))) _ _ _ l.length _ (l.map (Value.int .i64)) rfl (by simp) (hr.ext (by repeat (first | exact Ext.refl _ | assumption | refine Ext.trans ?_ (Ext.alloc _ _) | refine Ext.trans ?_ (Ext.drew _) | refine Ext.trans ?_ (Ext.drewN _ _) | refine Ext.trans ?_ (by assumption)))) (ints_one l) (by omega) HNO.out ?_; intro v2 w2 hown2 hE2 hg2 hat2)
  rw [Nat.zero_add, List.nil_append] at hown2
  go_ret
  exact ⟨_, rfl, hown2, hE2⟩
theorem RdI.wideTop {w w' : World} {lo lo' hi : Nat} {A : Option Addr} {l : List Int} (h : RdI w lo hi A l) (h1 : lo' ≤ lo) (hE : Ext w w') : RdI w' lo' w'.heap.size A l := Rd.wide (RdI.ext h hE) h1 (RdI.ext h hE).1 (Nat.le_refl _)
/-- A choice is handed back: its marks lie from block base on. -/
def RetLv (w : World) (base : Nat) (p : List Nat × Int) (e : Ending) (w' : World) : Prop := ∃ A c, e = .returned (.tuple #[.slice A p.1.length c, .int .i64 p.2]) ∧ p.1.length ≤ c ∧ RdI w' base w'.heap.size A (iL p.1) ∧ Ext w w'
set_option maxHeartbeats 2000000 in
theorem spec_plChoose (A : Option Addr) (c : Nat) (ls : List (List Int)) (n : Nat) (hp : par ls = true) (hcap : ls.length ≤ c) : ∀ (k m : Nat) (ms : List Nat) (B : Option Addr) (d base : Nat) (w : World), ms.length = m → m ≤ d → k + m ≤ 4 → LvM ls.length ms → base ≤ w.heap.size → RdAA w n A ls → RdI w base w.heap.size B (iL ms) →
    Calls Try.prog 69 #[.slice A ls.length c, .slice B m d, .int .i64 (lvN ms : Nat), .int .i64 (k : Nat)] w (RetLv w base (lvC ls k ms)) := by
  intro k
  induction k with
  | zero =>
    intro m ms B d base w hm hmd h4 hM hbase hr hr'
    subst hm
    go_enter Try.func69, Try.ntmps69
    go_wp2_with fail
    refine (spec_plLeft A B c d ms.length ls ms n _ _ _ rfl (by omega) hp hcap hM hr hr').mono ?_
    rintro e w1 ⟨rfl, hE1⟩
    go_wp2_with fail
    go_ret2
    exact ⟨B, d, rfl, hmd, RdI.wideTop hr' (Nat.le_refl _) hE1, hE1⟩
  | succ k ih =>
    intro m ms B d base w hm hmd h4 hM hbase hr hr'
    have HP := Lib.hid hp; have HM := Lib.hid hM; have IH := Lib.hid ih
    have h24 := par_len hp
    obtain ⟨a, ha⟩ : ∃ a, a = lvN ms := ⟨_, rfl⟩
    have HA := Lib.hid ha
    have ha24 : a ≤ 24 := by
      rw [ha]; unfold lvN
      split
      · rename_i x hx; have := hM.lt x (List.mem_of_getLast? hx); omega
      · omega
    have HLV : Hid (lvC ls (k + 1) ms = lvT (fun i => lvC ls k (ms ++ [i])) a ([], -1) (ls.length - 1 - a)) := by show _ = _; rw [ha]; rfl
    rw [← ha]
    clear hp hM ih ha
    have e0 : ((k + 1 : Nat) : Int) = (k : Int) + 1 := by omega
    rw [e0]
    have e1 : ((k : Int) + 1 == 0) = false := by simp; omega
    go_enter Try.func69, Try.ntmps69
    go_wp2_with fail
    clear e1
    go_loopw [10, 11, 12] (fun bs le i wr => ∃ (t : Nat) (Sl : List Nat) (Sn : Int) (As : Option Addr) (cs : Nat), t ≤ ls.length - 1 - a ∧ i = .int .i64 ((a : Int) + t) ∧ le = .int .i64 Sn ∧ bs = .slice As Sl.length cs ∧ Sl.length ≤ cs ∧ Hid (lvT (fun i => lvC ls k (ms ++ [i])) a ([], -1) t = (Sl, Sn)) ∧ RdI wr base wr.heap.size As (iL Sl) ∧ Ext w wr) (fun _ _ i _ => (ls.length + 30) - (intOf i).toNat)
    case atStart => exact ⟨0, [], -1, none, 0, Nat.zero_le _, by go_num, rfl, rfl, Nat.le_refl _, rfl, ⟨Nat.le_refl _, fun h => absurd rfl h⟩, (by repeat (first | exact Ext.refl _ | assumption | refine Ext.trans ?_ (Ext.alloc _ _) | refine Ext.trans ?_ (Ext.drew _) | refine Ext.trans ?_ (Ext.drewN _ _) | refine Ext.trans ?_ (by assumption)))⟩
    case round =>
      obtain ⟨t, Sl, Sn, As, cs, ht, rfl, rfl, rfl, hcs, HS, hRS, hE⟩ := hrel
      by_cases hlt : a + t + 1 < ls.length
      · have hM2 : LvM ls.length (ms ++ [a + t]) := HM.out.snoc (by rw [← HA.out]; omega) hlt
        have hN2 : lvN (ms ++ [a + t]) = a + t + 1 := lvN_snoc
        obtain ⟨C, hC⟩ : ∃ C, C = lvC ls k (ms ++ [a + t]) := ⟨_, rfl⟩
        have hCge : -1 ≤ C.2 := by rw [hC]; exact lvC_ge _ _
        obtain ⟨Cl, Cn⟩ := C
        have HC : Hid (lvC ls k (ms ++ [a + t]) = (Cl, Cn)) := hC.symm
        have HM2 := Lib.hid hM2
        have K : Hid (∀ (B2 : Option Addr) (d2 : Nat) (w' : World), m + 1 ≤ d2 → Ext w w' → RdI w' base w'.heap.size B2 (iL ms ++ [((a : Int) + t)]) → Calls Try.prog 69 #[.slice A ls.length c, .slice B2 (m + 1) d2, .int .i64 ((a : Int) + t + 1), .int .i64 (k : Nat)] w' (RetLv w' base (Cl, Cn))) := fun B2 d2 w' h1 h2 h3 => by
          have := IH.out (m + 1) (ms ++ [a + t]) B2 d2 base w' (by simp [hm]) h1 (by omega) HM2.out (by have := h2.size; omega) (hr.ext h2) (by rw [iL_snoc, show ((a + t : Nat) : Int) = (a : Int) + t by omega]; exact h3)
          rw [HC.out, hN2, show ((a + t + 1 : Nat) : Int) = (a : Int) + t + 1 by omega] at this
          exact this
        simp only at hCge
        have hm' : (iL ms).length = m := by rw [iL_len, hm]
        clear hC hM2 hN2 hm
        have q1 : IntKind.i64.wrap ((a : Int) + t + 1) = (a : Int) + t + 1 := IntWalk.i64_in _ (by omega)
        have q2 : IntKind.i64.wrap ((ls.length : Int) - 1) = (ls.length : Int) - 1 := IntWalk.i64_in _ (by omega)
        have g1 : (a : Int) + t < (ls.length : Int) - 1 := by omega
        have g2 : IntKind.i64.wrap ((k : Int) + 1 - 1) = (k : Int) := by rw [show (k : Int) + 1 - 1 = k by omega]; exact IntWalk.i64_in _ (by omega)
        have hs0 := hE.size
        go_wp2_with fail
        refine (spec_l1OwnO B d m (iL ms) _ _ _ hm' (by omega) (hr'.ext hE).toA).mono ?_
        rintro e w1 ⟨v1, rfl, hown1, hE1⟩
        have hs1 := hE1.size
        go_wp2_with (at_builtin; refine wp_app _ wr rfl (.tmp 32) (.tmp 34) 29 rfl 3 _ 1 8 Try.underlying29 intInfo0 rfl (by omega) _ m _ rfl (ownsRow_ext hown1 (Ext.alloc _ _)) (by repeat (first | exact Ext.refl _ | assumption | refine Ext.trans ?_ (Ext.alloc _ _) | refine Ext.trans ?_ (Ext.drew _) | refine Ext.trans ?_ (Ext.drewN _ _) | refine Ext.trans ?_ (by assumption))) _ _ _ 1 1 [.int .i64 ((a : Int) + t)] rfl rfl (rdA_new rfl (Ext.refl _)) (by simp [Value.oneCell']) (by omega) (by simp) ?_; intro v3 w3 hown3 hE3 hg3 hat3)
        obtain ⟨B3, d3, rfl, hd3, _⟩ := own_form hown3
        have hR3 : RdI w3 base w3.heap.size B3 (iL ms ++ [((a : Int) + t)]) := by
          have := Rd.of_own hown3
          refine Rd.wide (lo := wr.heap.size) (hi := w3.heap.size) ?_ (by omega) (Nat.le_refl _) (Nat.le_refl _)
          rw [List.map_append]
          exact this
        refine (K.out B3 d3 _ hd3 (by repeat (first | exact Ext.refl _ | assumption | refine Ext.trans ?_ (Ext.alloc _ _) | refine Ext.trans ?_ (Ext.drew _) | refine Ext.trans ?_ (Ext.drewN _ _) | refine Ext.trans ?_ (by assumption))) hR3).mono ?_
        rintro e w5 ⟨A5, c5, rfl, hc5, hR5, hE5⟩
        simp only at hc5 hR5
        clear hown1 hown3 hg3 hat3
        by_cases h1 : 0 ≤ Cn
        · by_cases h2 : Sn < 0
          · go_wp2_with fail
            go_roundw
            case rel => exact ⟨t + 1, Cl, Cn, A5, c5, by omega, by go_num, rfl, rfl, hc5, (by show lvU (lvT _ _ _ t) (lvC ls k (ms ++ [a + t])) = _; rw [HS.out, HC.out]; exact if_pos (by simp only; omega)), hR5, (by repeat (first | exact Ext.refl _ | assumption | refine Ext.trans ?_ (Ext.alloc _ _) | refine Ext.trans ?_ (Ext.drew _) | refine Ext.trans ?_ (Ext.drewN _ _) | refine Ext.trans ?_ (by assumption)))⟩
            case measure => simp [intOf]; omega
          · by_cases h3 : Cn < Sn
            · go_wp2_with fail
              go_roundw
              case rel => exact ⟨t + 1, Cl, Cn, A5, c5, by omega, by go_num, rfl, rfl, hc5, (by show lvU (lvT _ _ _ t) (lvC ls k (ms ++ [a + t])) = _; rw [HS.out, HC.out]; exact if_pos (by simp only; omega)), hR5, (by repeat (first | exact Ext.refl _ | assumption | refine Ext.trans ?_ (Ext.alloc _ _) | refine Ext.trans ?_ (Ext.drew _) | refine Ext.trans ?_ (Ext.drewN _ _) | refine Ext.trans ?_ (by assumption)))⟩
              case measure => simp [intOf]; omega
            · go_wp2_with fail
              go_roundw
              case rel => exact ⟨t + 1, Sl, Sn, As, cs, by omega, by go_num, rfl, rfl, hcs, (by show lvU (lvT _ _ _ t) (lvC ls k (ms ++ [a + t])) = _; rw [HS.out, HC.out]; exact if_neg (by simp only; omega)), (hRS.wideTop (by omega) (hE3.trans hE5)), (by repeat (first | exact Ext.refl _ | assumption | refine Ext.trans ?_ (Ext.alloc _ _) | refine Ext.trans ?_ (Ext.drew _) | refine Ext.trans ?_ (Ext.drewN _ _) | refine Ext.trans ?_ (by assumption)))⟩
              case measure => simp [intOf]; omega
        · go_wp2_with fail
          go_roundw
          case rel => exact ⟨t + 1, Sl, Sn, As, cs, by omega, by go_num, rfl, rfl, hcs, (by show lvU (lvT _ _ _ t) (lvC ls k (ms ++ [a + t])) = _; rw [HS.out, HC.out]; exact if_neg (by simp only; omega)), (hRS.wideTop (by omega) (hE3.trans hE5)), (by repeat (first | exact Ext.refl _ | assumption | refine Ext.trans ?_ (Ext.alloc _ _) | refine Ext.trans ?_ (Ext.drew _) | refine Ext.trans ?_ (Ext.drewN _ _) | refine Ext.trans ?_ (by assumption)))⟩
          case measure => simp [intOf]; omega
      · have hv : lvC ls (k + 1) ms = (Sl, Sn) := by
          rw [HLV.out, show ls.length - 1 - a = t by omega]; exact HS.out
        have HV := Lib.hid hv
        clear hv
        have q2 : IntKind.i64.wrap ((ls.length : Int) - 1) = (ls.length : Int) - 1 := IntWalk.i64_in _ (by omega)
        have g1 : ¬ (a : Int) + t < (ls.length : Int) - 1 := by omega
        go_wp2_with fail
        go_ret2
        rw [HV.out]
        exact ⟨As, cs, rfl, hcs, hRS, hE⟩
end Go.Proofs.Ytnhddepmhelgiaa
