/- The closure of LeaveMarks. -/
import Derived.Test.YtnhddepmhelgiaaLvR
import Derived.Test.YtnhddepmhelgiaaOnly
import Derived.Deep.RegionHeld3
import Derived.Deep.Cut
import Derived.Deep.DeepCutAuto
namespace Go.Proofs.Ytnhddepmhelgiaa
open Go.RowKit
set_option linter.unusedVariables false
theorem Only.extR {S : Nat → Prop} {a b c : World} (h : Only S a b) (hE : Ext b c) : Only S a c := h.trans (Only.of_ext hE)
theorem Blk.setFar {w : World} {g : Nat} {t : TypeId} {cs : Array Value} (h : Blk w g t cs) {b o : Nat} (hne : ¬ g = b) (u : Value) : Blk (w.setCell ⟨b, o, none⟩ u) g t cs :=
  (Below.heap_setCell _ _ _ _ (fun e => hne e)).trans h
/-- Where the captured variables lie: below block base; best and least apart from all else. -/
structure LvAt (base hi ck cl ct cb cn : Nat) : Prop where
  k1 : ¬ ck = cb
  k2 : ¬ ck = ct
  l1 : ¬ cl = cb
  l2 : ¬ cl = ct
  n1 : ¬ cn = cb
  n2 : ¬ cn = ct
  bt : ¬ cb = ct
  b1 : cb < base
  t1 : ct < base
  b2 : hi ≤ cb
  t2 : hi ≤ ct
def lvFn (ck cl ct cb cn : Nat) : Value := .func (.func 70) #[] #[.pointer (some ⟨ck, 0, none⟩), .pointer (some ⟨cl, 0, none⟩), .pointer (some ⟨ct, 0, none⟩), .pointer (some ⟨cb, 0, none⟩), .pointer (some ⟨cn, 0, none⟩)]
/-- What the captured variables hold. -/
structure LvMem (w : World) (base lo hi ck cl ct cb cn : Nat) (A : Option Addr) (c k : Nat) (ls : List (List Int)) (S : List Nat × Int) : Prop where
  k : w.cell? ⟨ck, 0, none⟩ = some (.int .i64 k)
  l : w.cell? ⟨cl, 0, none⟩ = some (.slice A ls.length c)
  n : w.cell? ⟨cn, 0, none⟩ = some (lvFn ck cl ct cb cn)
  t : Blk w ct 3 #[.int .i64 S.2]
  b : ∃ Ab cab, Blk w cb 29 #[.slice Ab S.1.length cab] ∧ S.1.length ≤ cab ∧ RdI w base w.heap.size Ab (iL S.1)
  r : RdII w lo hi A ls
section
variable {w w' : World} {base lo hi ck cl ct cb cn : Nat} {A : Option Addr} {c k : Nat} {ls : List (List Int)} {S : List Nat × Int}
theorem LvMem.ext (h : LvMem w base lo hi ck cl ct cb cn A c k ls S) (hE : Ext w w') : LvMem w' base lo hi ck cl ct cb cn A c k ls S := by
  obtain ⟨Ab, cab, h1, h2, h3⟩ := h.b
  exact ⟨hE.cell h.k, hE.cell h.l, hE.cell h.n, h.t.ext hE, ⟨Ab, cab, h1.ext hE, h2, RdI.wideTop h3 (Nat.le_refl _) hE⟩, h.r.ext hE⟩
theorem LvMem.put (h : LvMem w base lo hi ck cl ct cb cn A c k ls S) (hat : LvAt base hi ck cl ct cb cn) {ms : List Nat} {m d : Nat} {B : Option Addr} {H : Int} (hm : ms.length = m) (hmd : m ≤ d) (hr : RdI w base w.heap.size B (iL ms)) :
    LvMem ((w.setCell ⟨cb, 0, none⟩ (.slice B m d)).setCell ⟨ct, 0, none⟩ (.int .i64 H)) base lo hi ck cl ct cb cn A c k ls (ms, H) ∧ Only (fun b => b = cb ∨ b = ct) w ((w.setCell ⟨cb, 0, none⟩ (.slice B m d)).setCell ⟨ct, 0, none⟩ (.int .i64 H)) := by
  subst hm
  obtain ⟨Ab, cab, h1, _, _⟩ := h.b
  have hO : Only (fun b => b = cb ∨ b = ct) w ((w.setCell ⟨cb, 0, none⟩ (.slice B ms.length d)).setCell ⟨ct, 0, none⟩ (.int .i64 H)) := ((Only.refl w).setCell (.inl rfl) _).setCell (.inr rfl) _
  have hsz : ((w.setCell ⟨cb, 0, none⟩ (.slice B ms.length d)).setCell ⟨ct, 0, none⟩ (.int .i64 H)).heap.size = w.heap.size := by simp [World.setCell]
  refine ⟨⟨hO.cell h.k ?_, hO.cell h.l ?_, hO.cell h.n ?_, ?_, ⟨B, d, ?_, hmd, ?_⟩, ?_⟩, hO⟩
  · rintro (e | e); exact hat.k1 e; exact hat.k2 e
  · rintro (e | e); exact hat.l1 e; exact hat.l2 e
  · rintro (e | e); exact hat.n1 e; exact hat.n2 e
  · have := (Blk.setFar h.t (b := cb) (o := 0) (fun e => hat.bt e.symm) (.slice B ms.length d)).set_ 0 (.int .i64 H)
    exact this
  · have := Blk.setFar (h1.set_ 0 (.slice B ms.length d)) (b := ct) (o := 0) hat.bt (.int .i64 H)
    exact this
  · rw [hsz]
    refine Only.rd hO hr fun k h1 _ => ?_
    have := hat.b1; have := hat.t1
    rintro (e | e) <;> omega
  · refine h.r.out (lo' := hi) (hi' := base) ⟨hO.os, hO.tape, hO.output, hO.size, fun k hk ho => hO.block k hk ?_⟩ (.inl (Nat.le_refl _))
    have := hat.b1; have := hat.t1; have := hat.b2; have := hat.t2
    rintro (e | e) <;> omega
end
set_option maxHeartbeats 4000000 in
theorem lv_next (base lo hi ck cl ct cb cn : Nat) (A : Option Addr) (c k : Nat) (ls : List (List Int)) (hat : LvAt base hi ck cl ct cb cn) (hp : par ls = true) (hk4 : k ≤ 4) : ∀ (j m : Nat) (ms : List Nat) (B : Option Addr) (d : Nat) (S : List Nat × Int) (w : World), ms.length = m → m ≤ d → j + m = k → LvM ls.length ms → -1 ≤ S.2 → base ≤ w.heap.size →
    LvMem w base lo hi ck cl ct cb cn A c k ls S → RdI w base w.heap.size B (iL ms) →
    Calls Try.prog 70 #[.slice B m d, .pointer (some ⟨ck, 0, none⟩), .pointer (some ⟨cl, 0, none⟩), .pointer (some ⟨ct, 0, none⟩), .pointer (some ⟨cb, 0, none⟩), .pointer (some ⟨cn, 0, none⟩)] w fun e w' => e = .returned (.tuple #[]) ∧ LvMem w' base lo hi ck cl ct cb cn A c k ls (lvU S (lvC ls j ms)) ∧ Only (fun b => b = cb ∨ b = ct) w w' := by
  intro j
  induction j with
  | zero =>
    intro m ms B d S w hm hmd hj hM hS hbase hmem hr'
    have hat' := hat
    obtain ⟨k1, k2, l1, l2, n1, n2, bt, b1, t1, b2, t2⟩ := hat'
    have qk := hmem.k; have ql := hmem.l
    have qt := hmem.t.cell (i := 0) rfl
    have HME := Lib.hid hmem; have HP := Lib.hid hp; have HM := Lib.hid hM
    have hkm : (m : Int) = (k : Int) := by omega
    obtain ⟨H, hH⟩ : ∃ H, H = lvH ls ms := ⟨_, rfl⟩
    have hHb := lvH_bound (ms := ms) hp
    rw [← hH] at hHb
    obtain ⟨hH0, hH1⟩ := hHb
    obtain ⟨Sl, Sn⟩ := S
    simp only at hS qt
    have HHV := Lib.hid hH
    have HC : Hid (lvC ls 0 ms = (ms, H)) := by show (ms, lvH ls ms) = _; rw [hH]
    have ek : ((m : Int) == (k : Int)) = true := by simpa using hkm
    clear hM hmem hp hH hkm
    go_enter Try.func70, Try.ntmps70
    go_wp2_with fail
    refine (impl_heightWithout A B c d m ls ms _ _ _ _ _ hm (by omega) HP.out HM.out HME.out.r hr').mono ?_
    rintro e w1 ⟨rfl, hE1⟩
    rw [← HHV.out]
    have hmem1 := HME.out.ext hE1
    have qk1 := hmem1.k
    have qt1 := hmem1.t.cell (i := 0) rfl
    have rt1 := hmem1.t.frozen 0
    obtain ⟨Ab, cab, hB, hcab, hRb⟩ := hmem1.b
    have qb1 := hB.cell (i := 0) rfl
    have rb1 := hB.frozen 0
    have hlt1 := hmem1.t.lt
    have hlb1 := hB.lt
    have bt' : ¬ ct = cb := fun e => bt e.symm
    have HME1 := Lib.hid hmem1; have HBB := Lib.hid hB
    clear hmem1 hB hRb qk ql qt
    simp only at qt1
    by_cases h1 : Sn < 0
    · have hput := HME1.out.put hat (ms := ms) (m := m) (d := d) (B := B) (H := H) hm hmd (RdI.wideTop hr' (Nat.le_refl _) hE1)
      obtain ⟨w2, hw2⟩ : ∃ x, x = (w1.setCell ⟨cb, 0, none⟩ (.slice B m d)).setCell ⟨ct, 0, none⟩ (.int .i64 H) := ⟨_, rfl⟩
      rw [← hw2] at hput
      have hU : lvU (Sl, Sn) (lvC ls 0 ms) = (ms, H) := by rw [HC.out]; exact if_pos (by simp only; omega)
      have HU := Lib.hid hU
      clear hU
      go_wp2_with fail
      rw [← hw2]
      clear hw2
      (try simp only [Exit.inBlock, Exit.then])
      refine bodyPost_ret (results_none rfl _ _ _) rfl ?_
      exact ⟨rfl, by rw [HU.out]; exact hput.1, (Only.of_ext hE1).trans hput.2⟩
    · by_cases h2 : H < Sn
      · have hput := HME1.out.put hat (ms := ms) (m := m) (d := d) (B := B) (H := H) hm hmd (RdI.wideTop hr' (Nat.le_refl _) hE1)
        obtain ⟨w2, hw2⟩ : ∃ x, x = (w1.setCell ⟨cb, 0, none⟩ (.slice B m d)).setCell ⟨ct, 0, none⟩ (.int .i64 H) := ⟨_, rfl⟩
        rw [← hw2] at hput
        have hU : lvU (Sl, Sn) (lvC ls 0 ms) = (ms, H) := by rw [HC.out]; exact if_pos (by simp only; omega)
        have HU := Lib.hid hU
        clear hU
        go_wp2_with fail
        rw [← hw2]
        clear hw2
        (try simp only [Exit.inBlock, Exit.then])
        refine bodyPost_ret (results_none rfl _ _ _) rfl ?_
        exact ⟨rfl, by rw [HU.out]; exact hput.1, (Only.of_ext hE1).trans hput.2⟩
      · have hU : lvU (Sl, Sn) (lvC ls 0 ms) = (Sl, Sn) := by rw [HC.out]; exact if_neg (by simp only; omega)
        have HU := Lib.hid hU
        clear hU
        go_wp2_with fail
        (try simp only [Exit.inBlock, Exit.then])
        refine bodyPost_ret (results_none rfl _ _ _) rfl ?_
        exact ⟨rfl, by rw [HU.out]; exact HME1.out, Only.of_ext hE1⟩
  | succ j ih =>
    intro m ms B d S w hm hmd hj hM hS hbase hmem hr'
    have hat' := hat
    obtain ⟨k1, k2, l1, l2, n1, n2, bt, b1, t1, b2, t2⟩ := hat'
    have qk := hmem.k; have ql := hmem.l
    have HME := Lib.hid hmem; have HP := Lib.hid hp; have HM := Lib.hid hM; have IH := Lib.hid ih
    have h24 := par_len hp
    obtain ⟨a, ha⟩ : ∃ a, a = lvN ms := ⟨_, rfl⟩
    have HA := Lib.hid ha
    have ha24 : a ≤ 24 := by
      rw [ha]; unfold lvN
      split
      · rename_i x hx; have := hM.lt x (List.mem_of_getLast? hx); omega
      · omega
    have ek : ((m : Int) == (k : Int)) = false := by simp; omega
    by_cases hm0 : 0 < m
    · obtain ⟨p, hp1⟩ : ∃ p, m = p + 1 := ⟨m - 1, by omega⟩
      obtain ⟨x, b, off, HX, rfl, _, _, h3, c0, _⟩ := RdI.get hr' (k := p) (by rw [iL_len]; omega)
      have hlast : (x + 1 : Int) = a := by
        obtain ⟨q, hq⟩ : ∃ q, ms[p]? = some q := ⟨_, List.getElem?_eq_getElem (by omega)⟩
        have h5 := HX.out
        rw [iL_at hq] at h5
        injection h5 with h5
        have h6 : ms.getLast? = some q := by rw [List.getLast?_eq_getElem?, hm, hp1]; exact hq
        rw [ha, ← h5]
        simp [lvN, h6]
      obtain ⟨y, hy⟩ : ∃ y, x = (y : Int) := ⟨(a : Int) - 1, by omega⟩
      have q3 : IntKind.i64.wrap ((m : Int) - 1) = (p : Int) := by rw [show (m : Int) - 1 = p by omega]; exact IntWalk.i64_in _ (by omega)
      have q4 : IntKind.i64.wrap (x + 1) = (a : Int) := by rw [hlast]; exact IntWalk.i64_in _ (by omega)
      have g3 : (0 : Int) ≤ (p : Int) := by omega
      have g4 : (p : Int) < (m : Int) := by omega
      have g5 : (0 : Int) < (m : Int) := by omega
      clear hM hmem hp ih ha hlast hp1 hy y
      go_enter Try.func70, Try.ntmps70
      go_wp2_with fail
      go_loopw [9] (fun i wr => ∃ (t : Nat), t ≤ ls.length - 1 - a ∧ i = .int .i64 ((a : Int) + t) ∧ Hid (LvMem wr base lo hi ck cl ct cb cn A c k ls (lvT (fun i => lvC ls j (ms ++ [i])) a S t)) ∧ Only (fun b => b = cb ∨ b = ct) w wr) (fun i _ => (ls.length + 30) - (intOf i).toNat)
      case atStart => exact ⟨0, Nat.zero_le _, by go_num, HME.out, Only.refl _⟩
      case round =>
        obtain ⟨t, ht, rfl, HMT, hO⟩ := hrel
        have ql2 := HMT.out.l
        have qn2 : wr.cell? ⟨cn, 0, none⟩ = some (.func (.func 70) #[] #[.pointer (some ⟨ck, 0, none⟩), .pointer (some ⟨cl, 0, none⟩), .pointer (some ⟨ct, 0, none⟩), .pointer (some ⟨cb, 0, none⟩), .pointer (some ⟨cn, 0, none⟩)]) := HMT.out.n
        have hs0 := hO.size
        by_cases hlt : a + t + 1 < ls.length
        · have hM2 : LvM ls.length (ms ++ [a + t]) := HM.out.snoc (by rw [← HA.out]; omega) hlt
          have HM2 := Lib.hid hM2
          have hge : -1 ≤ (lvT (fun i => lvC ls j (ms ++ [i])) a S t).2 := lvT_ge hS (fun i => lvC_ge _ _) t
          have HGE := Lib.hid hge
          have K : Hid (∀ (B2 : Option Addr) (d2 : Nat) (w' : World), m + 1 ≤ d2 → Ext wr w' → RdI w' base w'.heap.size B2 (iL ms ++ [((a : Int) + t)]) → Calls Try.prog 70 #[.slice B2 (m + 1) d2, .pointer (some ⟨ck, 0, none⟩), .pointer (some ⟨cl, 0, none⟩), .pointer (some ⟨ct, 0, none⟩), .pointer (some ⟨cb, 0, none⟩), .pointer (some ⟨cn, 0, none⟩)] w' fun e w'' => e = .returned (.tuple #[]) ∧ Hid (LvMem w'' base lo hi ck cl ct cb cn A c k ls (lvT (fun i => lvC ls j (ms ++ [i])) a S (t + 1))) ∧ Only (fun b => b = cb ∨ b = ct) w' w'') := fun B2 d2 w' h1 h2 h3 =>
            IH.out (m + 1) (ms ++ [a + t]) B2 d2 _ w' (by simp [hm]) h1 (by omega) HM2.out HGE.out (by have := h2.size; omega) (HMT.out.ext h2) (by rw [iL_snoc, show ((a + t : Nat) : Int) = (a : Int) + t by omega]; exact h3)
          have hrr : RdI wr base wr.heap.size (some ⟨b, off, none⟩) (iL ms) := Rd.wide (hO.rd hr' (fun k h _ => by rintro (e | e) <;> omega)) (Nat.le_refl _) hs0 (Nat.le_refl _)
          have hrA := hrr.toA
          have hlm : (iL ms).length = m := by rw [iL_len, hm]
          have HLM := Lib.hid hlm
          have hA0 : (some ⟨b, off, none⟩ : Option Addr) = none → m = 0 := fun h => by have := hrA.none_ h; rw [List.length_map, iL_len, hm] at this; exact this
          have HA0 := Lib.hid hA0
          clear hM2 hge hlm hA0
          have q1 : IntKind.i64.wrap ((a : Int) + t + 1) = (a : Int) + t + 1 := IntWalk.i64_in _ (by omega)
          have g1 : (a : Int) + t + 1 < (ls.length : Int) := by omega
          have e1 : ∀ w', Only (fun b => b = cb ∨ b = ct) wr w' → w'.cell? ⟨cn, 0, none⟩ = _ := fun _ h => h.cell qn2 (by rintro (e | e); exact n1 e; exact n2 e)
          go_wp2_with fail
          go_region_held3 (fun w' => Only (fun b => b = cb ∨ b = ct) wr w') (first | (refine Only.trans ?_ hO9; refine Only.of_ext ?_; (repeat (first | exact Ext.refl _ | assumption | refine Ext.trans ?_ (Ext.alloc _ _) | refine Ext.trans ?_ (Ext.drew _) | refine Ext.trans ?_ (by assumption))); done) | (refine Only.of_ext ?_; (repeat (first | exact Ext.refl _ | assumption | refine Ext.trans ?_ (Ext.alloc _ _) | refine Ext.trans ?_ (Ext.drew _) | refine Ext.trans ?_ (by assumption))); done)) (first
            | (refine step_app _ wr rfl (.tmp 45) (.tmp 46) 29 rfl 3 _ 1 8 Try.underlying29 intInfo0 rfl (by omega) (.slice (some ⟨_, 0, none⟩) 0 0) 0 [] rfl (own_at (by (first | (simp only [hp_alloc, hp_drew, hp_drewN, Array.getElem?_push, Array.size_push]; simp; done) | (rw [hgA.block _ (by simp only [hp_alloc, hp_drew, hp_drewN, Array.size_push]; omega) (by simp [Value.ownBlock])]; (simp only [hp_alloc, hp_drew, hp_drewN, Array.getElem?_push, Array.size_push]; simp; done)))) (by omega)) (by repeat (first | exact Ext.refl _ | assumption | refine Ext.trans ?_ (Ext.alloc _ _) | refine Ext.trans ?_ (Ext.drew _) | refine Ext.trans ?_ (Ext.drewN _ _) | refine Ext.trans ?_ (by assumption))) _ _ _ m _ ((iL ms).map (Value.int .i64)) rfl (by rw [List.length_map, HLM.out]; omega) (RdA.ext hrA (by repeat (first | exact Ext.refl _ | assumption | refine Ext.trans ?_ (Ext.alloc _ _) | refine Ext.trans ?_ (Ext.drew _) | refine Ext.trans ?_ (Ext.drewN _ _) | refine Ext.trans ?_ (by assumption)))) (ints_one _) (by omega) HA0.out ?_; intro vA wA hownA hEA hgA hatA)
            | (refine step_app _ wr rfl (.tmp 47) (.tmp 49) 29 rfl 3 _ 1 8 Try.underlying29 intInfo0 rfl (by omega) vA (0 + m) ([] ++ (iL ms).map (Value.int .i64)) rfl (by first | exact hownA | exact ownsRow_ext hownA (Ext.alloc _ _)) (by repeat (first | exact Ext.refl _ | assumption | refine Ext.trans ?_ (Ext.alloc _ _) | refine Ext.trans ?_ (Ext.drew _) | refine Ext.trans ?_ (Ext.drewN _ _) | refine Ext.trans ?_ (by assumption))) _ _ _ 1 1 [.int .i64 ((a : Int) + t)] rfl rfl (rdA_at (cs := #[.int .i64 ((a : Int) + t)]) (t := 3) (by (first | (simp only [hp_alloc, hp_drew, hp_drewN, Array.getElem?_push, Array.size_push]; simp; done) | (rw [hgA.block _ (by simp only [hp_alloc, hp_drew, hp_drewN, Array.size_push]; omega) (by simp [Value.ownBlock])]; (simp only [hp_alloc, hp_drew, hp_drewN, Array.getElem?_push, Array.size_push]; simp; done)))) rfl) (by simp [Value.oneCell']) (by omega) (by simp) ?_; intro vB wB hownB hEB hgB hatB; rw [Nat.zero_add, List.nil_append] at hownB; obtain ⟨B3, d3, hv3, hd3, _⟩ := own_form hownB; subst hv3)
            | (go_at_call 70; refine (K.out B3 d3 _ hd3 (by repeat (first | exact Ext.refl _ | assumption | refine Ext.trans ?_ (Ext.alloc _ _) | refine Ext.trans ?_ (Ext.drew _) | refine Ext.trans ?_ (Ext.drewN _ _) | refine Ext.trans ?_ (by assumption))) (Rd.wide (lo := wr.heap.size) (hi := wB.heap.size) (by rw [List.map_append]; exact Rd.of_own hownB) (by omega) (Nat.le_refl _) (Nat.le_refl _))).mono ?_; rintro e w9 ⟨rfl, HM9, hO9⟩))
          all_goals
            go_wp2_with fail
            go_roundw
            case rel => exact ⟨t + 1, by omega, by go_num, HM9.ext (by repeat (first | exact Ext.refl _ | assumption | refine Ext.trans ?_ (Ext.alloc _ _) | refine Ext.trans ?_ (Ext.drew _) | refine Ext.trans ?_ (Ext.drewN _ _) | refine Ext.trans ?_ (by assumption))), hO.trans ((Only.of_ext (by repeat (first | exact Ext.refl _ | assumption | refine Ext.trans ?_ (Ext.alloc _ _) | refine Ext.trans ?_ (Ext.drew _) | refine Ext.trans ?_ (Ext.drewN _ _) | refine Ext.trans ?_ (by assumption)))).trans hO9)⟩
            case measure => simp [intOf]; omega
        · have g1 : ¬ (a : Int) + t + 1 < (ls.length : Int) := by omega
          have hv : lvT (fun i => lvC ls j (ms ++ [i])) a S t = lvU S (lvC ls (j + 1) ms) := by
            rw [lvT_from hS (fun i => lvC_ge _ _) t]
            show _ = lvU S (lvT (fun i => lvC ls j (ms ++ [i])) (lvN ms) ([], -1) (ls.length - 1 - lvN ms))
            rw [← HA.out, show ls.length - 1 - a = t by omega]
          have HV := Lib.hid hv
          clear hv
          go_wp2_with fail
          go_end0
          exact ⟨rfl, by rw [← HV.out]; exact HMT.out, hO⟩
    · have hmz : m ≤ 0 := by omega
      have ha0 : a ≤ 0 := by
        have : ms = [] := List.eq_nil_of_length_eq_zero (by omega)
        rw [ha, this]; exact Nat.le_refl _
      have g5 : decide ((0 : Int) < (m : Int)) = false := decide_eq_false (by omega)
      have g6 : decide (0 < m) = false := decide_eq_false (by omega)
      have HMZ := Lib.hid hmz; have HAZ := Lib.hid ha0
      clear hM hmem hp ih ha hm0 hmz ha0
      go_enter Try.func70, Try.ntmps70
      go_wp2_with fail
      go_loopw [9] (fun i wr => ∃ (t : Nat), t ≤ ls.length - 1 - a ∧ i = .int .i64 ((a : Int) + t) ∧ Hid (LvMem wr base lo hi ck cl ct cb cn A c k ls (lvT (fun i => lvC ls j (ms ++ [i])) a S t)) ∧ Only (fun b => b = cb ∨ b = ct) w wr) (fun i _ => (ls.length + 30) - (intOf i).toNat)
      case atStart => exact ⟨0, Nat.zero_le _, val_int (by have := HAZ.out; omega), HME.out, Only.refl _⟩
      case round =>
        obtain ⟨t, ht, rfl, HMT, hO⟩ := hrel
        have ql2 := HMT.out.l
        have qn2 : wr.cell? ⟨cn, 0, none⟩ = some (.func (.func 70) #[] #[.pointer (some ⟨ck, 0, none⟩), .pointer (some ⟨cl, 0, none⟩), .pointer (some ⟨ct, 0, none⟩), .pointer (some ⟨cb, 0, none⟩), .pointer (some ⟨cn, 0, none⟩)]) := HMT.out.n
        have hs0 := hO.size
        by_cases hlt : a + t + 1 < ls.length
        · have hM2 : LvM ls.length (ms ++ [a + t]) := HM.out.snoc (by rw [← HA.out]; omega) hlt
          have HM2 := Lib.hid hM2
          have hge : -1 ≤ (lvT (fun i => lvC ls j (ms ++ [i])) a S t).2 := lvT_ge hS (fun i => lvC_ge _ _) t
          have HGE := Lib.hid hge
          have K : Hid (∀ (B2 : Option Addr) (d2 : Nat) (w' : World), m + 1 ≤ d2 → Ext wr w' → RdI w' base w'.heap.size B2 (iL ms ++ [((a : Int) + t)]) → Calls Try.prog 70 #[.slice B2 (m + 1) d2, .pointer (some ⟨ck, 0, none⟩), .pointer (some ⟨cl, 0, none⟩), .pointer (some ⟨ct, 0, none⟩), .pointer (some ⟨cb, 0, none⟩), .pointer (some ⟨cn, 0, none⟩)] w' fun e w'' => e = .returned (.tuple #[]) ∧ Hid (LvMem w'' base lo hi ck cl ct cb cn A c k ls (lvT (fun i => lvC ls j (ms ++ [i])) a S (t + 1))) ∧ Only (fun b => b = cb ∨ b = ct) w' w'') := fun B2 d2 w' h1 h2 h3 =>
            IH.out (m + 1) (ms ++ [a + t]) B2 d2 _ w' (by simp [hm]) h1 (by omega) HM2.out HGE.out (by have := h2.size; omega) (HMT.out.ext h2) (by rw [iL_snoc, show ((a + t : Nat) : Int) = (a : Int) + t by omega]; exact h3)
          have hrr : RdI wr base wr.heap.size B (iL ms) := Rd.wide (hO.rd hr' (fun k h _ => by rintro (e | e) <;> omega)) (Nat.le_refl _) hs0 (Nat.le_refl _)
          have hrA := hrr.toA
          have hlm : (iL ms).length = m := by rw [iL_len, hm]
          have HLM := Lib.hid hlm
          have hA0 : B = none → m = 0 := fun h => by have := hrA.none_ h; rw [List.length_map, iL_len, hm] at this; exact this
          have HA0 := Lib.hid hA0
          clear hM2 hge hlm hA0
          have q1 : IntKind.i64.wrap ((a : Int) + t + 1) = (a : Int) + t + 1 := IntWalk.i64_in _ (by omega)
          have g1 : (a : Int) + t + 1 < (ls.length : Int) := by omega
          have e1 : ∀ w', Only (fun b => b = cb ∨ b = ct) wr w' → w'.cell? ⟨cn, 0, none⟩ = _ := fun _ h => h.cell qn2 (by rintro (e | e); exact n1 e; exact n2 e)
          go_wp2_with fail
          go_region_held3 (fun w' => Only (fun b => b = cb ∨ b = ct) wr w') (first | (refine Only.trans ?_ hO9; refine Only.of_ext ?_; (repeat (first | exact Ext.refl _ | assumption | refine Ext.trans ?_ (Ext.alloc _ _) | refine Ext.trans ?_ (Ext.drew _) | refine Ext.trans ?_ (by assumption))); done) | (refine Only.of_ext ?_; (repeat (first | exact Ext.refl _ | assumption | refine Ext.trans ?_ (Ext.alloc _ _) | refine Ext.trans ?_ (Ext.drew _) | refine Ext.trans ?_ (by assumption))); done)) (first
            | (refine step_app _ wr rfl (.tmp 45) (.tmp 46) 29 rfl 3 _ 1 8 Try.underlying29 intInfo0 rfl (by omega) (.slice (some ⟨_, 0, none⟩) 0 0) 0 [] rfl (own_at (by (first | (simp only [hp_alloc, hp_drew, hp_drewN, Array.getElem?_push, Array.size_push]; simp; done) | (rw [hgA.block _ (by simp only [hp_alloc, hp_drew, hp_drewN, Array.size_push]; omega) (by simp [Value.ownBlock])]; (simp only [hp_alloc, hp_drew, hp_drewN, Array.getElem?_push, Array.size_push]; simp; done)))) (by omega)) (by repeat (first | exact Ext.refl _ | assumption | refine Ext.trans ?_ (Ext.alloc _ _) | refine Ext.trans ?_ (Ext.drew _) | refine Ext.trans ?_ (Ext.drewN _ _) | refine Ext.trans ?_ (by assumption))) _ _ _ m _ ((iL ms).map (Value.int .i64)) rfl (by rw [List.length_map, HLM.out]; omega) (RdA.ext hrA (by repeat (first | exact Ext.refl _ | assumption | refine Ext.trans ?_ (Ext.alloc _ _) | refine Ext.trans ?_ (Ext.drew _) | refine Ext.trans ?_ (Ext.drewN _ _) | refine Ext.trans ?_ (by assumption)))) (ints_one _) (by omega) HA0.out ?_; intro vA wA hownA hEA hgA hatA)
            | (refine step_app _ wr rfl (.tmp 47) (.tmp 49) 29 rfl 3 _ 1 8 Try.underlying29 intInfo0 rfl (by omega) vA (0 + m) ([] ++ (iL ms).map (Value.int .i64)) rfl (by first | exact hownA | exact ownsRow_ext hownA (Ext.alloc _ _)) (by repeat (first | exact Ext.refl _ | assumption | refine Ext.trans ?_ (Ext.alloc _ _) | refine Ext.trans ?_ (Ext.drew _) | refine Ext.trans ?_ (Ext.drewN _ _) | refine Ext.trans ?_ (by assumption))) _ _ _ 1 1 [.int .i64 ((a : Int) + t)] rfl rfl (rdA_at (cs := #[.int .i64 ((a : Int) + t)]) (t := 3) (by (first | (simp only [hp_alloc, hp_drew, hp_drewN, Array.getElem?_push, Array.size_push]; simp; done) | (rw [hgA.block _ (by simp only [hp_alloc, hp_drew, hp_drewN, Array.size_push]; omega) (by simp [Value.ownBlock])]; (simp only [hp_alloc, hp_drew, hp_drewN, Array.getElem?_push, Array.size_push]; simp; done)))) rfl) (by simp [Value.oneCell']) (by omega) (by simp) ?_; intro vB wB hownB hEB hgB hatB; rw [Nat.zero_add, List.nil_append] at hownB; obtain ⟨B3, d3, hv3, hd3, _⟩ := own_form hownB; subst hv3)
            | (go_at_call 70; refine (K.out B3 d3 _ hd3 (by repeat (first | exact Ext.refl _ | assumption | refine Ext.trans ?_ (Ext.alloc _ _) | refine Ext.trans ?_ (Ext.drew _) | refine Ext.trans ?_ (Ext.drewN _ _) | refine Ext.trans ?_ (by assumption))) (Rd.wide (lo := wr.heap.size) (hi := wB.heap.size) (by rw [List.map_append]; exact Rd.of_own hownB) (by omega) (Nat.le_refl _) (Nat.le_refl _))).mono ?_; rintro e w9 ⟨rfl, HM9, hO9⟩))
          all_goals
            go_wp2_with fail
            go_roundw
            case rel => exact ⟨t + 1, by omega, by go_num, HM9.ext (by repeat (first | exact Ext.refl _ | assumption | refine Ext.trans ?_ (Ext.alloc _ _) | refine Ext.trans ?_ (Ext.drew _) | refine Ext.trans ?_ (Ext.drewN _ _) | refine Ext.trans ?_ (by assumption))), hO.trans ((Only.of_ext (by repeat (first | exact Ext.refl _ | assumption | refine Ext.trans ?_ (Ext.alloc _ _) | refine Ext.trans ?_ (Ext.drew _) | refine Ext.trans ?_ (Ext.drewN _ _) | refine Ext.trans ?_ (by assumption)))).trans hO9)⟩
            case measure => simp [intOf]; omega
        · have g1 : ¬ (a : Int) + t + 1 < (ls.length : Int) := by omega
          have hv : lvT (fun i => lvC ls j (ms ++ [i])) a S t = lvU S (lvC ls (j + 1) ms) := by
            rw [lvT_from hS (fun i => lvC_ge _ _) t]
            show _ = lvU S (lvT (fun i => lvC ls j (ms ++ [i])) (lvN ms) ([], -1) (ls.length - 1 - lvN ms))
            rw [← HA.out, show ls.length - 1 - a = t by omega]
          have HV := Lib.hid hv
          clear hv
          go_wp2_with fail
          go_end0
          exact ⟨rfl, by rw [← HV.out]; exact HMT.out, hO⟩
end Go.Proofs.Ytnhddepmhelgiaa
