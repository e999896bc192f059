/- EvenBreaks: the program's walk. -/
import Derived.Test.YtnhddepmhelgiaaEvE
import Derived.Test.YtnhddepmhelgiaaEvI
import Derived.Test.YtnhddepmhelgiaaPaG
import Derived.Test.YtnhddepmhelgiaaPaQ
import Derived.Deep.Cut
import Derived.Deep.DeepCutAuto
namespace Go.Proofs.Ytnhddepmhelgiaa
open Go.RowKit
set_option linter.unusedVariables false
def RetI3 (w : World) (p : List Int × Int × Bool) (e : Ending) (w' : World) : Prop := ∃ A c, e = .returned (.tuple #[.slice A p.1.length c, .int .i64 p.2.1, .bool p.2.2]) ∧ p.1.length ≤ c ∧ RdI w' w.heap.size w'.heap.size A p.1 ∧ Ext w w'
theorem retI3_lit {w w' : World} {a : Option Addr} {c : Nat} (hE : Ext w w') : RetI3 w ([], 0, false) (.returned (.tuple #[.slice a 0 c, .int .i64 0, .bool false])) w' := ⟨a, c, rfl, Nat.zero_le _, Rd.nil (Nat.le_refl _), hE⟩
theorem ev_ok {ls : List (List Int)} {d : Int} (h : rowsOn ls d = true) : EvOk (ls.map grt) d := by
  obtain ⟨hp, ⟨h1, h2⟩, hs⟩ := rowsOn_parts h
  exact ⟨h1, h2, fun x hx => ⟨(hs x hx).1, (hs x hx).2.2⟩, by rw [List.length_map]; exact par_len hp⟩
theorem RdI.cut' {w : World} {lo hi b off : Nat} {l : List Int} (h : RdI w lo hi (some ⟨b, off, none⟩) l) (i k : Nat) : RdI w lo hi (some ⟨b, off + i, none⟩) ((l.take k).drop i) := by
  have := Rd.drop (Rd.take h k) i
  rw [← List.map_take, ← List.map_drop] at this
  exact this
theorem cut_sum {hs : List Int} {i : Nat} : ∀ J, i ≤ J → J ≤ hs.length → ((hs.take J).drop i).sum = pf hs J - pf hs i := by
  intro J
  induction J with
  | zero => intro h _; obtain rfl : i = 0 := by omega
            simp
  | succ J ih =>
    intro h1 h2
    rcases Nat.lt_or_ge J i with hlt | hge
    · obtain rfl : i = J + 1 := by omega
      rw [List.drop_of_length_le (by simp; omega)]; simp
    · have hx : hs[J]? = some hs[J] := List.getElem?_eq_getElem (by omega)
      rw [take_snoc hx, List.drop_append_of_le_length (by simp; omega), List.sum_append, ih hge (by omega), pf_succ hx]
      simp; omega
theorem cut_sumW {hs : List Int} {d : Int} (ho : EvOk hs d) {i J : Nat} (h1 : i ≤ J) (h2 : J ≤ hs.length) : sumW ((hs.take J).drop i) = pf hs J - pf hs i := by
  rw [← cut_sum J h1 h2]
  have := ho.len; have := ho.d2
  refine sumW_eq (by rw [List.length_drop, List.length_take]; omega) (fun x hx => ?_)
  have := ho.row x (List.mem_of_mem_take (List.mem_of_mem_drop hx))
  omega
theorem EvMem.to {S : Nat → Prop} {w w' : World} {ca cb cc gp gs N : Nat} {d : Int} {cp cs cp' cs' : Array Value} {fp fs fp' fs' : Nat → Int} (h : EvMem w ca cb cc gp gs N d cp cs fp fs) (hO : Only S w w') (a : ¬ S ca) (b : ¬ S cb) (c : ¬ S cc)
    (hp : Blk w' gp 3 cp') (hs : Blk w' gs 3 cs') (hfp : FillI cp' N fp') (hfs : FillI cs' N fs') : EvMem w' ca cb cc gp gs N d cp' cs' fp' fs' :=
  ⟨hO.cell h.a a, hO.cell h.b b, hO.cell h.c c, hp, hs, hfp, hfs⟩
theorem EvMem.congr {w : World} {ca cb cc gp gs N : Nat} {d : Int} {cp cs : Array Value} {fp fs fp' fs' : Nat → Int} (h : EvMem w ca cb cc gp gs N d cp cs fp fs) (h1 : ∀ i, i < N → fp' i = fp i) (h2 : ∀ i, i < N → fs' i = fs i) : EvMem w ca cb cc gp gs N d cp cs fp' fs' :=
  ⟨h.a, h.b, h.c, h.bp, h.bs, h.fp.congr h1, h.fs.congr h2⟩
/-- The two tables and the variables that hold them, wherever they lie. -/
def EvNew (w2 : World) (N : Nat) (cs1 : Array Value) (s9 s10 s28 s31 : Value) (wx : World) : Prop := ∃ ca cb gp gs : Nat, s28 = .slice (some ⟨gp, 0, none⟩) N N ∧ s31 = .slice (some ⟨gs, 0, none⟩) N N ∧ s9 = .pointer (some ⟨ca, 0, none⟩) ∧ s10 = .pointer (some ⟨cb, 0, none⟩) ∧ Ext w2 wx ∧
  Blk wx ca 29 #[.slice (some ⟨gp, 0, none⟩) N N] ∧ Blk wx cb 29 #[.slice (some ⟨gs, 0, none⟩) N N] ∧ Blk wx gp 3 cs1 ∧ Blk wx gs 3 cs1 ∧
  (w2.heap.size ≤ ca ∧ w2.heap.size ≤ cb ∧ w2.heap.size ≤ gp ∧ w2.heap.size ≤ gs) ∧ (ca ≠ cb ∧ ca ≠ gp ∧ ca ≠ gs ∧ cb ≠ gp ∧ cb ≠ gs ∧ gp ≠ gs)
set_option maxRecDepth 100000 in
set_option maxHeartbeats 4000000 in
theorem impl_EvenBreaks (A : Option Addr) (c : Nat) (ls : List (List Int)) (d : Int) (lo hi : Nat) (w : World) (hl : ls.length ≤ 1048577) (hb : ∀ l ∈ ls, l.length ≤ 1048577) (hr : RdII w lo hi A ls) :
    Calls Try.prog 29 #[.slice A ls.length c, .int .i64 d] w (RetI3 w (evP ls d)) := by
  have hr0 := hr.ext (Ext.alloc w (.cells #[.int .i64 d] 3))
  cases h : rowsOn ls d
  · rw [evP_bad h]
    go_enter Try.func29, Try.ntmps29
    go_wp2_with (go_at_call 60; refine (impl_areRowsOn A c ls d lo hi _ hl hb hr0).mono ?_; rintro e w1 ⟨rfl, hE1⟩; obtain ⟨hc1, hf1⟩ := bcell hE1; have hs1 := hE1.size; (try simp only [World.size_alloc] at hs1))
    go_ret3
    exact retI3_lit (by repeat (first | exact Ext.refl _ | assumption | refine Ext.trans ?_ (Ext.alloc _ _) | refine Ext.trans ?_ (Ext.drew _) | refine Ext.trans ?_ (Ext.drewN _ _) | refine Ext.trans ?_ (by assumption)))
  have HOK := Lib.hid (ev_ok h)
  have HH := Lib.hid h
  have hlen := (ev_ok h).len
  rw [List.length_map] at hlen
  obtain ⟨hs, hhs⟩ : ∃ hs, hs = ls.map grt := ⟨_, rfl⟩
  rw [← hhs] at HOK
  have hsl : hs.length = ls.length := by rw [hhs, List.length_map]
  have HHS := Lib.hid hhs; have HSL := Lib.hid hsl
  obtain ⟨w0, hw0⟩ : ∃ w0, w0 = w.alloc (.cells #[.int .i64 d] 3) := ⟨_, rfl⟩
  have x0 : w0.cell? ⟨w.heap.size, 0, none⟩ = some (.int .i64 d) := by rw [hw0]; exact box_new (Ext.refl _) rfl
  have hE0 : Ext w w0 := by rw [hw0]; exact Ext.alloc _ _
  have hlt0 : w.heap.size < w0.heap.size := by rw [hw0]; simp
  rw [← hw0] at hr0
  have HW0 := Lib.hid hw0
  obtain ⟨cs1, hmk, hf1⟩ := make_ints (P := Try.prog) 29 3 Try.underlying29 intInfo0 (ls.length + 1) (by omega)
  rw [show ((ls.length + 1 : Nat) : Int) = (ls.length : Int) + 1 from by omega] at hmk
  have HF1 := Lib.hid hf1
  clear h hw0 hhs hsl hf1
  go_enter Try.func29, Try.ntmps29
  go_wp2_with fail
  have hw0' := HW0.out
  rw [← hw0']
  clear hw0'
  refine (impl_areRowsOn A c ls d lo hi _ hl hb hr0).mono ?_
  rintro e w1 ⟨rfl, hE1⟩
  rw [HH.out]
  go_wp2_with fail
  refine (impl_heights A c ls lo hi _ hl hb (hr0.ext hE1)).mono ?_
  rintro e w2 ⟨A2, c2, rfl, hc2, hR2, hE2⟩
  rw [← HHS.out] at hc2 hR2 ⊢
  rw [HSL.out] at hc2 ⊢
  go_upto_region 5 with fail
  go_cut [9, 10, 28, 31] (fun s9 s10 s28 s31 wx => EvNew w2 (ls.length + 1) cs1 s9 s10 s28 s31 wx)
  case first =>
    go_region
    all_goals
      go_wp2_with fail
      go_meet
      refine ⟨_, _, _, _, rfl, rfl, rfl, rfl, (by repeat (first | exact Ext.refl _ | assumption | refine Ext.trans ?_ (Ext.alloc _ _) | refine Ext.trans ?_ (Ext.drew _) | refine Ext.trans ?_ (Ext.drewN _ _) | refine Ext.trans ?_ (by assumption))), ?_, ?_, ?_, ?_, by omega, by omega⟩
      all_goals (show (World.heap _)[_]? = _; simp only [hp_alloc, hp_drew, hp_drewN, Array.getElem?_push, Array.size_push, if_true]; repeat rw [if_neg (by omega)])
  case rest =>
    obtain ⟨ca, cb, gp, gs, rfl, rfl, rfl, rfl, hE3, hca, hcb, hgp, hgs, hge, hds⟩ := hcut
    have hz1 := hE1.size
    have hz2 := hE2.size
    have hz3 := hE3.size
    go_wp2_with fail
    obtain ⟨gn, hgn⟩ : ∃ x, x = wc.heap.size := ⟨_, rfl⟩
    have hB0 : Blk (wc.alloc (.cells cs1 3)) gn 3 cs1 := by rw [hgn]; exact Blk.new _ _ _
    have hgpl := hgp.lt
    have hgsl := hgs.lt
    have hcal := hca.lt
    have hcbl := hcb.lt
    have hm0 : EvMem (wc.alloc (.cells cs1 3)) ca cb w.heap.size gp gs (ls.length + 1) d cs1 cs1 (fun _ => 0) (fun _ => 0) :=
      EvMem.ext ⟨hca.cell rfl, hcb.cell rfl, ((hE1.trans hE2).trans hE3).cell x0, hgp, hgs, HF1.out, HF1.out⟩ (Ext.alloc _ _)
    have hE4 : Ext w2 (wc.alloc (.cells cs1 3)) := hE3.trans (Ext.alloc _ _)
    rw [← hgn]
    have hgn2 : wc.heap.size ≤ gn := by omega
    clear hgn hca hcb hgp hgs
    go_loopw [13] (fun j wr => ∃ (e a : Nat) (cp cs cn : Array Value), e + a = ls.length ∧ j = .int .i64 ((a : Int) - 1) ∧ EvMem wr ca cb w.heap.size gp gs (ls.length + 1) d cp cs (fun p => if p < a then 0 else evK hs d p) (fun p => if p < a then 0 else evS hs d p) ∧ Blk wr gn 3 cn ∧ FillI cn (ls.length + 1) (fun p => if a ≤ p ∧ p < ls.length then evN hs d p else 0) ∧ Ext w2 wr) (fun j _ => (intOf j + 1).toNat)
    case atStart =>
      have he := ev_end HOK.out
      rw [HSL.out] at he
      refine ⟨0, ls.length, cs1, cs1, cs1, by omega, rfl, hm0.congr (fun p hp => ?_) (fun p hp => ?_), hB0, HF1.out.congr (fun p hp => if_neg (by omega)), hE4⟩
      · by_cases e : p < ls.length
        · rw [if_pos e]
        · rw [if_neg e, show p = ls.length by omega, he.1]
      · by_cases e : p < ls.length
        · rw [if_pos e]
        · rw [if_neg e, show p = ls.length by omega, he.2]
    case round =>
      obtain ⟨e, a, cp, cs, cn, hea, rfl, hm, hBn, hFn, hE⟩ := hrel
      have hwz := hE.size
      have nn1 : ¬ gn = gp := by omega
      have nn2 : ¬ gn = gs := by omega
      have nn3 : ¬ gn = ca := by omega
      have nn4 : ¬ gn = cb := by omega
      have nn5 : ¬ gn = w.heap.size := by omega
      have nn6 : ¬ gp = w.heap.size := by omega
      have nn7 : ¬ gs = w.heap.size := by omega
      cases a with
      | succ i =>
        have e0 : ((i + 1 : Nat) : Int) - 1 = (i : Int) := by omega
        rw [e0]
        have hi : i < ls.length := by omega
        have hih : i < hs.length := by rw [HSL.out]; exact hi
        obtain ⟨x2, b2, off2, HX2, rfl, _, _, _, _, _⟩ := RdI.get hR2 hih
        have qa := hm.a
        obtain ⟨q0, r0⟩ := hm.fp.cell hm.bp (k := i) (by omega)
        have g1 : (0 : Int) ≤ (i : Int) := by omega
        have g2 : (i : Int) < (ls.length : Int) + 1 := by omega
        have hgp0 := hm.bp.lt
        have hgs0 := hm.bs.lt
        have hgn0 := hBn.lt
        have nd := hds
        obtain ⟨d1, d2, d3, d4, d5, d6⟩ := nd
        have HM := Lib.hid hm
        have HBN := Lib.hid hBn
        clear hm e0 hea hBn hih
        go_wp2_with fail
        clear q0 r0 qa
        obtain ⟨wi, hwi⟩ : ∃ x, x = wr.setCell ⟨gp, i, none⟩ (.int .i64 (-1)) := ⟨_, rfl⟩
        have hOi : Only (fun k => k = gp ∨ k = gs ∨ k = gn) wr wi := by rw [hwi]; exact (Only.refl wr).setCell (.inl rfl) _
        have hmi : EvMem wi ca cb w.heap.size gp gs (ls.length + 1) d (cp.setIfInBounds i (.int .i64 (-1))) cs (fun p => if p < i then 0 else if p = i then pgV (evV hs d i 0) else evK hs d p) (fun p => if p < i then 0 else if p = i then sqV (evV hs d i 0) else evS hs d p) := by
          refine HM.out.to hOi (by omega) (by omega) (by omega) (by rw [hwi]; exact HM.out.bp.set_ i _) (by rw [hwi]; exact HM.out.bs.setFar (fun e => d6 e.symm) _) ((HM.out.fp.set_ i _).congr (fun p hp => ?_)) (HM.out.fs.congr (fun p hp => ?_))
          · by_cases e : p = i
            · subst e; rw [if_neg (by omega), if_pos rfl, if_pos rfl]; rfl
            · by_cases e2 : p < i
              · rw [if_pos e2, if_neg e, if_pos (by omega)]
              · rw [if_neg e2, if_neg e, if_neg e, if_neg (by omega)]
          · by_cases e : p = i
            · subst e; rw [if_neg (by omega), if_pos rfl, if_pos (by omega)]; rfl
            · by_cases e2 : p < i
              · rw [if_pos e2, if_pos (by omega)]
              · rw [if_neg e2, if_neg e, if_neg (by omega)]
        have hBi : Blk wi gn 3 cn := by rw [hwi]; exact HBN.out.setFar nn1 _
        have hFi : FillI cn (ls.length + 1) (fun p => if p = i then ((0 : Nat) : Int) else if i < p ∧ p < ls.length then evN hs d p else 0) := hFn.congr (fun p hp => by
          by_cases e : p = i
          · subst e; rw [if_pos rfl, if_neg (by omega)]; rfl
          · rw [if_neg e]
            by_cases e2 : i < p ∧ p < ls.length
            · rw [if_pos e2, if_pos (by omega)]
            · rw [if_neg e2, if_neg (by omega)])
        have hEi : Ext w2 wi := hOi.ext hE (by rintro k (rfl | rfl | rfl) <;> omega)
        rw [← hwi]
        clear hwi hFn
        go_loopw [14] (fun tq wx => ∃ (t J nx : Nat) (cp cs cn : Array Value), Hid (J = i + 1 + t) ∧ i < J ∧ J ≤ ls.length + 1 ∧ tq = .int .i64 (J : Int) ∧ EvMem wx ca cb w.heap.size gp gs (ls.length + 1) d cp cs (fun p => if p < i then 0 else if p = i then pgV (evV hs d i t) else evK hs d p) (fun p => if p < i then 0 else if p = i then sqV (evV hs d i t) else evS hs d p) ∧ Blk wx gn 3 cn ∧ FillI cn (ls.length + 1) (fun p => if p = i then (nx : Int) else if i < p ∧ p < ls.length then evN hs d p else 0) ∧ Hid (AtEnd (evQa hs d) (evG hs d) i t nx) ∧ Ext w2 wx) (fun tq _ => ls.length + 2 - (intOf tq).toNat)
        case atStart => exact ⟨0, i + 1, 0, _, _, _, rfl, by omega, by omega, by go_num, hmi, hBi, hFi, .inl (by show up (evQa hs d) (evG hs d) (-1) i 0 < 0; show (-1 : Int) < 0; omega), hEi⟩
        case round =>
          obtain ⟨t, J, nx, cp, cs, cn, HJ, hiJ, hJn, rfl, hm, hBn, hFn, HAT, hE⟩ := hrel
          have hwz := hE.size
          have g3 : (i : Int) ≤ (J : Int) := by omega
          have g4 : (0 : Int) ≤ (J : Int) := by omega
          by_cases hJl : J ≤ ls.length
          · have g5 : (J : Int) ≤ (ls.length : Int) := by omega
            have g6 : (J : Int) < (ls.length : Int) + 1 := by omega
            have hJh : J ≤ hs.length := by rw [HSL.out]; exact hJl
            have hJc : J ≤ c2 := by omega
            have hcF : ¬ c2 = i := by omega
            obtain ⟨pg, hpg⟩ : ∃ x, x = sumW ((hs.take J).drop i) := ⟨_, rfl⟩
            have HPG := Lib.hid hpg
            have hpf : pg = pf hs J - pf hs i := by rw [hpg]; exact cut_sumW HOK.out (by omega) hJh
            have HPF := Lib.hid hpf
            have hp0 : 0 ≤ pg := by have := pf_le HOK.out.nn (i := i) (j := J) (by omega); omega
            have HCL : Hid (((hs.take J).drop i).length = J - i) := by show _ = _; rw [List.length_drop, List.length_take]; omega
            have hRc := (hR2.ext hE).cut' i J
            clear hpg hpf hJh
            have qc := hm.c
            have ec : ∀ y : XW wr, y.v.cell? ⟨w.heap.size, 0, none⟩ = _ := fun y => y.h.cell qc
            have HM := Lib.hid hm
            have HBN := Lib.hid hBn
            clear hm hBn qc
            by_cases hok : pg ≤ d
            · have hvK := ev_vals HOK.out (j := J) (by rw [HSL.out]; exact hJl)
              obtain ⟨_, ⟨k0, k1⟩, s0, s1⟩ := hvK
              have hrd := ev_round HOK.out (i := i) (t := t) HJ.out (by rw [HSL.out]; exact hJl) (by rw [← HPF.out]; exact hok)
              rw [← HPF.out] at hrd
              have hd1 := HOK.out.d1
              have hd2 := HOK.out.d2
              have HD1 := Lib.hid hd1; have HD2 := Lib.hid hd2
              rcases hrd with ⟨c1, c2_, c3, c4⟩ | ⟨c1, c2_, c3⟩
              · have C1 := Lib.hid c1; have C2 := Lib.hid c2_; have C3 := Lib.hid c3; have C4 := Lib.hid c4
                have K1 := Lib.hid k1; have S1 := Lib.hid s1; have K0 := Lib.hid k0; have S0 := Lib.hid s0; have HP0 := Lib.hid hp0
                clear c1 c2_ c3 c4 k0 k1 s0 s1 hd1 hd2
                go_wp2_with fail
                refine wp_region_xw (w0 := wr) (by kernel_rfl) (by kernel_rfl) (by repeat (first | exact Ext.refl _ | assumption | refine Ext.trans ?_ (Ext.alloc _ _) | refine Ext.trans ?_ (Ext.drew _) | refine Ext.trans ?_ (Ext.drewN _ _) | refine Ext.trans ?_ (by assumption))) ?_; (repeat (go_big_quiet_step ((go_at_call 63; with_reducible exact XW.same (u := .int .i64 pg) (by rw [HPG.out]; exact impl_sum _ _ _ ((hs.take J).drop i) _ _ _ HCL.out (by omega) (hRc.ext (XW.h _))))))); refine wpQuiet_nil ?_; intro w3 hw'; obtain ⟨⟨_, hEw3⟩, hw''⟩ := hw'; subst hw''
                go_wp2_with (go_at_call 63; refine (impl_sum _ _ _ ((hs.take J).drop i) _ _ _ HCL.out (by omega) (hRc.ext hEw3)).mono ?_; rintro e w_ ⟨rfl, rfl⟩; rw [← HPG.out])
                have hm3 := HM.out.ext hEw3
                refine (better_yes ca cb w.heap.size gp gs (ls.length + 1) d cp cs _ _ i J pg w3 hm3 (by omega) (by omega) (by omega) (by omega) d6 d2 d3 d4 d5 HD1.out HD2.out HP0.out hok ?_ ?_ ?_ ?_ ?_).mono ?_
                · show -1 ≤ (if J < i then 0 else if J = i then _ else _); rw [if_neg (by omega), if_neg (by omega)]; have := K0.out; omega
                · show (if J < i then 0 else if J = i then _ else _) ≤ 100; rw [if_neg (by omega), if_neg (by omega)]; have := K1.out; omega
                · show 0 ≤ (if J < i then 0 else if J = i then _ else _); rw [if_neg (by omega), if_neg (by omega)]; exact S0.out
                · show (if J < i then 0 else if J = i then _ else _) ≤ 100000000; rw [if_neg (by omega), if_neg (by omega)]; have := S1.out; omega
                · show (if i < i then 0 else if i = i then _ else _) < 0 ∨ (if J < i then 0 else if J = i then _ else _) + 1 < (if i < i then 0 else if i = i then _ else _) ∨ ((if J < i then 0 else if J = i then _ else _) + 1 = (if i < i then 0 else if i = i then _ else _) ∧ (if J < i then 0 else if J = i then _ else _) + (d - pg) * (d - pg) < (if i < i then 0 else if i = i then _ else _))
                  rw [if_neg (show ¬ J < i by omega), if_neg (show ¬ J = i by omega), if_neg (show ¬ J < i by omega), if_neg (show ¬ J = i by omega), if_neg (show ¬ i < i by omega), if_pos rfl, if_neg (show ¬ i < i by omega), if_pos rfl]
                  exact C1.out
                · rintro e w4 ⟨rfl, hbp, hbs, hO4⟩
                  have hJi : ¬ J < i := by omega
                  have hJi2 : ¬ J = i := by omega
                  simp only [if_neg hJi, if_neg hJi2] at hbp hbs
                  clear hJi hJi2
                  have hB4 : Blk w4 gn 3 cn := hO4.blk (HBN.out.ext hEw3) (by omega)
                  obtain ⟨q0, r0⟩ := hFn.cell hB4 (k := i) (by omega)
                  have hgn4 := hB4.lt
                  have hE4' : Ext w2 w4 := hO4.ext (hE.trans hEw3) (by rintro k (rfl | rfl) <;> omega)
                  have HBP := Lib.hid hbp; have HBS := Lib.hid hbs; have HB4 := Lib.hid hB4
                  clear hbp hbs hB4 hm3
                  go_wp2_with fail
                  clear q0 r0
                  obtain ⟨w5, hw5⟩ : ∃ x, x = w4.setCell ⟨gn, i, none⟩ (.int .i64 (J : Int)) := ⟨_, rfl⟩
                  rw [← hw5]
                  have hO5 : Only (fun k => k = gp ∨ k = gs ∨ k = gn) w3 w5 := by
                    rw [hw5]
                    refine Only.setCell (S := fun k => k = gp ∨ k = gs ∨ k = gn) ⟨hO4.os, hO4.tape, hO4.output, hO4.size, fun k hk hn => hO4.block k hk (by omega)⟩ (.inr (.inr rfl)) _
                  have hm5 : EvMem w5 ca cb w.heap.size gp gs (ls.length + 1) d (cp.setIfInBounds i (.int .i64 (evK hs d J + 1))) (cs.setIfInBounds i (.int .i64 (evS hs d J + (d - pg) * (d - pg)))) (fun p => if p < i then 0 else if p = i then pgV (evV hs d i (t + 1)) else evK hs d p) (fun p => if p < i then 0 else if p = i then sqV (evV hs d i (t + 1)) else evS hs d p) := by
                    refine (HM.out.ext hEw3).to hO5 (by omega) (by omega) (by omega) (by rw [hw5]; exact HBP.out.setFar (fun e => nn1 e.symm) _) (by rw [hw5]; exact HBS.out.setFar (fun e => nn2 e.symm) _) ((HM.out.fp.set_ i _).congr (fun p hp => ?_)) ((HM.out.fs.set_ i _).congr (fun p hp => ?_))
                    · by_cases e : p = i
                      · subst e; rw [if_neg (by omega), if_pos rfl, if_pos rfl, C2.out]
                      · simp only [if_neg e]
                    · by_cases e : p = i
                      · subst e; rw [if_neg (by omega), if_pos rfl, if_pos rfl, C3.out]
                      · simp only [if_neg e]
                  have hB5 : Blk w5 gn 3 (cn.setIfInBounds i (.int .i64 (J : Int))) := by rw [hw5]; exact HB4.out.set_ i _
                  have hF5 : FillI (cn.setIfInBounds i (.int .i64 (J : Int))) (ls.length + 1) (fun p => if p = i then (J : Int) else if i < p ∧ p < ls.length then evN hs d p else 0) := (hFn.set_ i (J : Int)).congr (fun p hp => by
                    by_cases e : p = i
                    · subst e; rw [if_pos rfl, if_pos rfl]
                    · simp only [if_neg e])
                  have hE5 : Ext w2 w5 := hO5.ext (hE.trans hEw3) (by rintro k (rfl | rfl | rfl) <;> omega)
                  clear hw5
                  go_roundw
                  case rel => exact ⟨t + 1, J + 1, J, _, _, _, (by have := HJ.out; show J + 1 = _; omega), by omega, by omega, by go_num, hm5, hB5, hF5, C4.out, hE5⟩
                  case measure => simp [intOf]; omega
              · have C1 := Lib.hid c1; have C2 := Lib.hid c2_; have C3 := Lib.hid c3
                have K1 := Lib.hid k1; have S1 := Lib.hid s1; have K0 := Lib.hid k0; have S0 := Lib.hid s0; have HP0 := Lib.hid hp0
                clear c1 c2_ c3 k0 k1 s0 s1 hd1 hd2
                go_wp2_with fail
                refine wp_region_xw (w0 := wr) (by kernel_rfl) (by kernel_rfl) (by repeat (first | exact Ext.refl _ | assumption | refine Ext.trans ?_ (Ext.alloc _ _) | refine Ext.trans ?_ (Ext.drew _) | refine Ext.trans ?_ (Ext.drewN _ _) | refine Ext.trans ?_ (by assumption))) ?_; (repeat (go_big_quiet_step ((go_at_call 63; with_reducible exact XW.same (u := .int .i64 pg) (by rw [HPG.out]; exact impl_sum _ _ _ ((hs.take J).drop i) _ _ _ HCL.out (by omega) (hRc.ext (XW.h _))))))); refine wpQuiet_nil ?_; intro w3 hw'; obtain ⟨⟨_, hEw3⟩, hw''⟩ := hw'; subst hw''
                go_wp2_with (go_at_call 63; refine (impl_sum _ _ _ ((hs.take J).drop i) _ _ _ HCL.out (by omega) (hRc.ext hEw3)).mono ?_; rintro e w_ ⟨rfl, rfl⟩; rw [← HPG.out])
                have hm3 := HM.out.ext hEw3
                refine (better_no ca cb w.heap.size gp gs (ls.length + 1) d cp cs _ _ i J pg w3 hm3 (by omega) (by omega) (by omega) (by omega) HD1.out HD2.out HP0.out hok ?_ ?_ ?_ ?_ ?_ ?_).mono ?_
                · show -1 ≤ (if J < i then 0 else if J = i then _ else _); rw [if_neg (by omega), if_neg (by omega)]; have := K0.out; omega
                · show (if J < i then 0 else if J = i then _ else _) ≤ 100; rw [if_neg (by omega), if_neg (by omega)]; have := K1.out; omega
                · show 0 ≤ (if J < i then 0 else if J = i then _ else _); rw [if_neg (by omega), if_neg (by omega)]; exact S0.out
                · show (if J < i then 0 else if J = i then _ else _) ≤ 100000000; rw [if_neg (by omega), if_neg (by omega)]; have := S1.out; omega
                · show 0 ≤ (if i < i then 0 else if i = i then _ else _); rw [if_neg (by omega), if_pos rfl]; exact C1.out.1
                · show (if i < i then 0 else if i = i then _ else _) < (if J < i then 0 else if J = i then _ else _) + 1 ∨ ((if J < i then 0 else if J = i then _ else _) + 1 = (if i < i then 0 else if i = i then _ else _) ∧ (if i < i then 0 else if i = i then _ else _) ≤ (if J < i then 0 else if J = i then _ else _) + (d - pg) * (d - pg))
                  rw [if_neg (show ¬ J < i by omega), if_neg (show ¬ J = i by omega), if_neg (show ¬ J < i by omega), if_neg (show ¬ J = i by omega), if_neg (show ¬ i < i by omega), if_pos rfl, if_neg (show ¬ i < i by omega), if_pos rfl]
                  exact C1.out.2
                · rintro e w4 ⟨rfl, hE4_⟩
                  have hm4 := HM.out.ext (hEw3.trans hE4_)
                  have hB4 := HBN.out.ext (hEw3.trans hE4_)
                  rw [← C2.out] at hm4
                  have HM4 := Lib.hid hm4; have HB4 := Lib.hid hB4
                  clear hm3 hm4 hB4
                  go_wp2_with fail
                  go_roundw
                  case rel => exact ⟨t + 1, J + 1, nx, _, _, _, (by have := HJ.out; show J + 1 = _; omega), by omega, by omega, by go_num, HM4.out, HB4.out, hFn, C3.out nx HAT.out, (by repeat (first | exact Ext.refl _ | assumption | refine Ext.trans ?_ (Ext.alloc _ _) | refine Ext.trans ?_ (Ext.drew _) | refine Ext.trans ?_ (Ext.drewN _ _) | refine Ext.trans ?_ (by assumption)))⟩
                  case measure => simp [intOf]; omega
            · have hst := ev_stop HOK.out (i := i) (t := t) (nx := nx) (by rw [HSL.out]; exact hi) (by have := HJ.out; rw [HSL.out]; omega) (.inr (by rw [← HJ.out]; have := HPF.out; omega)) HAT.out
              have HST := Lib.hid hst
              clear hst
              go_wp2_with fail
              refine wp_region_xw (w0 := wr) (by kernel_rfl) (by kernel_rfl) (by repeat (first | exact Ext.refl _ | assumption | refine Ext.trans ?_ (Ext.alloc _ _) | refine Ext.trans ?_ (Ext.drew _) | refine Ext.trans ?_ (Ext.drewN _ _) | refine Ext.trans ?_ (by assumption))) ?_; (repeat (go_big_quiet_step ((go_at_call 63; with_reducible exact XW.same (u := .int .i64 pg) (by rw [HPG.out]; exact impl_sum _ _ _ ((hs.take J).drop i) _ _ _ HCL.out (by omega) (hRc.ext (XW.h _))))))); refine wpQuiet_nil ?_; intro w3 hw'; obtain ⟨⟨_, hEw3⟩, hw''⟩ := hw'; subst hw''
              go_wp2_with fail
              go_roundw
              case rel => exact ⟨ls.length - i, i, cp, cs, cn, by omega, by go_num, (HM.out.ext hEw3).congr (fun p hp => by
                    by_cases e : p < i
                    · rw [if_pos e, if_pos e]
                    · rw [if_neg e, if_neg e]
                      by_cases e2 : p = i
                      · subst e2; rw [if_pos rfl, HST.out.1]
                      · rw [if_neg e2]) (fun p hp => by
                    by_cases e : p < i
                    · rw [if_pos e, if_pos e]
                    · rw [if_neg e, if_neg e]
                      by_cases e2 : p = i
                      · subst e2; rw [if_pos rfl, HST.out.2.1]
                      · rw [if_neg e2]), HBN.out.ext hEw3, hFn.congr (fun p hp => by
                    by_cases e : p = i
                    · subst e; rw [if_pos rfl, if_pos (by omega), HST.out.2.2.1]
                    · rw [if_neg e]
                      by_cases e2 : i < p ∧ p < ls.length
                      · rw [if_pos e2, if_pos (by omega)]
                      · rw [if_neg e2, if_neg (by omega)]), (by repeat (first | exact Ext.refl _ | assumption | refine Ext.trans ?_ (Ext.alloc _ _) | refine Ext.trans ?_ (Ext.drew _) | refine Ext.trans ?_ (Ext.drewN _ _) | refine Ext.trans ?_ (by assumption)))⟩
              case measure => simp [intOf]
          · have hst := ev_stop HOK.out (i := i) (t := t) (nx := nx) (by rw [HSL.out]; exact hi) (by have := HJ.out; rw [HSL.out]; omega) (.inl (by have := HJ.out; rw [HSL.out]; omega)) HAT.out
            have HST := Lib.hid hst
            have g5 : ¬ (J : Int) ≤ (ls.length : Int) := by omega
            have g5' : decide ((J : Int) ≤ (ls.length : Int)) = false := decide_eq_false g5
            have HM := Lib.hid hm
            have HBN := Lib.hid hBn
            clear hst hm hBn
            go_wp2_with fail
            refine wp_region_xw (w0 := wr) (by kernel_rfl) (by kernel_rfl) (by repeat (first | exact Ext.refl _ | assumption | refine Ext.trans ?_ (Ext.alloc _ _) | refine Ext.trans ?_ (Ext.drew _) | refine Ext.trans ?_ (Ext.drewN _ _) | refine Ext.trans ?_ (by assumption))) ?_; (repeat (go_big_quiet_step (fail))); refine wpQuiet_nil ?_; intro w3 hw'; obtain ⟨⟨_, hEw3⟩, hw''⟩ := hw'; subst hw''
            go_wp2_with fail
            go_roundw
            case rel => exact ⟨ls.length - i, i, cp, cs, cn, by omega, by go_num, (HM.out.ext hEw3).congr (fun p hp => by
                  by_cases e : p < i
                  · rw [if_pos e, if_pos e]
                  · rw [if_neg e, if_neg e]
                    by_cases e2 : p = i
                    · subst e2; rw [if_pos rfl, HST.out.1]
                    · rw [if_neg e2]) (fun p hp => by
                  by_cases e : p < i
                  · rw [if_pos e, if_pos e]
                  · rw [if_neg e, if_neg e]
                    by_cases e2 : p = i
                    · subst e2; rw [if_pos rfl, HST.out.2.1]
                    · rw [if_neg e2]), HBN.out.ext hEw3, hFn.congr (fun p hp => by
                  by_cases e : p = i
                  · subst e; rw [if_pos rfl, if_pos (by omega), HST.out.2.2.1]
                  · rw [if_neg e]
                    by_cases e2 : i < p ∧ p < ls.length
                    · rw [if_pos e2, if_pos (by omega)]
                    · rw [if_neg e2, if_neg (by omega)]), (by repeat (first | exact Ext.refl _ | assumption | refine Ext.trans ?_ (Ext.alloc _ _) | refine Ext.trans ?_ (Ext.drew _) | refine Ext.trans ?_ (Ext.drewN _ _) | refine Ext.trans ?_ (by assumption)))⟩
            case measure => simp [intOf]
      | zero =>
        obtain ⟨wo, rfl⟩ : ∃ wo : World, wo = wr := ⟨_, rfl⟩
        have hE0w : Ext w wo := ((hE0.trans hE1).trans hE2).trans hE
        obtain ⟨K0, s0, L0, h00⟩ := ev_at HOK.out (Nat.zero_le hs.length)
        have hevp : evP ls d = (L0.dropLast, s0, true) := evP_good HH.out (by rw [← HHS.out]; exact h00)
        have hs00 : evS hs d 0 = s0 := h00.vals.2.1
        have qb0 := hm.b
        obtain ⟨qs0, _⟩ := hm.fs.cell hm.bs (k := 0) (by omega)
        rw [if_neg (Nat.lt_irrefl 0), hs00] at qs0
        have HEVP := Lib.hid hevp
        have H00 := Lib.hid h00
        have e0 : ((0 : Nat) : Int) - 1 = -1 := rfl
        rw [e0]
        have hgnz := hBn.lt
        have HBN := Lib.hid hBn; have HFN := Lib.hid hFn; have HM := Lib.hid hm
        clear hevp hs00 h00 hm hBn hFn e0
        go_wp2_with fail
        go_loopw [15, 16] (fun br pt wx => ∃ (p m K : Nat) (s : Int) (L E : List Int), (p < ls.length ∨ ls.length ≤ 0) ∧ pt = .int .i64 (p : Int) ∧ p ≤ ls.length ∧ Hid (EvAt hs d p K s L) ∧ Hid (E ++ L.dropLast = L0.dropLast) ∧ Hid (E.length = m) ∧ m ≤ p ∧ wx.ownsRow wo.heap.size 3 1 br m (E.map (Value.int .i64)) ∧ Ext wo wx) (fun _ pt _ => ls.length + 1 - (intOf pt).toNat)
        case atStart => exact ⟨0, 0, K0, s0, L0, [], by omega, rfl, Nat.zero_le _, H00.out, rfl, rfl, Nat.le_refl _, own_lit0 _ _ (Nat.le_refl _) (Ext.refl _), (by repeat (first | exact Ext.refl _ | assumption | refine Ext.trans ?_ (Ext.alloc _ _) | refine Ext.trans ?_ (Ext.drew _) | refine Ext.trans ?_ (Ext.drewN _ _) | refine Ext.trans ?_ (by assumption)))⟩
        case round =>
          obtain ⟨p, m, K, s, L, E, hpn, rfl, hple, HAT, HEL, HME, hmp, hown, hEr⟩ := hrel
          have eb : ∀ y : XW wr, y.v.cell? ⟨cb, 0, none⟩ = _ := fun y => y.h.cell (hEr.cell qb0)
          have es : ∀ y : XW wr, y.v.cell? ⟨gs, 0, none⟩ = _ := fun y => y.h.cell (hEr.cell qs0)
          have g0 : (0 : Int) < (ls.length : Int) + 1 := by omega
          by_cases hp : p < ls.length
          · obtain ⟨j, K', s', L', j1, j2, j3, j4, j5⟩ := EvAt.next HOK.out HAT.out (by rw [HSL.out]; exact hp)
            rw [HSL.out] at j2
            have hv : (if 0 ≤ p ∧ p < ls.length then evN hs d p else 0) = (j : Int) := by rw [if_pos ⟨Nat.zero_le p, hp⟩]; exact j3
            obtain ⟨q0, _⟩ := HFN.out.cell HBN.out (k := p) (by omega)
            rw [hv] at q0
            have q1 := hEr.cell q0
            have g1 : (0 : Int) ≤ (p : Int) := by omega
            have g2 : (p : Int) < (ls.length : Int) + 1 := by omega
            have g3 : (0 : Int) < (ls.length : Int) := by omega
            have J4 := Lib.hid j4; have J5 := Lib.hid j5
            clear hv q0 j3 j4 j5
            by_cases hj : j < ls.length
            · have g4 : (j : Int) < (ls.length : Int) := by omega
              obtain ⟨j', _, _, L'', _, _, _, f4, _⟩ := EvAt.next HOK.out J5.out (by rw [HSL.out]; exact hj)
              have hdl : E ++ [(j : Int)] ++ L'.dropLast = L0.dropLast := by
                have := HEL.out
                rw [J4.out, f4] at this
                rw [f4, ← this]; simp
              have HDL := Lib.hid hdl
              clear hdl f4
              go_wp2_with (first | (at_builtin; refine wp_app _ wo rfl (.tmp 89) (.tmp 91) 29 rfl 3 _ 1 8 Try.underlying29 intInfo0 rfl (by omega) _ m _ rfl (ownsRow_ext hown (Ext.alloc _ _)) (hEr.trans (Ext.alloc _ _)) _ _ _ 1 1 [.int .i64 (j : Int)] rfl rfl (rdA_new rfl (Ext.refl _)) (by simp [Value.oneCell']) (by omega) (by simp) ?_; intro v3 w3 hown3 hE3 hg3 hat3))
              go_roundw
              case rel => exact ⟨j, m + 1, K', s', L', E ++ [(j : Int)], .inl hj, rfl, by omega, J5.out, HDL.out, (by show (E ++ [(j : Int)]).length = m + 1; rw [List.length_append, HME.out]; rfl), by omega, by rw [List.map_append]; exact hown3, hE3⟩
              case measure => simp [intOf]; omega
            · have g4 : ¬ (j : Int) < (ls.length : Int) := by omega
              have hjn : j = hs.length := by rw [HSL.out]; omega
              have hL : L'  = [] := by
                have := J5.out
                rw [hjn] at this
                exact (EvAt.last HOK.out this).2.2
              have hend : L0.dropLast = E := by have := HEL.out; rw [J4.out, hL] at this; simpa using this.symm
              have HEND := Lib.hid hend
              have hlen : L0.dropLast.length = m := by rw [hend, HME.out]
              have HLEN := Lib.hid hlen
              obtain ⟨A', c', rfl, hc', _⟩ := own_form hown
              clear hL hend hlen hjn
              go_wp2_with fail
              refine wp_region_xw (w0 := wr) (by kernel_rfl) (by kernel_rfl) (by repeat (first | exact Ext.refl _ | assumption | refine Ext.trans ?_ (Ext.alloc _ _) | refine Ext.trans ?_ (Ext.drew _) | refine Ext.trans ?_ (Ext.drewN _ _) | refine Ext.trans ?_ (by assumption))) ?_; (repeat (go_big_quiet_step (fail))); refine wpQuiet_nil ?_; intro w7 hw'; obtain ⟨⟨_, hEw7⟩, hw''⟩ := hw'; subst hw''
              go_wp2_with fail
              go_ret3
              rw [HEVP.out]
              exact ⟨A', c', by rw [HLEN.out]; rfl, by rw [HLEN.out]; exact hc', by rw [HEND.out]; exact Rd.wide (Rd.of_own (ownsRow_ext hown hEw7)) hE0w.size (Nat.le_refl _) (Nat.le_refl _), (by repeat (first | exact Ext.refl _ | assumption | refine Ext.trans ?_ (Ext.alloc _ _) | refine Ext.trans ?_ (Ext.drew _) | refine Ext.trans ?_ (Ext.drewN _ _) | refine Ext.trans ?_ (by assumption)))⟩
          · have g3 : ¬ (0 : Int) < (ls.length : Int) := by omega
            have g3' : decide ((0 : Int) < (ls.length : Int)) = false := decide_eq_false g3
            have g3'' : decide (0 < ls.length) = false := decide_eq_false (by omega)
            have hpz : p = hs.length := by rw [HSL.out]; omega
            have hL : L = [] := by
              have := HAT.out
              rw [hpz] at this
              exact (EvAt.last HOK.out this).2.2
            have hend : L0.dropLast = E := by have := HEL.out; rw [hL] at this; simpa using this.symm
            have HEND := Lib.hid hend
            have hlen : L0.dropLast.length = m := by rw [hend, HME.out]
            have HLEN := Lib.hid hlen
            obtain ⟨A', c', rfl, hc', _⟩ := own_form hown
            clear hL hend hlen hpz
            go_wp2_with fail
            refine wp_region_xw (w0 := wr) (by kernel_rfl) (by kernel_rfl) (by repeat (first | exact Ext.refl _ | assumption | refine Ext.trans ?_ (Ext.alloc _ _) | refine Ext.trans ?_ (Ext.drew _) | refine Ext.trans ?_ (Ext.drewN _ _) | refine Ext.trans ?_ (by assumption))) ?_; (repeat (go_big_quiet_step (fail))); refine wpQuiet_nil ?_; intro w7 hw'; obtain ⟨⟨_, hEw7⟩, hw''⟩ := hw'; subst hw''
            go_wp2_with fail
            go_ret3
            rw [HEVP.out]
            exact ⟨A', c', by rw [HLEN.out]; rfl, by rw [HLEN.out]; exact hc', by rw [HEND.out]; exact Rd.wide (Rd.of_own (ownsRow_ext hown hEw7)) hE0w.size (Nat.le_refl _) (Nat.le_refl _), (by repeat (first | exact Ext.refl _ | assumption | refine Ext.trans ?_ (Ext.alloc _ _) | refine Ext.trans ?_ (Ext.drew _) | refine Ext.trans ?_ (Ext.drewN _ _) | refine Ext.trans ?_ (by assumption)))⟩
end Go.Proofs.Ytnhddepmhelgiaa
