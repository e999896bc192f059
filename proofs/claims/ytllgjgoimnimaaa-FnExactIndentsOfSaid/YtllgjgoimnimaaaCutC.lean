/- The walks of LinesOfInitial, CutInAt, LinesFor: the program's and the reference's. -/
import Derived.Test.YtllgjgoimnimaaaCutQ
import Derived.Test.YtllgjgoimnimaaaCutB
namespace Go.Proofs.Ytllgjgoimnimaaa
open Go.RowKit

def loiOk (size body lead : Int) : Bool := inB size 1 1000 && inB body 1 72 && inB lead 0 36
def loiV (size body lead : Int) : Value := if loiOk size body lead then .tuple #[.int .i64 (loiN size body lead), .int .i64 (loiN size body lead * (body + lead) - lead - size), .bool true] else .tuple #[.int .i64 0, .int .i64 0, .bool false]

theorem isBody_any (n : Int) (w : World) : Calls Try.prog 50 #[.int .i64 n] w fun e w' => e = .returned (.bool (inB n 1 72)) ∧ w = w' := by
  go_enter Try.func50, Try.ntmps50
  go_wp2_with (go_at_call 49; refine (within_any _ _ _ _).mono ?_; rintro e w' ⟨rfl, rfl⟩)
  go_ret
  exact ⟨rfl, rfl⟩

theorem spec_LinesOfInitial (size body lead : Int) (w : World) :
    Calls Try.prog 14 #[.int .i64 size, .int .i64 body, .int .i64 lead] w fun e w' => e = .returned (loiV size body lead) ∧ Ext w w' := by
  cases h1 : inB size 1 1000
  · have hv : loiV size body lead = .tuple #[.int .i64 0, .int .i64 0, .bool false] := by simp [loiV, loiOk, h1]
    rw [hv]; clear hv
    go_enter Try.func14, Try.ntmps14
    go_wp2_with (go_at_call 48; refine (l1In_any _ _ _ _).mono ?_; rintro e w' ⟨rfl, rfl⟩)
    go_ret3
    exact ⟨rfl, (by repeat (first | exact Ext.refl _ | assumption | refine Ext.trans ?_ (Ext.alloc _ _) | refine Ext.trans ?_ (Ext.drew _) | refine Ext.trans ?_ (Ext.drewN _ _) | refine Ext.trans ?_ (by assumption)))⟩
  cases h2 : inB body 1 72
  · have hv : loiV size body lead = .tuple #[.int .i64 0, .int .i64 0, .bool false] := by simp [loiV, loiOk, h2]
    rw [hv]; clear hv
    go_enter Try.func14, Try.ntmps14
    go_wp2_with (go_at_call 48; refine (l1In_any _ _ _ _).mono ?_; rintro e w' ⟨rfl, rfl⟩)
    go_ret3
    exact ⟨rfl, (by repeat (first | exact Ext.refl _ | assumption | refine Ext.trans ?_ (Ext.alloc _ _) | refine Ext.trans ?_ (Ext.drew _) | refine Ext.trans ?_ (Ext.drewN _ _) | refine Ext.trans ?_ (by assumption)))⟩
  cases h3 : inB lead 0 36
  · have hv : loiV size body lead = .tuple #[.int .i64 0, .int .i64 0, .bool false] := by simp [loiV, loiOk, h3]
    rw [hv]; clear hv
    go_enter Try.func14, Try.ntmps14
    go_wp2_with (go_at_call 48; refine (l1In_any _ _ _ _).mono ?_; rintro e w' ⟨rfl, rfl⟩)
    go_ret3
    exact ⟨rfl, (by repeat (first | exact Ext.refl _ | assumption | refine Ext.trans ?_ (Ext.alloc _ _) | refine Ext.trans ?_ (Ext.drew _) | refine Ext.trans ?_ (Ext.drewN _ _) | refine Ext.trans ?_ (by assumption)))⟩
  have hv : loiV size body lead = .tuple #[.int .i64 (loiN size body lead), .int .i64 (loiN size body lead * (body + lead) - lead - size), .bool true] := by simp [loiV, loiOk, h1, h2, h3]
  rw [hv]; clear hv
  obtain ⟨s1, s2⟩ := inB_iff.1 h1
  obtain ⟨b1, b2⟩ := inB_iff.1 h2
  obtain ⟨l1, l2⟩ := inB_iff.1 h3
  have hn : loiN size body lead = (size + lead + body + lead - 1) / (body + lead) := rfl
  have q1 : 0 ≤ (size + lead + body + lead - 1) / (body + lead) := Int.ediv_nonneg (by omega) (by omega)
  have q2 : (size + lead + body + lead - 1) / (body + lead) * (body + lead) ≤ size + lead + body + lead - 1 := Int.ediv_mul_le _ (by omega)
  have q3 : 0 ≤ (size + lead + body + lead - 1) / (body + lead) * (body + lead) := Int.mul_nonneg q1 (by omega)
  rw [hn]
  go_enter Try.func14, Try.ntmps14
  go_wp2_with (go_at_call 48; refine (l1In_any _ _ _ _).mono ?_; rintro e w' ⟨rfl, rfl⟩)
  go_ret3
  exact ⟨rfl, (by repeat (first | exact Ext.refl _ | assumption | refine Ext.trans ?_ (Ext.alloc _ _) | refine Ext.trans ?_ (Ext.drew _) | refine Ext.trans ?_ (Ext.drewN _ _) | refine Ext.trans ?_ (by assumption)))⟩

theorem impl_LinesOfInitial (size body lead : Int) (w : World) :
    Calls Try.prog 15 #[.int .i64 size, .int .i64 body, .int .i64 lead] w fun e w' => e = .returned (loiV size body lead) ∧ Ext w w' := by
  cases h1 : inB size 1 1000
  · have hv : loiV size body lead = .tuple #[.int .i64 0, .int .i64 0, .bool false] := by simp [loiV, loiOk, h1]
    rw [hv]; clear hv
    go_enter Try.func15, Try.ntmps15
    go_wp2_with (first | (go_at_call 49; refine (within_any _ _ _ _).mono ?_; rintro e w' ⟨rfl, rfl⟩) | (go_at_call 50; refine (isBody_any _ _).mono ?_; rintro e w' ⟨rfl, rfl⟩))
    go_ret3
    exact ⟨rfl, (by repeat (first | exact Ext.refl _ | assumption | refine Ext.trans ?_ (Ext.alloc _ _) | refine Ext.trans ?_ (Ext.drew _) | refine Ext.trans ?_ (Ext.drewN _ _) | refine Ext.trans ?_ (by assumption)))⟩
  cases h2 : inB body 1 72
  · have hv : loiV size body lead = .tuple #[.int .i64 0, .int .i64 0, .bool false] := by simp [loiV, loiOk, h2]
    rw [hv]; clear hv
    go_enter Try.func15, Try.ntmps15
    go_wp2_with (first | (go_at_call 49; refine (within_any _ _ _ _).mono ?_; rintro e w' ⟨rfl, rfl⟩) | (go_at_call 50; refine (isBody_any _ _).mono ?_; rintro e w' ⟨rfl, rfl⟩))
    go_ret3
    exact ⟨rfl, (by repeat (first | exact Ext.refl _ | assumption | refine Ext.trans ?_ (Ext.alloc _ _) | refine Ext.trans ?_ (Ext.drew _) | refine Ext.trans ?_ (Ext.drewN _ _) | refine Ext.trans ?_ (by assumption)))⟩
  cases h3 : inB lead 0 36
  · have hv : loiV size body lead = .tuple #[.int .i64 0, .int .i64 0, .bool false] := by simp [loiV, loiOk, h3]
    rw [hv]; clear hv
    go_enter Try.func15, Try.ntmps15
    go_wp2_with (first | (go_at_call 49; refine (within_any _ _ _ _).mono ?_; rintro e w' ⟨rfl, rfl⟩) | (go_at_call 50; refine (isBody_any _ _).mono ?_; rintro e w' ⟨rfl, rfl⟩))
    go_ret3
    exact ⟨rfl, (by repeat (first | exact Ext.refl _ | assumption | refine Ext.trans ?_ (Ext.alloc _ _) | refine Ext.trans ?_ (Ext.drew _) | refine Ext.trans ?_ (Ext.drewN _ _) | refine Ext.trans ?_ (by assumption)))⟩
  have hv : loiV size body lead = .tuple #[.int .i64 (loiN size body lead), .int .i64 (loiN size body lead * (body + lead) - lead - size), .bool true] := by simp [loiV, loiOk, h1, h2, h3]
  rw [hv]; clear hv
  obtain ⟨s1, s2⟩ := inB_iff.1 h1
  obtain ⟨b1, b2⟩ := inB_iff.1 h2
  obtain ⟨l1, l2⟩ := inB_iff.1 h3
  go_enter Try.func15, Try.ntmps15
  go_wp2_with (first | (go_at_call 49; refine (within_any _ _ _ _).mono ?_; rintro e w' ⟨rfl, rfl⟩) | (go_at_call 50; refine (isBody_any _ _).mono ?_; rintro e w' ⟨rfl, rfl⟩))
  clear h1 h2 h3
  go_loop [9, 10] (fun n h => ∃ (k : Nat) (hh : Int), n = .int .i64 (k + 1) ∧ h = .int .i64 hh ∧ hh = body + k * (lead + body) ∧ 1 ≤ hh ∧ hh ≤ 1200 ∧ k ≤ hh ∧ (k = 0 ∨ hh - (lead + body) < size)) (fun _ h => (size - intOf h).toNat)
  case atStart => exact ⟨0, body, rfl, rfl, by simp, by omega, by omega, by omega, .inl rfl⟩
  case round =>
    obtain ⟨k, hh, rfl, rfl, he, g1, g2, g3, g4⟩ := hrel
    have HE := Lib.hid he; clear he
    have HG := Lib.hid g4; clear g4
    by_cases hlt : hh < size
    · go_wp2
      go_round
      case rel => exact ⟨k + 1, hh + (lead + body), by go_num, rfl, by rw [HE.out, Int.natCast_add, Int.add_mul]; omega, by omega, by omega, by omega, .inr (by omega)⟩
      case measure => simp [intOf]; omega
    · have hd := loi_done b1 l1 HE.out (by omega) HG.out s1
      have e2 : ((k : Int) + 1) * (body + lead) - lead - size = hh - size := by
        rw [HE.out, Int.add_mul, Int.one_mul, Int.add_comm lead body]; omega
      have HD := Lib.hid hd; clear hd
      have H2 := Lib.hid e2; clear e2
      go_wp2
      go_ret3
      refine ⟨?_, (by repeat (first | exact Ext.refl _ | assumption | refine Ext.trans ?_ (Ext.alloc _ _) | refine Ext.trans ?_ (Ext.drew _) | refine Ext.trans ?_ (Ext.drewN _ _) | refine Ext.trans ?_ (by assumption)))⟩
      rw [HD.out, H2.out]
      rfl

theorem inAt_any (A : Option Addr) (c : Nat) (l : List Cut) (line side : Int) (lo hi : Nat) (w : World) (hl : l.length ≤ 1048577) (hr : RdC w lo hi A l) :
    Calls Try.prog 60 #[.slice A l.length c, .int .i64 line, .int .i64 side] w fun e w' => e = .returned (.int .i64 (idxInt (atIdx l line side))) ∧ Ext w w' := by
  go_enter Try.func60, Try.ntmps60
  go_wp2
  go_loopw [11] (fun i wr => ∃ k : Nat, k ≤ l.length ∧ i = .int .i64 k ∧ (∀ (j : Nat) y, j < k → l[j]? = some y → atP line side y = false) ∧ Ext w wr) (fun i _ => l.length - (intOf i).toNat)
  case atStart => exact ⟨0, Nat.zero_le _, rfl, fun j y hj => absurd hj (by omega), Ext.refl _⟩
  case round =>
    obtain ⟨k, hk, rfl, hn, hE⟩ := hrel
    have HN := Lib.hid hn; clear hn
    by_cases hlt : k < l.length
    · obtain ⟨x, b, off, HX, rfl, h1, h2, h3, c0, c1, c2, c3⟩ := RdC.get (hr.ext hE) hlt
      have fin : atP line side x = false → ∀ (j : Nat) y, j < k + 1 → l[j]? = some y → atP line side y = false := by
        intro hp j y hj hy
        by_cases e : j = k
        · subst e; have := HX.out.symm.trans hy; injection this with this; subst this; exact hp
        · exact HN.out j y (by omega) hy
      have FIN := Lib.hid fin; clear fin
      cases t1 : (x.side == side)
      · go_wp2
        go_roundw
        case rel => exact ⟨k + 1, by omega, by go_num, FIN.out (by simp [atP, t1]), (by repeat (first | exact Ext.refl _ | assumption | refine Ext.trans ?_ (Ext.alloc _ _) | refine Ext.trans ?_ (Ext.drew _) | refine Ext.trans ?_ (Ext.drewN _ _) | refine Ext.trans ?_ (by assumption)))⟩
        case measure => simp [intOf]; omega
      · cases t2 : beside x line
        · go_wp2_with (go_at_call 66; refine (inBeside_c x line _).mono ?_; rintro e w1 ⟨rfl, hE1⟩; obtain ⟨hc1, hf1⟩ := bcell hE1; have hs1 := hE1.size; (try simp only [World.size_alloc] at hs1))
          go_roundw
          case rel => exact ⟨k + 1, by omega, by go_num, FIN.out (by simp [atP, t2]), (by repeat (first | exact Ext.refl _ | assumption | refine Ext.trans ?_ (Ext.alloc _ _) | refine Ext.trans ?_ (Ext.drew _) | refine Ext.trans ?_ (Ext.drewN _ _) | refine Ext.trans ?_ (by assumption)))⟩
          case measure => simp [intOf]; omega
        · go_wp2_with (go_at_call 66; refine (inBeside_c x line _).mono ?_; rintro e w1 ⟨rfl, hE1⟩; obtain ⟨hc1, hf1⟩ := bcell hE1; have hs1 := hE1.size; (try simp only [World.size_alloc] at hs1))
          go_ret
          refine ⟨ret_int ?_, (by repeat (first | exact Ext.refl _ | assumption | refine Ext.trans ?_ (Ext.alloc _ _) | refine Ext.trans ?_ (Ext.drew _) | refine Ext.trans ?_ (Ext.drewN _ _) | refine Ext.trans ?_ (by assumption)))⟩
          rw [atIdx_some HX.out (by simp [atP, t1, t2]) HN.out]
          rfl
    · have hkl : k = l.length := by omega
      subst hkl
      clear hlt
      go_wp2
      go_ret
      refine ⟨ret_int ?_, hE⟩
      rw [atIdx_none HN.out]
      rfl

def ciaV (m : Int) (l : List Cut) (line side : Int) : Value :=
  if areCut m l && inB line 0 300 && inB side 0 1 then (match atIdx l line side with | some k => .tuple #[.int .i64 k, .bool true] | none => .tuple #[.int .i64 0, .bool false]) else .tuple #[.int .i64 0, .bool false]

theorem spec_CutInAt (m : Int) (A : Option Addr) (c : Nat) (l : List Cut) (line side : Int) (lo hi : Nat) (w : World) (hl : l.length ≤ 1048577) (hcap : l.length ≤ c) (hr : RdC w lo hi A l) :
    Calls Try.prog 26 #[.int .i64 m, .slice A l.length c, .int .i64 line, .int .i64 side] w fun e w' => e = .returned (ciaV m l line side) ∧ Ext w w' := by
  have bad : (areCut m l && inB line 0 300 && inB side 0 1) = false ∨ atIdx l line side = none → ciaV m l line side = .tuple #[.int .i64 0, .bool false] := by
    rintro (h | h)
    · simp only [ciaV, h]; rfl
    · simp only [ciaV, h]; split <;> rfl
  cases h1 : areCut m l
  · rw [bad (.inl (by simp [h1]))]; clear bad
    go_enter Try.func26, Try.ntmps26
    go_wp2_with (go_at_call 51; refine (spec_inGood m A c l lo hi _ hl hcap hr).mono ?_; rintro e w1 ⟨rfl, hE1⟩; obtain ⟨hc1, hf1⟩ := bcell hE1; have hs1 := hE1.size; (try simp only [World.size_alloc] at hs1))
    go_ret2
    exact ⟨rfl, (by repeat (first | exact Ext.refl _ | assumption | refine Ext.trans ?_ (Ext.alloc _ _) | refine Ext.trans ?_ (Ext.drew _) | refine Ext.trans ?_ (Ext.drewN _ _) | refine Ext.trans ?_ (by assumption)))⟩
  cases h2 : inB line 0 300
  · rw [bad (.inl (by simp [h2]))]; clear bad
    go_enter Try.func26, Try.ntmps26
    go_wp2_with (first | (go_at_call 51; refine (spec_inGood m A c l lo hi _ hl hcap hr).mono ?_; rintro e w1 ⟨rfl, hE1⟩; obtain ⟨hc1, hf1⟩ := bcell hE1; have hs1 := hE1.size; (try simp only [World.size_alloc] at hs1)) | (go_at_call 59; refine (inNumber_any _ _).mono ?_; rintro e w' ⟨rfl, rfl⟩))
    go_ret2
    exact ⟨rfl, (by repeat (first | exact Ext.refl _ | assumption | refine Ext.trans ?_ (Ext.alloc _ _) | refine Ext.trans ?_ (Ext.drew _) | refine Ext.trans ?_ (Ext.drewN _ _) | refine Ext.trans ?_ (by assumption)))⟩
  cases h3 : inB side 0 1
  · rw [bad (.inl (by simp [h3]))]; clear bad
    go_enter Try.func26, Try.ntmps26
    go_wp2_with (first | (go_at_call 51; refine (spec_inGood m A c l lo hi _ hl hcap hr).mono ?_; rintro e w1 ⟨rfl, hE1⟩; obtain ⟨hc1, hf1⟩ := bcell hE1; have hs1 := hE1.size; (try simp only [World.size_alloc] at hs1)) | (go_at_call 59; refine (inNumber_any _ _).mono ?_; rintro e w' ⟨rfl, rfl⟩) | (go_at_call 48; refine (l1In_any _ _ _ _).mono ?_; rintro e w' ⟨rfl, rfl⟩))
    go_ret2
    exact ⟨rfl, (by repeat (first | exact Ext.refl _ | assumption | refine Ext.trans ?_ (Ext.alloc _ _) | refine Ext.trans ?_ (Ext.drew _) | refine Ext.trans ?_ (Ext.drewN _ _) | refine Ext.trans ?_ (by assumption)))⟩
  cases h4 : atIdx l line side with
  | none =>
    rw [bad (.inr h4)]; clear bad
    have h5 : idxInt (atIdx l line side) = -1 := by rw [h4]; rfl
    clear h4
    go_enter Try.func26, Try.ntmps26
    go_wp2_with (first | (go_at_call 51; refine (spec_inGood m A c l lo hi _ hl hcap hr).mono ?_; rintro e w1 ⟨rfl, hE1⟩; obtain ⟨hc1, hf1⟩ := bcell hE1; have hs1 := hE1.size; (try simp only [World.size_alloc] at hs1)) | (go_at_call 59; refine (inNumber_any _ _).mono ?_; rintro e w' ⟨rfl, rfl⟩) | (go_at_call 48; refine (l1In_any _ _ _ _).mono ?_; rintro e w' ⟨rfl, rfl⟩) | (go_at_call 60; refine (inAt_any A c l line side lo hi _ hl (hr.ext (by assumption))).mono ?_; rintro e w2 ⟨rfl, hE2⟩; obtain ⟨hc2, hf2⟩ := bcell hE2; have hs2 := hE2.size; (try simp only [World.size_alloc] at hs2)))
    go_ret2
    exact ⟨rfl, (by repeat (first | exact Ext.refl _ | assumption | refine Ext.trans ?_ (Ext.alloc _ _) | refine Ext.trans ?_ (Ext.drew _) | refine Ext.trans ?_ (Ext.drewN _ _) | refine Ext.trans ?_ (by assumption)))⟩
  | some k =>
    have hv : ciaV m l line side = .tuple #[.int .i64 k, .bool true] := by simp [ciaV, h1, h2, h3, h4]
    rw [hv]; clear hv bad
    have h5 : idxInt (atIdx l line side) = k := by rw [h4]; rfl
    have hk := atIdx_lt h4
    clear h4
    go_enter Try.func26, Try.ntmps26
    go_wp2_with (first | (go_at_call 51; refine (spec_inGood m A c l lo hi _ hl hcap hr).mono ?_; rintro e w1 ⟨rfl, hE1⟩; obtain ⟨hc1, hf1⟩ := bcell hE1; have hs1 := hE1.size; (try simp only [World.size_alloc] at hs1)) | (go_at_call 59; refine (inNumber_any _ _).mono ?_; rintro e w' ⟨rfl, rfl⟩) | (go_at_call 48; refine (l1In_any _ _ _ _).mono ?_; rintro e w' ⟨rfl, rfl⟩))
    refine (inAt_any A c l line side lo hi _ hl (hr.ext (by assumption))).mono ?_
    rintro e w2 ⟨rfl, hE2⟩
    go_wp2_with fail
    refine (inAt_any A c l line side lo hi _ hl (hr.ext (by repeat (first | exact Ext.refl _ | assumption | refine Ext.trans ?_ (Ext.alloc _ _) | refine Ext.trans ?_ (Ext.drew _) | refine Ext.trans ?_ (Ext.drewN _ _) | refine Ext.trans ?_ (by assumption))))).mono ?_
    rintro e w3 ⟨rfl, hE3⟩
    go_wp2_with fail
    go_ret2
    exact ⟨rfl, (by repeat (first | exact Ext.refl _ | assumption | refine Ext.trans ?_ (Ext.alloc _ _) | refine Ext.trans ?_ (Ext.drew _) | refine Ext.trans ?_ (Ext.drewN _ _) | refine Ext.trans ?_ (by assumption)))⟩

theorem impl_CutInAt (m : Int) (A : Option Addr) (c : Nat) (l : List Cut) (line side : Int) (lo hi : Nat) (w : World) (hl : l.length ≤ 1048577) (hcap : l.length ≤ c) (hr : RdC w lo hi A l) :
    Calls Try.prog 27 #[.int .i64 m, .slice A l.length c, .int .i64 line, .int .i64 side] w fun e w' => e = .returned (ciaV m l line side) ∧ Ext w w' := by
  have bad : (areCut m l && inB line 0 300 && inB side 0 1) = false ∨ atIdx l line side = none → ciaV m l line side = .tuple #[.int .i64 0, .bool false] := by
    rintro (h | h)
    · simp only [ciaV, h]; rfl
    · simp only [ciaV, h]; split <;> rfl
  cases h1 : areCut m l
  · rw [bad (.inl (by simp [h1]))]; clear bad
    go_enter Try.func27, Try.ntmps27
    go_wp2_with (go_at_call 19; refine (impl_AreCutIns m A c l lo hi _ hl hcap hr).mono ?_; rintro e w1 ⟨rfl, hE1⟩; obtain ⟨hc1, hf1⟩ := bcell hE1; have hs1 := hE1.size; (try simp only [World.size_alloc] at hs1))
    go_ret2
    exact ⟨rfl, (by repeat (first | exact Ext.refl _ | assumption | refine Ext.trans ?_ (Ext.alloc _ _) | refine Ext.trans ?_ (Ext.drew _) | refine Ext.trans ?_ (Ext.drewN _ _) | refine Ext.trans ?_ (by assumption)))⟩
  cases h2 : inB line 0 300
  · rw [bad (.inl (by simp [h2]))]; clear bad
    go_enter Try.func27, Try.ntmps27
    go_wp2_with (first | (go_at_call 19; refine (impl_AreCutIns m A c l lo hi _ hl hcap hr).mono ?_; rintro e w1 ⟨rfl, hE1⟩; obtain ⟨hc1, hf1⟩ := bcell hE1; have hs1 := hE1.size; (try simp only [World.size_alloc] at hs1)) | (go_at_call 61; refine (isLineNumber_any _ _).mono ?_; rintro e w' ⟨rfl, rfl⟩))
    go_ret2
    exact ⟨rfl, (by repeat (first | exact Ext.refl _ | assumption | refine Ext.trans ?_ (Ext.alloc _ _) | refine Ext.trans ?_ (Ext.drew _) | refine Ext.trans ?_ (Ext.drewN _ _) | refine Ext.trans ?_ (by assumption)))⟩
  cases h3 : inB side 0 1
  · rw [bad (.inl (by simp [h3]))]; clear bad
    go_enter Try.func27, Try.ntmps27
    go_wp2_with (first | (go_at_call 19; refine (impl_AreCutIns m A c l lo hi _ hl hcap hr).mono ?_; rintro e w1 ⟨rfl, hE1⟩; obtain ⟨hc1, hf1⟩ := bcell hE1; have hs1 := hE1.size; (try simp only [World.size_alloc] at hs1)) | (go_at_call 61; refine (isLineNumber_any _ _).mono ?_; rintro e w' ⟨rfl, rfl⟩) | (go_at_call 62; refine (isSide_any _ _).mono ?_; rintro e w' ⟨rfl, rfl⟩))
    go_ret2
    exact ⟨rfl, (by repeat (first | exact Ext.refl _ | assumption | refine Ext.trans ?_ (Ext.alloc _ _) | refine Ext.trans ?_ (Ext.drew _) | refine Ext.trans ?_ (Ext.drewN _ _) | refine Ext.trans ?_ (by assumption)))⟩
  have good : ∀ k : Nat, atIdx l line side = some k → ciaV m l line side = .tuple #[.int .i64 k, .bool true] := fun k hk => by simp [ciaV, h1, h2, h3, hk]
  have BAD := Lib.hid bad; clear bad
  have GOOD := Lib.hid good; clear good
  go_enter Try.func27, Try.ntmps27
  go_wp2_with (first | (go_at_call 19; refine (impl_AreCutIns m A c l lo hi _ hl hcap hr).mono ?_; rintro e w1 ⟨rfl, hE1⟩; obtain ⟨hc1, hf1⟩ := bcell hE1; have hs1 := hE1.size; (try simp only [World.size_alloc] at hs1)) | (go_at_call 61; refine (isLineNumber_any _ _).mono ?_; rintro e w' ⟨rfl, rfl⟩) | (go_at_call 62; refine (isSide_any _ _).mono ?_; rintro e w' ⟨rfl, rfl⟩))
  clear hc1 hf1 h1 h2 h3
  go_loopw [28] (fun i wr => ∃ k : Nat, k ≤ l.length ∧ i = .int .i64 k ∧ (∀ (j : Nat) y, j < k → l[j]? = some y → atP line side y = false) ∧ Ext w wr) (fun i _ => l.length - (intOf i).toNat)
  case atStart => exact ⟨0, Nat.zero_le _, rfl, fun j y hj => absurd hj (by omega), hE1⟩
  case round =>
    obtain ⟨k, hk, rfl, hn, hE⟩ := hrel
    have HN := Lib.hid hn; clear hn
    by_cases hlt : k < l.length
    · obtain ⟨x, b, off, HX, rfl, h1, h2, h3, c0, c1, c2, c3⟩ := RdC.get (hr.ext hE) hlt
      have fin : atP line side x = false → ∀ (j : Nat) y, j < k + 1 → l[j]? = some y → atP line side y = false := by
        intro hp j y hj hy
        by_cases e : j = k
        · subst e; have := HX.out.symm.trans hy; injection this with this; subst this; exact hp
        · exact HN.out j y (by omega) hy
      have FIN := Lib.hid fin; clear fin
      cases t1 : (x.side == side)
      · go_wp2
        go_roundw
        case rel => exact ⟨k + 1, by omega, by go_num, FIN.out (by simp [atP, t1]), (by repeat (first | exact Ext.refl _ | assumption | refine Ext.trans ?_ (Ext.alloc _ _) | refine Ext.trans ?_ (Ext.drew _) | refine Ext.trans ?_ (Ext.drewN _ _) | refine Ext.trans ?_ (by assumption)))⟩
        case measure => simp [intOf]; omega
      · cases t2 : beside x line
        · go_wp2_with (go_at_call 63; refine (isBeside_c x line _).mono ?_; rintro e w2 ⟨rfl, hE2⟩; obtain ⟨hc2, hf2⟩ := bcell hE2; have hs2 := hE2.size; (try simp only [World.size_alloc] at hs2))
          go_roundw
          case rel => exact ⟨k + 1, by omega, by go_num, FIN.out (by simp [atP, t2]), (by repeat (first | exact Ext.refl _ | assumption | refine Ext.trans ?_ (Ext.alloc _ _) | refine Ext.trans ?_ (Ext.drew _) | refine Ext.trans ?_ (Ext.drewN _ _) | refine Ext.trans ?_ (by assumption)))⟩
          case measure => simp [intOf]; omega
        · go_wp2_with (go_at_call 63; refine (isBeside_c x line _).mono ?_; rintro e w2 ⟨rfl, hE2⟩; obtain ⟨hc2, hf2⟩ := bcell hE2; have hs2 := hE2.size; (try simp only [World.size_alloc] at hs2))
          go_ret2
          refine ⟨?_, (by repeat (first | exact Ext.refl _ | assumption | refine Ext.trans ?_ (Ext.alloc _ _) | refine Ext.trans ?_ (Ext.drew _) | refine Ext.trans ?_ (Ext.drewN _ _) | refine Ext.trans ?_ (by assumption)))⟩
          rw [GOOD.out k (atIdx_some HX.out (by simp [atP, t1, t2]) HN.out)]
          rfl
    · have hkl : k = l.length := by omega
      subst hkl
      clear hlt
      go_wp2
      go_ret2
      refine ⟨?_, hE⟩
      rw [BAD.out (.inr (atIdx_none HN.out))]
      rfl

def lfV (m : Int) (l : List Cut) (sum : Int) : Value :=
  if areCut m l && inB sum 0 100000 then (match lfIdx m l sum with | some k => .tuple #[.int .i64 k, .bool true] | none => .tuple #[.int .i64 0, .bool false]) else .tuple #[.int .i64 0, .bool false]
theorem lfV_bad {m : Int} {l : List Cut} {sum : Int} (h : (areCut m l && inB sum 0 100000) = false ∨ lfIdx m l sum = none) : lfV m l sum = .tuple #[.int .i64 0, .bool false] := by
  rcases h with h | h
  · simp only [lfV, h]; rfl
  · simp only [lfV, h]; split <;> rfl
theorem lfV_good {m : Int} {l : List Cut} {sum : Int} {k : Nat} (h1 : areCut m l = true) (h2 : inB sum 0 100000 = true) (h : lfIdx m l sum = some k) : lfV m l sum = .tuple #[.int .i64 k, .bool true] := by
  simp only [lfV, h, h1, h2]; rfl

theorem spec_LinesFor (m : Int) (A : Option Addr) (c : Nat) (l : List Cut) (sum : Int) (lo hi : Nat) (w : World) (hl : l.length ≤ 1048577) (hcap : l.length ≤ c) (hr : RdC w lo hi A l) :
    Calls Try.prog 21 #[.int .i64 m, .slice A l.length c, .int .i64 sum] w fun e w' => e = .returned (lfV m l sum) ∧ Ext w w' := by
  cases h1 : areCut m l
  · rw [lfV_bad (.inl (by simp [h1]))]
    go_enter Try.func21, Try.ntmps21
    go_wp2_with (go_at_call 51; refine (spec_inGood m A c l lo hi _ hl hcap hr).mono ?_; rintro e w1 ⟨rfl, hE1⟩; obtain ⟨hc1, hf1⟩ := bcell hE1; have hs1 := hE1.size; (try simp only [World.size_alloc] at hs1))
    go_ret2
    exact ⟨rfl, (by repeat (first | exact Ext.refl _ | assumption | refine Ext.trans ?_ (Ext.alloc _ _) | refine Ext.trans ?_ (Ext.drew _) | refine Ext.trans ?_ (Ext.drewN _ _) | refine Ext.trans ?_ (by assumption)))⟩
  cases h2 : inB sum 0 100000
  · rw [lfV_bad (.inl (by simp [h2]))]
    go_enter Try.func21, Try.ntmps21
    go_wp2_with (first | (go_at_call 51; refine (spec_inGood m A c l lo hi _ hl hcap hr).mono ?_; rintro e w1 ⟨rfl, hE1⟩; obtain ⟨hc1, hf1⟩ := bcell hE1; have hs1 := hE1.size; (try simp only [World.size_alloc] at hs1)) | (go_at_call 48; refine (l1In_any _ _ _ _).mono ?_; rintro e w' ⟨rfl, rfl⟩))
    go_ret2
    exact ⟨rfl, (by repeat (first | exact Ext.refl _ | assumption | refine Ext.trans ?_ (Ext.alloc _ _) | refine Ext.trans ?_ (Ext.drew _) | refine Ext.trans ?_ (Ext.drewN _ _) | refine Ext.trans ?_ (by assumption)))⟩
  obtain ⟨s1, s2⟩ := inB_iff.1 h2
  go_enter Try.func21, Try.ntmps21
  go_wp2_with (first | (go_at_call 51; refine (spec_inGood m A c l lo hi _ hl hcap hr).mono ?_; rintro e w1 ⟨rfl, hE1⟩; obtain ⟨hc1, hf1⟩ := bcell hE1; have hs1 := hE1.size; (try simp only [World.size_alloc] at hs1)) | (go_at_call 48; refine (l1In_any _ _ _ _).mono ?_; rintro e w' ⟨rfl, rfl⟩))
  have H1 := Lib.hid h1; clear h1
  have H2 := Lib.hid h2; clear h2 hc1 hf1
  go_loopw [2, 8] (fun s i wr => ∃ (k : Nat) (t : Int), k ≤ 301 ∧ i = .int .i64 k ∧ s = .int .i64 (sum - t) ∧ t = msum m l k ∧ (∀ i, i < k → msum m l i < sum) ∧ Ext w wr) (fun _ i _ => 301 - (intOf i).toNat)
  case atStart => exact ⟨0, 0, Nat.zero_le _, rfl, by simp, rfl, fun i hi => absurd hi (by omega), hE1⟩
  case round =>
    obtain ⟨k, t, hk, rfl, rfl, ht, hn, hE⟩ := hrel
    have HT := Lib.hid ht; clear ht
    have HN := Lib.hid hn; clear hn
    have hm := meas_room H1.out k
    have ht0 : 0 ≤ t := by rw [HT.out]; have := sumTo_ge (fun i => meas m l i) 40 (fun i => (meas_room H1.out i).1) k; unfold msum; omega
    have ht1 : t ≤ 600 * k := by rw [HT.out]; exact sumTo_le (fun i => meas m l i) 600 (fun i => by have := meas_room H1.out i; omega) k
    by_cases hlt : k ≤ 300
    · by_cases hs : sum ≤ t
      · go_wp2
        go_ret2
        refine ⟨?_, hE⟩
        rw [lfV_good H1.out H2.out (lfIdx_some hlt (by rw [← HT.out]; exact hs) HN.out)]
        rfl
      · go_wp2_with (go_at_call 56; refine (inMeasure_any m A c l k lo hi _ hl (hr.ext hE)).mono ?_; rintro e w2 ⟨rfl, hE2⟩; obtain ⟨hc2, hf2⟩ := bcell hE2; have hs2 := hE2.size; (try simp only [World.size_alloc] at hs2))
        go_roundw
        case rel => exact ⟨k + 1, t + meas m l k, by omega, by go_num, val_int (by omega), by rw [HT.out]; unfold msum; rw [sumTo_succ], fun i hi => (by
            by_cases e : i = k
            · subst e; rw [← HT.out]; omega
            · exact HN.out i (by omega)), (by repeat (first | exact Ext.refl _ | assumption | refine Ext.trans ?_ (Ext.alloc _ _) | refine Ext.trans ?_ (Ext.drew _) | refine Ext.trans ?_ (Ext.drewN _ _) | refine Ext.trans ?_ (by assumption)))⟩
        case measure => simp [intOf]; omega
    · have hk1 : k = 301 := by omega
      subst hk1
      clear hlt
      go_wp2
      go_ret2
      refine ⟨?_, hE⟩
      rw [lfV_bad (.inr (lfIdx_none (k := 301) (by omega) HN.out))]
      rfl

theorem impl_LinesFor (m : Int) (A : Option Addr) (c : Nat) (l : List Cut) (sum : Int) (lo hi : Nat) (w : World) (hl : l.length ≤ 1048577) (hcap : l.length ≤ c) (hr : RdC w lo hi A l) :
    Calls Try.prog 22 #[.int .i64 m, .slice A l.length c, .int .i64 sum] w fun e w' => e = .returned (lfV m l sum) ∧ Ext w w' := by
  cases h1 : areCut m l
  · rw [lfV_bad (.inl (by simp [h1]))]
    go_enter Try.func22, Try.ntmps22
    go_wp2_with (go_at_call 19; refine (impl_AreCutIns m A c l lo hi _ hl hcap hr).mono ?_; rintro e w1 ⟨rfl, hE1⟩; obtain ⟨hc1, hf1⟩ := bcell hE1; have hs1 := hE1.size; (try simp only [World.size_alloc] at hs1))
    go_ret2
    exact ⟨rfl, (by repeat (first | exact Ext.refl _ | assumption | refine Ext.trans ?_ (Ext.alloc _ _) | refine Ext.trans ?_ (Ext.drew _) | refine Ext.trans ?_ (Ext.drewN _ _) | refine Ext.trans ?_ (by assumption)))⟩
  cases h2 : inB sum 0 100000
  · rw [lfV_bad (.inl (by simp [h2]))]
    go_enter Try.func22, Try.ntmps22
    go_wp2_with (first | (go_at_call 19; refine (impl_AreCutIns m A c l lo hi _ hl hcap hr).mono ?_; rintro e w1 ⟨rfl, hE1⟩; obtain ⟨hc1, hf1⟩ := bcell hE1; have hs1 := hE1.size; (try simp only [World.size_alloc] at hs1)) | (go_at_call 49; refine (within_any _ _ _ _).mono ?_; rintro e w' ⟨rfl, rfl⟩))
    go_ret2
    exact ⟨rfl, (by repeat (first | exact Ext.refl _ | assumption | refine Ext.trans ?_ (Ext.alloc _ _) | refine Ext.trans ?_ (Ext.drew _) | refine Ext.trans ?_ (Ext.drewN _ _) | refine Ext.trans ?_ (by assumption)))⟩
  obtain ⟨s1, s2⟩ := inB_iff.1 h2
  go_enter Try.func22, Try.ntmps22
  go_wp2_with (first | (go_at_call 19; refine (impl_AreCutIns m A c l lo hi _ hl hcap hr).mono ?_; rintro e w1 ⟨rfl, hE1⟩; obtain ⟨hc1, hf1⟩ := bcell hE1; have hs1 := hE1.size; (try simp only [World.size_alloc] at hs1)) | (go_at_call 49; refine (within_any _ _ _ _).mono ?_; rintro e w' ⟨rfl, rfl⟩))
  have H1 := Lib.hid h1; clear h1
  have H2 := Lib.hid h2; clear h2 hc1 hf1
  go_loopw [2, 8] (fun s i wr => ∃ (k : Nat) (t : Int), 40 * k ≤ t ∧ t ≤ 101000 ∧ i = .int .i64 k ∧ s = .int .i64 (sum - t) ∧ t = msum m l k ∧ (∀ i, i < k → msum m l i < sum) ∧ Ext w wr) (fun s _ _ => (intOf s).toNat)
  case atStart => exact ⟨0, 0, by omega, by omega, rfl, by simp, rfl, fun i hi => absurd hi (by omega), hE1⟩
  case round =>
    obtain ⟨k, t, ht0, ht1, rfl, rfl, ht, hn, hE⟩ := hrel
    have HT := Lib.hid ht; clear ht
    have HN := Lib.hid hn; clear hn
    have hm := meas_room H1.out k
    by_cases hs : t < sum
    · go_wp2_with (go_at_call 53; refine (measureAt_any m A c l k lo hi _ hl (hr.ext hE)).mono ?_; rintro e w2 ⟨rfl, hE2⟩; obtain ⟨hc2, hf2⟩ := bcell hE2; have hs2 := hE2.size; (try simp only [World.size_alloc] at hs2))
      go_roundw
      case rel => exact ⟨k + 1, t + meas m l k, by omega, by omega, by go_num, val_int (by omega), by rw [HT.out]; unfold msum; rw [sumTo_succ], fun i hi => (by
            by_cases e : i = k
            · subst e; rw [← HT.out]; omega
            · exact HN.out i (by omega)), (by repeat (first | exact Ext.refl _ | assumption | refine Ext.trans ?_ (Ext.alloc _ _) | refine Ext.trans ?_ (Ext.drew _) | refine Ext.trans ?_ (Ext.drewN _ _) | refine Ext.trans ?_ (by assumption)))⟩
      case measure => simp [intOf]; omega
    · by_cases hk : k ≤ 300
      · go_wp2
        go_ret2
        refine ⟨?_, hE⟩
        rw [lfV_good H1.out H2.out (lfIdx_some hk (by rw [← HT.out]; omega) HN.out)]
        rfl
      · go_wp2
        go_ret2
        refine ⟨?_, hE⟩
        rw [lfV_bad (.inr (lfIdx_none (k := k) (by omega) HN.out))]
        rfl

theorem loiV_form (a b c : Int) : ∃ x y z, loiV a b c = .tuple #[.int .i64 x, .int .i64 y, .bool z] := by unfold loiV; split <;> exact ⟨_, _, _, rfl⟩
theorem ciaV_form (m : Int) (l : List Cut) (a b : Int) : ∃ x z, ciaV m l a b = .tuple #[.int .i64 x, .bool z] := by unfold ciaV; (repeat' split) <;> exact ⟨_, _, rfl⟩
theorem lfV_form (m : Int) (l : List Cut) (a : Int) : ∃ x z, lfV m l a = .tuple #[.int .i64 x, .bool z] := by unfold lfV; (repeat' split) <;> exact ⟨_, _, rfl⟩
end Go.Proofs.Ytllgjgoimnimaaa
