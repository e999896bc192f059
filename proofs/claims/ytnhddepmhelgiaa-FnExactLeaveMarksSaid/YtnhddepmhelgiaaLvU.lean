/- LeaveMarks: the reference's walk. -/
import Derived.Test.YtnhddepmhelgiaaLvT
namespace Go.Proofs.Ytnhddepmhelgiaa
open Go.RowKit
set_option linter.unusedVariables false
theorem mx_most (n : Int) : most 0 n = mx0 n := by unfold most mx0; split <;> split <;> omega
theorem lvC_len {ls : List (List Int)} : ∀ (k : Nat) (ms : List Nat), (lvC ls k ms).1.length ≤ k + ms.length
  | 0, ms => by show ms.length ≤ _; omega
  | k + 1, ms => by
    have key : ∀ t, (lvT (fun i => lvC ls k (ms ++ [i])) (lvN ms) ([], -1) t).1.length ≤ k + 1 + ms.length := by
      intro t
      induction t with
      | zero => simp [lvT]
      | succ t ih =>
        show (lvU _ _).1.length ≤ _
        unfold lvU
        split
        · have := lvC_len (ls := ls) k (ms ++ [lvN ms + t])
          simp only [List.length_append, List.length_cons, List.length_nil] at this ⊢
          omega
        · exact ih
    exact key _
theorem lvP_len (ls : List (List Int)) (k : Int) : (lvP ls k).1.length ≤ 4000000 := by
  cases h : lvOk ls k
  · rw [lvP_bad h]; simp
  · rw [lvP_good h, iL_len]
    have h1 := lvC_len (ls := ls) k.toNat []
    simp only [lvOk, Bool.and_eq_true] at h
    have := inB_iff.1 h.2.1
    simp only [List.length_nil] at h1
    omega
theorem spec_LeaveMarks (A : Option Addr) (c : Nat) (ls : List (List Int)) (k : Int) (lo hi : Nat) (w : World) (hl : ls.length ≤ 1048577) (hb : ∀ l ∈ ls, l.length ≤ 1048577) (hcap : ls.length ≤ c) (hr : RdII w lo hi A ls) :
    Calls Try.prog 33 #[.slice A ls.length c, .int .i64 k] w (RetI3 w (lvP ls k)) := by
  cases h : par ls
  · rw [lvP_bad (by rw [lvOk_eq, h]; rfl)]
    go_enter Try.func33, Try.ntmps33
    go_wp2_with fail
    refine (spec_plGood A c ls lo hi _ hl hb hr).mono ?_
    rintro e w1 ⟨rfl, hE1⟩
    rw [h]
    go_wp2_with fail
    go_ret3
    exact retI3_lit hE1
  cases h2 : inB k 0 4
  · rw [lvP_bad (by rw [lvOk_eq, h, h2]; rfl)]
    go_enter Try.func33, Try.ntmps33
    go_wp2_with fail
    refine (spec_plGood A c ls lo hi _ hl hb hr).mono ?_
    rintro e w1 ⟨rfl, hE1⟩
    rw [h]
    go_wp2_with (go_at_call 64; refine (l1In_any _ _ _ _).mono ?_; rintro e w' ⟨rfl, rfl⟩)
    go_ret3
    exact retI3_lit hE1
  have hkb := inB_iff.1 h2
  have h24 := par_len h
  have q1 : IntKind.i64.wrap ((ls.length : Int) - 1) = (ls.length : Int) - 1 := IntWalk.i64_in _ (by omega)
  obtain ⟨M, hM⟩ : ∃ M, M = most 0 ((ls.length : Int) - 1) := ⟨_, rfl⟩
  have hMx : M = mx0 ((ls.length : Int) - 1) := by rw [hM, mx_most]
  have HMM := Lib.hid hM
  clear hM
  by_cases h3 : k ≤ M
  case neg =>
    rw [lvP_bad (by rw [lvOk_eq, h, h2, ← hMx, decide_eq_false h3]; rfl)]
    clear hMx
    go_enter Try.func33, Try.ntmps33
    go_wp2_with fail
    refine (spec_plGood A c ls lo hi _ hl hb hr).mono ?_
    rintro e w1 ⟨rfl, hE1⟩
    rw [h]
    go_wp2_with (go_at_call 64; refine (l1In_any _ _ _ _).mono ?_; rintro e w' ⟨rfl, rfl⟩)
    refine (l1Most_any _ _ _).mono ?_
    rintro e w_ ⟨rfl, rfl⟩
    rw [← HMM.out]
    go_wp2_with fail
    go_ret3
    exact retI3_lit hE1
  obtain ⟨kk, rfl⟩ : ∃ kk : Nat, k = kk := ⟨k.toNat, by omega⟩
  have hok : lvOk ls kk = true := by rw [lvOk_eq, h, h2, ← hMx, decide_eq_true h3]; rfl
  rw [lvP_good hok]
  have HP := Lib.hid h
  clear hMx hok
  go_enter Try.func33, Try.ntmps33
  go_wp2_with fail
  refine (spec_plGood A c ls lo hi _ hl hb hr).mono ?_
  rintro e w1 ⟨rfl, hE1⟩
  rw [h]
  go_wp2_with (go_at_call 64; refine (l1In_any _ _ _ _).mono ?_; rintro e w' ⟨rfl, rfl⟩)
  refine (l1Most_any _ _ _).mono ?_
  rintro e w_ ⟨rfl, rfl⟩
  rw [← HMM.out]
  go_wp2_with fail
  refine (spec_plChoose A c ls _ HP.out hcap kk 0 [] none 0 w1.heap.size w1 rfl (Nat.le_refl _) (by omega) (LvM.nil _) (Nat.le_refl _) (hr.ext hE1).toAA ⟨Nat.le_refl _, fun h => absurd rfl h⟩).mono ?_
  rintro e w2 ⟨A2, c2, rfl, hc2, hR2, hE2⟩
  have hs1 := hE1.size
  go_wp2_with fail
  go_ret3
  exact ⟨A2, c2, by rw [iL_len]; rfl, by rw [iL_len]; exact hc2, RdI.wideTop hR2 hs1 (Ext.refl _), hE1.trans hE2⟩
end Go.Proofs.Ytnhddepmhelgiaa
