/- The walks of LigaturesIn: the program's and the reference's. -/
import Derived.Test.YtnkkpphjahpadaaFoB
import Derived.Test.YtnkkpphjahpadaaMarkT
namespace Go.Proofs.Ytnkkpphjahpadaa
open Go.RowKit
set_option linter.unusedVariables false
def ligOf (f : List Srt) (x : Int) : Option ByteArray := match f[x.toNat]? with | some s => if 1 < s.code.size then some s.code else none | none => none
def ligs (f : List Srt) (xs : List Int) : List ByteArray := xs.filterMap (ligOf f)
theorem ligs_yes {f : List Srt} {xs : List Int} {k i : Nat} {s : Srt} (hx : xs[k]? = some (i : Int)) (hs : f[i]? = some s) (h : 1 < s.code.size) : ligs f (xs.take (k + 1)) = ligs f (xs.take k) ++ [s.code] := by
  rw [ligs, take_snoc hx]; simp [ligs, ligOf, hs, h]
theorem ligs_no {f : List Srt} {xs : List Int} {k i : Nat} {s : Srt} (hx : xs[k]? = some (i : Int)) (hs : f[i]? = some s) (h : ¬ 1 < s.code.size) : ligs f (xs.take (k + 1)) = ligs f (xs.take k) := by
  rw [ligs, take_snoc hx]; simp [ligs, ligOf, hs, h]
theorem ligs_len (f : List Srt) (xs : List Int) : (ligs f xs).length ≤ xs.length := List.length_filterMap_le _ _
def liP (f : List Srt) (word : ByteArray) : List ByteArray × Bool := (ligs f (swP f word).1, (swP f word).2)
theorem liP_len (f : List Srt) (word : ByteArray) : (liP f word).1.length ≤ 4000000 := Nat.le_trans (ligs_len _ _) (swP_len f word)
theorem swP_in (f : List Srt) (word : ByteArray) : ∀ x ∈ (swP f word).1, 0 ≤ x ∧ x < f.length := by
  cases h : asked f word
  · rw [swP_bad h]; intro x hx; simp at hx
  · rw [swP_good h]; exact setP_in f word
/-- A fresh []string and a bool. -/
def RetT2 (w : World) (p : List ByteArray × Bool) (e : Ending) (w' : World) : Prop := ∃ A c, e = .returned (.tuple #[.slice A p.1.length c, .bool p.2]) ∧ p.1.length ≤ c ∧ RdT w' w.heap.size w'.heap.size A p.1 ∧ Ext w w'
theorem retT2_lit {w w' : World} {a : Option Addr} {c : Nat} (hE : Ext w w') : RetT2 w ([], false) (.returned (.tuple #[.slice a 0 c, .bool false])) w' := ⟨a, c, rfl, Nat.zero_le _, Rd.nil (Nat.le_refl _), hE⟩
theorem impl_LigaturesIn (A : Option Addr) (c : Nat) (f : List Srt) (word : ByteArray) (lo hi : Nat) (w : World) (hl : f.length ≤ 1048577) (hb : ∀ s ∈ f, s.code.size ≤ 1048577) (hw : word.size ≤ 1048577) (hr : RdS w lo hi A f) :
    Calls Try.prog 18 #[.slice A f.length c, .string word] w (RetT2 w (liP f word)) := by
  obtain ⟨xs, hxs⟩ : ∃ xs, xs = (swP f word).1 := ⟨_, rfl⟩
  obtain ⟨ok, hok⟩ : ∃ ok, ok = (swP f word).2 := ⟨_, rfl⟩
  have HIN : Hid (∀ x ∈ xs, 0 ≤ x ∧ x < f.length) := by show ∀ x ∈ xs, _; rw [hxs]; exact swP_in f word
  have hxl : xs.length ≤ 4000000 := by rw [hxs]; exact swP_len f word
  have HV : Hid (liP f word = (ligs f xs, ok)) := by show _ = _; rw [liP, ← hxs, ← hok]
  have HB := Lib.hid hb
  rw [HV.out]
  go_enter Try.func18, Try.ntmps18
  go_wp2_with fail
  refine (impl_SortsOfWord A c f word lo hi _ hl hb hw hr).mono ?_
  rintro e w1 ⟨A1, c1, rfl, hc1, hR1, hE1⟩
  rw [← hxs] at hc1 hR1 ⊢
  rw [← hok]
  clear hxs hok hb HV
  have hz1 := hE1.size
  go_wp2_with fail
  go_loopw [8, 20] (fun v j wr => ∃ k : Nat, k ≤ xs.length ∧ j = .int .i64 k ∧ wr.ownsRow w1.heap.size 9 1 v (ligs f (xs.take k)).length ((ligs f (xs.take k)).map Value.string) ∧ Ext w1 wr) (fun _ j _ => xs.length - (intOf j).toNat)
  case atStart => exact ⟨0, Nat.zero_le _, rfl, own_lit0 _ _ (Nat.le_refl _) (Ext.refl _), (by repeat (first | exact Ext.refl _ | assumption | refine Ext.trans ?_ (Ext.alloc _ _) | refine Ext.trans ?_ (Ext.drew _) | refine Ext.trans ?_ (Ext.drewN _ _) | refine Ext.trans ?_ (by assumption)))⟩
  case round =>
    obtain ⟨k, hk, rfl, hown, hE⟩ := hrel
    by_cases hlt : k < xs.length
    · have hll : (ligs f (xs.take k)).length ≤ k := Nat.le_trans (ligs_len _ _) (by simp; omega)
      obtain ⟨x, b, off, HX, rfl, _, _, h3, c0, _⟩ := RdI.get (hR1.ext hE) hlt
      obtain ⟨x1, x2⟩ := HIN.out x (List.mem_of_getElem? HX.out)
      obtain ⟨i, rfl⟩ : ∃ i : Nat, x = i := ⟨x.toNat, by omega⟩
      obtain ⟨s, b', off', HS, eA, h4, d0, d1⟩ := RdS.get (hr.ext (hE1.trans hE)) (k := i) (by omega)
      subst eA
      have hsz := HB.out s (List.mem_of_getElem? HS.out)
      by_cases h1 : 1 < s.code.size
      · have HN : Hid (ligs f (xs.take (k + 1)) = ligs f (xs.take k) ++ [s.code]) := ligs_yes HX.out HS.out h1
        go_wp2_with ((at_builtin; refine wp_app _ w1 rfl (.tmp 31) (.tmp 37) 24 rfl 9 _ 1 16 Try.underlying24 strInfo rfl (by omega) _ _ _ rfl (ownsRow_ext hown (Ext.alloc _ _)) (hE.trans (Ext.alloc _ _)) _ _ _ 1 1 [.string s.code] rfl rfl (rdA_new rfl (Ext.refl _)) (by simp [Value.oneCell']) (by omega) (by simp) ?_; intro v4 w4 hown4 hE4 hg4 hat4))
        go_roundw
        case rel => exact ⟨k + 1, by omega, by go_num, by rw [HN.out, List.length_append, List.map_append]; exact hown4, hE4⟩
        case measure => simp [intOf]; omega
      · have HN : Hid (ligs f (xs.take (k + 1)) = ligs f (xs.take k)) := ligs_no HX.out HS.out h1
        go_wp2
        go_roundw
        case rel => exact ⟨k + 1, by omega, by go_num, by rw [HN.out]; exact hown, hE⟩
        case measure => simp [intOf]; omega
    · have hkl : k = xs.length := by omega
      subst hkl
      clear hlt
      rw [List.take_of_length_le (Nat.le_refl _)] at hown
      obtain ⟨A', c', rfl, hc', _⟩ := own_form hown
      have hRR := Rd.of_own hown
      go_wp2
      go_ret2
      exact ⟨A', c', rfl, hc', hRR.wide hz1 (Nat.le_refl _) (Nat.le_refl _), hE1.trans hE⟩
theorem spec_LigaturesIn (A : Option Addr) (c : Nat) (f : List Srt) (word : ByteArray) (lo hi : Nat) (w : World) (hl : f.length ≤ 1048577) (hb : ∀ s ∈ f, s.code.size ≤ 1048577) (hw : word.size ≤ 1048577) (hr : RdS w lo hi A f) :
    Calls Try.prog 16 #[.slice A f.length c, .string word] w (RetT2 w (liP f word)) := by
  cases h : asked f word
  · rw [liP, swP_bad h]
    go_enter Try.func16, Try.ntmps16
    go_wp2_with (go_at_call 61; refine (spec_tyAsked A c f word lo hi _ hl hb hw hr).mono ?_; rintro e w1 ⟨rfl, hE1⟩; obtain ⟨hc1, hf1⟩ := bcell hE1; have hs1 := hE1.size; (try simp only [World.size_alloc] at hs1))
    go_ret2
    exact retT2_lit (by repeat (first | exact Ext.refl _ | assumption | refine Ext.trans ?_ (Ext.alloc _ _) | refine Ext.trans ?_ (Ext.drew _) | refine Ext.trans ?_ (Ext.drewN _ _) | refine Ext.trans ?_ (by assumption)))
  obtain ⟨hf, hw1, hw2⟩ := asked_parts h
  obtain ⟨xs, hxs⟩ : ∃ xs, xs = (setP f word).1 := ⟨_, rfl⟩
  obtain ⟨ok, hok⟩ : ∃ ok, ok = (setP f word).2 := ⟨_, rfl⟩
  have HIN : Hid (∀ x ∈ xs, 0 ≤ x ∧ x < f.length) := by show ∀ x ∈ xs, _; rw [hxs]; exact setP_in f word
  have hxl : xs.length ≤ 4000000 := by rw [hxs]; have := setP_len hf word; omega
  have HV : Hid (liP f word = (ligs f xs, ok)) := by show _ = _; rw [liP, swP_good h, ← hxs, ← hok]
  have HOK : Hid (ok = false → xs = []) := fun e => by rw [hxs]; exact setF_false f _ _ _ (by rw [← e, hok]; rfl)
  have HB := Lib.hid hb
  rw [HV.out]
  go_enter Try.func16, Try.ntmps16
  go_wp2_with (go_at_call 61; refine (spec_tyAsked A c f word lo hi _ hl hb hw hr).mono ?_; rintro e w1 ⟨rfl, hE1⟩; obtain ⟨hc1, hf1⟩ := bcell hE1; have hs1 := hE1.size; (try simp only [World.size_alloc] at hs1))
  refine (spec_tySet A c f word lo hi _ hf hw2 (hr.ext hE1)).mono ?_
  rintro e w2 ⟨A1, c1, rfl, hc1', hR1, hE2'⟩
  have hE2 := hE1.trans hE2'
  rw [← hxs] at hc1' hR1 ⊢
  rw [← hok]
  clear hxs hok hb HV hc1 hf1 h
  have hz1 := hE2.size
  cases ok
  · have hx0 := HOK.out rfl
    have HX0 : Hid (ligs f xs = []) := by show _ = _; rw [hx0]; rfl
    clear hx0
    go_wp2_with fail
    go_ret2
    rw [HX0.out]
    exact retT2_lit (by repeat (first | exact Ext.refl _ | assumption | refine Ext.trans ?_ (Ext.alloc _ _) | refine Ext.trans ?_ (Ext.drew _) | refine Ext.trans ?_ (Ext.drewN _ _) | refine Ext.trans ?_ (by assumption)))
  · go_wp2_with fail
    go_loopw [8, 25] (fun v j wr => ∃ k : Nat, k ≤ xs.length ∧ j = .int .i64 k ∧ wr.ownsRow w2.heap.size 9 1 v (ligs f (xs.take k)).length ((ligs f (xs.take k)).map Value.string) ∧ Ext w2 wr) (fun _ j _ => xs.length - (intOf j).toNat)
    case atStart => exact ⟨0, Nat.zero_le _, rfl, own_nil _ _ _ _, (by repeat (first | exact Ext.refl _ | assumption | refine Ext.trans ?_ (Ext.alloc _ _) | refine Ext.trans ?_ (Ext.drew _) | refine Ext.trans ?_ (Ext.drewN _ _) | refine Ext.trans ?_ (by assumption)))⟩
    case round =>
      obtain ⟨k, hk, rfl, hown, hE⟩ := hrel
      by_cases hlt : k < xs.length
      · have hll : (ligs f (xs.take k)).length ≤ k := Nat.le_trans (ligs_len _ _) (by simp; omega)
        obtain ⟨x, b, off, HX, rfl, _, _, h3, c0, _⟩ := RdI.get (hR1.ext hE) hlt
        obtain ⟨x1, x2⟩ := HIN.out x (List.mem_of_getElem? HX.out)
        obtain ⟨i, rfl⟩ : ∃ i : Nat, x = i := ⟨x.toNat, by omega⟩
        obtain ⟨s, b', off', HS, eA, h4, d0, d1⟩ := RdS.get (hr.ext (hE2.trans hE)) (k := i) (by omega)
        subst eA
        have hsz := HB.out s (List.mem_of_getElem? HS.out)
        by_cases h1 : 1 < s.code.size
        · have HN : Hid (ligs f (xs.take (k + 1)) = ligs f (xs.take k) ++ [s.code]) := ligs_yes HX.out HS.out h1
          go_wp2_with ((at_builtin; refine wp_app _ w2 rfl (.tmp 36) (.tmp 42) 24 rfl 9 _ 1 16 Try.underlying24 strInfo rfl (by omega) _ _ _ rfl (ownsRow_ext hown (Ext.alloc _ _)) (hE.trans (Ext.alloc _ _)) _ _ _ 1 1 [.string s.code] rfl rfl (rdA_new rfl (Ext.refl _)) (by simp [Value.oneCell']) (by omega) (by simp) ?_; intro v4 w4 hown4 hE4 hg4 hat4))
          go_roundw
          case rel => exact ⟨k + 1, by omega, by go_num, by rw [HN.out, List.length_append, List.map_append]; exact hown4, hE4⟩
          case measure => simp [intOf]; omega
        · have HN : Hid (ligs f (xs.take (k + 1)) = ligs f (xs.take k)) := ligs_no HX.out HS.out h1
          go_wp2
          go_roundw
          case rel => exact ⟨k + 1, by omega, by go_num, by rw [HN.out]; exact hown, hE⟩
          case measure => simp [intOf]; omega
      · have hkl : k = xs.length := by omega
        subst hkl
        clear hlt
        rw [List.take_of_length_le (Nat.le_refl _)] at hown
        obtain ⟨A', c', rfl, hc', _⟩ := own_form hown
        have hRR := Rd.of_own hown
        go_wp2
        go_ret2
        exact ⟨A', c', rfl, hc', hRR.wide hz1 (Nat.le_refl _) (Nat.le_refl _), hE2.trans hE⟩
end Go.Proofs.Ytnkkpphjahpadaa
