/- The plain functions of proofs and marks. No program in sight. -/
import Derived.Test.YtclcclhdmciggaaDoorFlat
namespace Go.Proofs.YtclcclhdmciggaaDoor
open Go.RowKit
set_option linter.unusedVariables false
theorem inB_iff {n lo hi : Int} : inB n lo hi = true ↔ lo ≤ n ∧ n ≤ hi := by simp [inB]
structure Mrk where
  line : Int
  place : Int
  kind : Int
  text : ByteArray
def Mrk.enc (m : Mrk) : List Value := [.int .i64 m.line, .int .i64 m.place, .int .i64 m.kind, .string m.text]
theorem Mrk.enc_len (m : Mrk) : m.enc.length = 4 := rfl
def RdM (w : World) (lo hi : Nat) (A : Option Addr) (l : List Mrk) : Prop := Rd w lo hi A (l.flatMap Mrk.enc)
theorem lenM (l : List Mrk) : (l.flatMap Mrk.enc).length = l.length * 4 := flat_len _ 4 Mrk.enc_len l
section
variable {w w' : World} {lo hi : Nat} {A : Option Addr} {l : List Mrk}
theorem RdM.ext (h : RdM w lo hi A l) (hb : Ext w w') : RdM w' lo hi A l := Rd.ext h hb
theorem RdM.out {lo' hi' : Nat} (h : RdM w lo hi A l) (ho : Out lo' hi' w w') (hd : hi ≤ lo' ∨ hi' ≤ lo) : RdM w' lo hi A l := Rd.out h ho hd
theorem getM (h : RdA w lo hi A (l.flatMap Mrk.enc)) {k : Nat} (hk : k < l.length) :
    ∃ x b off, Hid (l[k]? = some x) ∧ A = some ⟨b, off, none⟩ ∧ b < w.heap.size ∧
      w.cell? ⟨b, off + k * 4, none⟩ = some (.int .i64 x.line) ∧ w.cell? ⟨b, off + k * 4 + 1, none⟩ = some (.int .i64 x.place) ∧ w.cell? ⟨b, off + k * 4 + 2, none⟩ = some (.int .i64 x.kind) ∧ w.cell? ⟨b, off + k * 4 + 3, none⟩ = some (.string x.text) := by
  obtain ⟨b, off, e, h1, h2, h3, hc⟩ := h.at_ (k := k * 4) (by rw [lenM]; omega)
  have g := fun j hj => flat_get _ 4 Mrk.enc_len l k hk j hj
  exact ⟨l[k], b, off, List.getElem?_eq_getElem hk, e, h3, hc _ _ (g 0 (by omega)), hc _ _ (g 1 (by omega)), hc _ _ (g 2 (by omega)), hc _ _ (g 3 (by omega))⟩
theorem RdM.get (h : RdM w lo hi A l) {k : Nat} (hk : k < l.length) :
    ∃ x b off, Hid (l[k]? = some x) ∧ A = some ⟨b, off, none⟩ ∧ b < w.heap.size ∧
      w.cell? ⟨b, off + k * 4, none⟩ = some (.int .i64 x.line) ∧ w.cell? ⟨b, off + k * 4 + 1, none⟩ = some (.int .i64 x.place) ∧ w.cell? ⟨b, off + k * 4 + 2, none⟩ = some (.int .i64 x.kind) ∧ w.cell? ⟨b, off + k * 4 + 3, none⟩ = some (.string x.text) := getM (Rd.toA h) hk
end
/-- A letter or a blank. -/
def chN (n : Int) : Bool := decide (n = 32) || (decide (97 ≤ n) && decide (n ≤ 122))
def chOk (c : UInt8) : Bool := chN c.toNat
def txt (s : ByteArray) (lo hi : Int) : Bool := s.data.toList.all chOk && inB s.size lo hi
theorem snocB (s : ByteArray) (k : Nat) (h : k < s.size) : s.data.toList.take (k + 1) = s.data.toList.take k ++ [s[k]] := by
  rw [List.take_succ_eq_append_getElem (by simpa using h)]; rfl
theorem txt_bad {s : ByteArray} {k : Nat} (hk : k < s.size) (lo hi : Int) (h : chOk s[k] = false) : txt s lo hi = false := by
  have : s.data.toList.all chOk = false := by
    rw [List.all_eq_false]
    exact ⟨s[k], by show s.data[k] ∈ _; exact Array.getElem_mem_toList _, by simp [h]⟩
  simp [txt, this]
def prf (l : List ByteArray) : Bool := (l.all fun s => txt s 0 40) && inB l.length 1 12
def mkOk (m : Mrk) : Bool := (inB m.line 0 11 && inB m.place 0 40) && (if m.kind = 1 ∨ m.kind = 4 then m.text.toList.isEmpty else if m.kind = 2 ∨ m.kind = 3 then txt m.text 1 10 else false)
def lenAt (l : List ByteArray) (i : Int) : Int := match l[i.toNat]? with | some s => s.size | none => 0
def mkAt (l : List ByteArray) (m : Mrk) : Bool := (mkOk m && decide (m.line < l.length)) && (decide (m.place < lenAt l m.line) || (decide (m.place = lenAt l m.line) && !(decide (m.kind = 1) || decide (m.kind = 3))))
def aMk (l : List ByteArray) (ms : List Mrk) : Bool := (ms.all (mkAt l) && prf l) && decide (ms.length ≤ 20)
theorem all_take {α : Type} {l : List α} {j : Nat} {y : α} (p : α → Bool) (h : l[j]? = some y) : (l.take (j + 1)).all p = ((l.take j).all p && p y) := by
  rw [take_snoc h]; simp
theorem all_no {α : Type} {l : List α} {j : Nat} {y : α} {p : α → Bool} (h : l[j]? = some y) (hp : p y = false) : l.all p = false := by
  rw [List.all_eq_false]; exact ⟨y, List.mem_of_getElem? h, by simp [hp]⟩
theorem aMk_no {l : List ByteArray} {ms : List Mrk} {k : Nat} {m : Mrk} (hx : ms[k]? = some m) (h : mkAt l m = false) : aMk l ms = false := by
  simp [aMk, all_no hx h]
theorem mkOk_parts {m : Mrk} (h : mkOk m = true) : (0 ≤ m.line ∧ m.line ≤ 11) ∧ (0 ≤ m.place ∧ m.place ≤ 40) ∧ 1 ≤ m.kind ∧ m.kind ≤ 4 := by
  simp only [mkOk, Bool.and_eq_true] at h
  obtain ⟨⟨h1, h2⟩, h3⟩ := h
  refine ⟨inB_iff.1 h1, inB_iff.1 h2, ?_⟩
  split at h3
  · rename_i h; omega
  · split at h3
    · rename_i h; omega
    · cases h3
end Go.Proofs.YtclcclhdmciggaaDoor
