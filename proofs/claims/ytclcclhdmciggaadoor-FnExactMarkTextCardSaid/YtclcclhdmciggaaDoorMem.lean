/- Memory words of our own: what a slice reads as, and what a call leaves alone. No program in sight. -/
import Derived.WalkKit
import Derived.WalkSpells
import Derived.WalkLawsBesides
import Derived.Below
import Derived.Lib.Hide
import Derived.Laws.OwnMore
import Derived.Deep.AppendLies
import Derived.Deep.Draws
import Derived.Maps.AppendAt
import Derived.OwnWalk
import Derived.Laws.MakeOwn
namespace Go.Proofs.YtclcclhdmciggaaDoor
open Go.RowKit
set_option linter.unusedVariables false

/-- w' is w with more blocks: all that was there is as it was. -/
def Ext (w w' : World) : Prop := Below w.heap.size w w'
theorem Ext.refl (w : World) : Ext w w := Below.refl _ _
theorem Ext.trans {a b c : World} (h : Ext a b) (k : Ext b c) : Ext a c := Below.trans h (Below.mono k (Below.size h))
theorem Ext.alloc (w : World) (o : Obj) : Ext w (w.alloc o) := (Below.refl _ _).alloc (Nat.le_refl _) o
theorem Ext.drew (w : World) : Ext w w.drew := (Below.refl _ _).drew
theorem Ext.drewN (w : World) (n : Nat) : Ext w (w.drewN n) := ⟨rfl, rfl, rfl, Nat.le_refl _, fun _ _ => rfl⟩
theorem Ext.size {w w' : World} (h : Ext w w') : w.heap.size ≤ w'.heap.size := Below.size h
theorem Ext.setCell {a w : World} (h : Ext a w) {p : Addr} (hp : a.heap.size ≤ p.block) (u : Value) : Ext a (w.setCell p u) := Below.setCell h hp u
theorem Ext.grown {a w w' : World} {row : Option Nat} (h : Ext a w) (hg : w.grownBy w' row) (hr : ∀ k, row = some k → a.heap.size ≤ k) : Ext a w' := Below.grown h hg (Below.size h) hr
theorem Ext.below {w w' : World} (h : Ext w w') : Below w.heap.size w w' := h
theorem Ext.of_below {w w' : World} (h : Below w.heap.size w w') : Ext w w' := h
theorem bcell {W w1 : World} (hb : Ext W w1) : (∀ b o, b < W.heap.size → w1.cell? ⟨b, o, none⟩ = W.cell? ⟨b, o, none⟩) ∧ (∀ b o, b < W.heap.size → w1.frozen? ⟨b, o, none⟩ = W.frozen? ⟨b, o, none⟩) :=
  ⟨fun b o h => Below.cell hb (p := ⟨b, o, none⟩) h, fun b o h => Below.frozen hb (p := ⟨b, o, none⟩) h⟩

theorem Ext.cell {w w' : World} (h : Ext w w') {p : Addr} {v : Value} (hc : w.cell? p = some v) : w'.cell? p = some v :=
  (Below.cell h (World.block_lt_of_cell? w p hc)).trans hc
theorem box_new {w w1 : World} {cs : Array Value} {t : TypeId} {j : Nat} {v : Value} (h : Ext (w.alloc (.cells cs t)) w1) (hv : cs[j]? = some v) : w1.cell? ⟨w.heap.size, j, none⟩ = some v := by
  refine Ext.cell h ?_
  rw [cell_of_row _ _ _ cs t (0, 0) (heap_alloc_new w _)]
  exact hv

/-- Outside the blocks lo .. hi-1 the world w' is as w was. -/
structure Out (lo hi : Nat) (w w' : World) : Prop where
  os : w'.os = w.os
  tape : w'.tape = w.tape
  output : w'.output = w.output
  size : w.heap.size ≤ w'.heap.size
  block : ∀ k, k < w.heap.size → (k < lo ∨ hi ≤ k) → w'.heap[k]? = w.heap[k]?
theorem Out.of_ext {lo hi : Nat} {w w' : World} (h : Ext w w') : Out lo hi w w' := ⟨Below.os h, Below.tape h, Below.output h, Below.size h, fun k hk _ => Below.block h k hk⟩
theorem Out.ext {lo hi : Nat} {a w w' : World} (h : Out lo hi w w') (ha : Ext a w) (hB : a.heap.size ≤ lo) : Ext a w' :=
  Below.trans ha ⟨h.os, h.tape, h.output, h.size, fun k hk => h.block k (by have := Below.size ha; omega) (.inl (by omega))⟩
theorem Out.refl (lo hi : Nat) (w : World) : Out lo hi w w := ⟨rfl, rfl, rfl, Nat.le_refl _, fun _ _ _ => rfl⟩
theorem Out.trans {lo hi : Nat} {a b c : World} (h : Out lo hi a b) (k : Out lo hi b c) : Out lo hi a c :=
  ⟨k.os.trans h.os, k.tape.trans h.tape, k.output.trans h.output, Nat.le_trans h.size k.size, fun i hi' ho => (k.block i (Nat.lt_of_lt_of_le hi' h.size) ho).trans (h.block i hi' ho)⟩
theorem Out.wide {lo hi lo' hi' : Nat} {a b : World} (h : Out lo hi a b) (h1 : lo' ≤ lo) (h2 : hi ≤ hi') : Out lo' hi' a b :=
  ⟨h.os, h.tape, h.output, h.size, fun i hi' ho => h.block i hi' (by omega)⟩
theorem Out.setCell {lo hi : Nat} {a w : World} (h : Out lo hi a w) {p : Addr} (hp : (lo ≤ p.block ∧ p.block < hi) ∨ a.heap.size ≤ p.block) (u : Value) : Out lo hi a (w.setCell p u) :=
  ⟨h.os, h.tape, h.output, by simpa [World.setCell] using h.size, fun k hk ho => (Below.heap_setCell _ _ _ _ (by omega)).trans (h.block k hk ho)⟩

theorem Out.cell {lo hi : Nat} {w w' : World} (h : Out lo hi w w') {p : Addr} {v : Value} (hc : w.cell? p = some v) (hp : p.block < lo ∨ hi ≤ p.block) : w'.cell? p = some v :=
  (World.cell?_of_block (h.block p.block (World.block_lt_of_cell? w p hc) hp)).trans hc
/-- The cells xs lie from address A on, in a block among lo .. hi-1, and may be written. (Nothing is said where xs is empty.) -/
def Rd (w : World) (lo hi : Nat) (A : Option Addr) (xs : List Value) : Prop :=
  hi ≤ w.heap.size ∧ (xs ≠ [] → ∃ b off, A = some ⟨b, off, none⟩ ∧ lo ≤ b ∧ b < hi ∧ ∀ (j : Nat) u, xs[j]? = some u → w.cell? ⟨b, off + j, none⟩ = some u ∧ w.frozen? ⟨b, off + j, none⟩ = false)

/-- The same, but nothing is said on writing. -/
def RdA (w : World) (lo hi : Nat) (A : Option Addr) (xs : List Value) : Prop :=
  hi ≤ w.heap.size ∧ (xs ≠ [] → ∃ b off, A = some ⟨b, off, none⟩ ∧ lo ≤ b ∧ b < hi ∧ ∀ (j : Nat) u, xs[j]? = some u → w.cell? ⟨b, off + j, none⟩ = some u)
section
variable {w w' : World} {lo hi : Nat} {A : Option Addr} {xs : List Value}
theorem Rd.toA (h : Rd w lo hi A xs) : RdA w lo hi A xs := ⟨h.1, fun hn => by
  obtain ⟨b, off, e, h1, h2, hc⟩ := h.2 hn
  exact ⟨b, off, e, h1, h2, fun j u hu => (hc j u hu).1⟩⟩
theorem RdA.ext (h : RdA w lo hi A xs) (hb : Ext w w') : RdA w' lo hi A xs :=
  ⟨Nat.le_trans h.1 hb.size, fun hn => by
    obtain ⟨b, off, e, h1, h2, hc⟩ := h.2 hn
    exact ⟨b, off, e, h1, h2, fun j u hu => hb.cell (hc j u hu)⟩⟩
theorem RdA.out {lo' hi' : Nat} (h : RdA w lo hi A xs) (ho : Out lo' hi' w w') (hd : hi ≤ lo' ∨ hi' ≤ lo) : RdA w' lo hi A xs :=
  ⟨Nat.le_trans h.1 ho.size, fun hn => by
    obtain ⟨b, off, e, h1, h2, hc⟩ := h.2 hn
    exact ⟨b, off, e, h1, h2, fun j u hu => (World.cell?_of_block (a := ⟨b, off + j, none⟩) (ho.block b (by have := h.1; omega) (by omega))).trans (hc j u hu)⟩⟩
theorem RdA.at_ (h : RdA w lo hi A xs) {k : Nat} (hk : k < xs.length) : ∃ b off, A = some ⟨b, off, none⟩ ∧ lo ≤ b ∧ b < hi ∧ b < w.heap.size ∧ ∀ (j : Nat) u, xs[j]? = some u → w.cell? ⟨b, off + j, none⟩ = some u := by
  obtain ⟨b, off, e, h1, h2, hc⟩ := h.2 (by intro h; rw [h] at hk; simp at hk)
  exact ⟨b, off, e, h1, h2, by have := h.1; omega, hc⟩
theorem Rd.nil (h : hi ≤ w.heap.size) : Rd w lo hi A [] := ⟨h, fun h => absurd rfl h⟩
theorem Rd.keep (h : Rd w lo hi A xs) (hs : hi ≤ w'.heap.size) (hk : ∀ k, lo ≤ k → k < hi → w'.heap[k]? = w.heap[k]?) : Rd w' lo hi A xs :=
  ⟨hs, fun hn => by
    obtain ⟨b, off, e, h1, h2, hc⟩ := h.2 hn
    refine ⟨b, off, e, h1, h2, fun j u hu => ?_⟩
    have hb := hk b h1 h2
    exact ⟨(World.cell?_of_block (a := ⟨b, off + j, none⟩) hb).trans (hc j u hu).1, (World.frozen?_of_block (a := ⟨b, off + j, none⟩) hb).trans (hc j u hu).2⟩⟩
theorem Rd.ext (h : Rd w lo hi A xs) (hb : Ext w w') : Rd w' lo hi A xs :=
  h.keep (Nat.le_trans h.1 hb.size) fun k _ hk => Below.block hb k (by have := h.1; omega)
theorem Rd.out {lo' hi' : Nat} (h : Rd w lo hi A xs) (ho : Out lo' hi' w w') (hd : hi ≤ lo' ∨ hi' ≤ lo) : Rd w' lo hi A xs :=
  h.keep (Nat.le_trans h.1 ho.size) fun k h1 h2 => ho.block k (Nat.lt_of_lt_of_le h2 h.1) (by omega)
theorem Rd.wide {lo' hi' : Nat} (h : Rd w lo hi A xs) (h1 : lo' ≤ lo) (h2 : hi ≤ hi') (h3 : hi' ≤ w.heap.size) : Rd w lo' hi' A xs :=
  ⟨h3, fun hn => by
    obtain ⟨b, off, e, k1, k2, hc⟩ := h.2 hn
    exact ⟨b, off, e, by omega, by omega, hc⟩⟩
theorem Rd.at_ (h : Rd w lo hi A xs) {k : Nat} (hk : k < xs.length) : ∃ b off, A = some ⟨b, off, none⟩ ∧ lo ≤ b ∧ b < hi ∧ b < w.heap.size ∧ ∀ (j : Nat) u, xs[j]? = some u → w.cell? ⟨b, off + j, none⟩ = some u ∧ w.frozen? ⟨b, off + j, none⟩ = false := by
  obtain ⟨b, off, e, h1, h2, hc⟩ := h.2 (by intro h; rw [h] at hk; simp at hk)
  exact ⟨b, off, e, h1, h2, by have := h.1; omega, hc⟩
theorem Rd.take (h : Rd w lo hi A xs) (k : Nat) : Rd w lo hi A (xs.take k) :=
  ⟨h.1, fun hn => by
    obtain ⟨b, off, e, h1, h2, hc⟩ := h.2 (by intro h; rw [h] at hn; simp at hn)
    refine ⟨b, off, e, h1, h2, fun j u hu => hc j u ?_⟩
    rw [List.getElem?_take] at hu
    split at hu
    · exact hu
    · cases hu⟩
theorem Rd.drop {b off : Nat} (h : Rd w lo hi (some ⟨b, off, none⟩) xs) (k : Nat) : Rd w lo hi (some ⟨b, off + k, none⟩) (xs.drop k) :=
  ⟨h.1, fun hn => by
    obtain ⟨b', off', e, h1, h2, hc⟩ := h.2 (by intro h; rw [h] at hn; simp at hn)
    injection e with e; injection e with e1 e2; subst e1; subst e2
    refine ⟨b, off + k, rfl, h1, h2, fun j u hu => ?_⟩
    rw [List.getElem?_drop] at hu
    rw [Nat.add_assoc]
    exact hc _ u hu⟩
theorem Rd.of_own {base : Nat} {e : TypeId} {size n c : Nat} (h : w.ownsRow base e size (.slice A n c) n xs) : Rd w base w.heap.size A xs := by
  refine ⟨Nat.le_refl _, fun hn => ?_⟩
  rcases h.2 with ⟨h0, h1⟩ | ⟨g, cap, cur, hv, hg, hh, _, _, _, ht⟩
  · subst h1
    exact absurd (List.eq_nil_of_length_eq_zero (by simpa using h.1)) hn
  · injection hv with hA _ _
    subst hA
    refine ⟨g, 0, rfl, hg, (Array.getElem?_eq_some_iff.1 hh).1, fun j u hu => ?_⟩
    rw [Nat.zero_add]
    constructor
    · rw [cell_of_row w g j cur e (0, 0) hh]
      rw [← ht, List.getElem?_take] at hu
      split at hu
      · simpa using hu
      · cases hu
    · simp [World.frozen?, hh]
end

theorem Rd.set_ {w : World} {lo hi b off : Nat} {xs : List Value} (h : Rd w lo hi (some ⟨b, off, none⟩) xs) (j : Nat) (u : Value) : Rd (w.setCell ⟨b, off + j, none⟩ u) lo hi (some ⟨b, off, none⟩) (xs.set j u) := by
  refine ⟨by simpa [World.setCell] using h.1, fun hn => ?_⟩
  obtain ⟨b', off', e, h1, h2, hc⟩ := h.2 (by intro h; rw [h] at hn; simp at hn)
  injection e with e; injection e with e1 e2; subst e1; subst e2
  refine ⟨b, off, rfl, h1, h2, fun i v hv => ?_⟩
  have hi : i < xs.length := by have := (List.getElem?_eq_some_iff.1 hv).1; simpa using this
  obtain ⟨x, hx⟩ : ∃ x, xs[i]? = some x := ⟨_, List.getElem?_eq_getElem hi⟩
  obtain ⟨hx1, hx2⟩ := hc i x hx
  have hfr : (w.setCell ⟨b, off + j, none⟩ u).frozen? ⟨b, off + i, none⟩ = false := by
    rw [← hx2]
    simp only [World.frozen?, World.setCell, Array.getElem?_modify]
    cases hb : w.heap[b]? with
    | none => simp
    | some o => cases o <;> simp
  by_cases hij : i = j
  · subst hij
    rw [List.getElem?_set_self hi] at hv
    injection hv with hv
    subst hv
    refine ⟨?_, hfr⟩
    simp only [World.cell?, World.setCell, Array.getElem?_modify] at hx1 ⊢
    cases hb : w.heap[b]? with
    | none => simp [hb] at hx1
    | some o =>
      cases o <;> simp [hb] at hx1 ⊢
      rw [Array.getElem?_setIfInBounds, if_pos rfl, if_pos (Array.getElem?_eq_some_iff.1 hx1).1]
  · rw [List.getElem?_set_ne (fun h => hij h.symm)] at hv
    rw [hx] at hv
    injection hv with hv
    subst hv
    refine ⟨?_, hfr⟩
    rw [World.cell?_setCell_other _ _ _ _ (fun h => by injection h with _ h2; omega)]
    exact hx1

/-- Block g is just the cells cs of element type t, none frozen. -/
def Blk (w : World) (g : Nat) (t : TypeId) (cs : Array Value) : Prop := w.heap[g]? = some (.cells cs t (0, 0))
section
variable {w w' : World} {g : Nat} {t : TypeId} {cs : Array Value}
theorem Blk.lt (h : Blk w g t cs) : g < w.heap.size := by
  rcases Nat.lt_or_ge g w.heap.size with hlt | hge
  · exact hlt
  · unfold Blk at h; rw [Array.getElem?_eq_none hge] at h; cases h
theorem Blk.cell (h : Blk w g t cs) {i : Nat} {v : Value} (hi : cs[i]? = some v) : w.cell? ⟨g, i, none⟩ = some v := (cell_of_row w g i cs t (0, 0) h).trans hi
theorem Blk.frozen (h : Blk w g t cs) (i : Nat) : w.frozen? ⟨g, i, none⟩ = false := by
  unfold Blk at h
  simp [World.frozen?, h]
theorem Blk.new (w : World) (t : TypeId) (cs : Array Value) : Blk (w.alloc (.cells cs t)) w.heap.size t cs := heap_alloc_new w _
theorem Blk.set_ (h : Blk w g t cs) (i : Nat) (u : Value) : Blk (w.setCell ⟨g, i, none⟩ u) g t (cs.setIfInBounds i u) := by
  unfold Blk at h ⊢
  simp [World.setCell, Array.getElem?_modify, h]
theorem Blk.ext (h : Blk w g t cs) (hb : Ext w w') : Blk w' g t cs := (Below.block hb g h.lt).trans h
theorem Blk.rd (h : Blk w g t cs) {lo : Nat} (hlo : lo ≤ g) {xs : List Value} (hx : ∀ (j : Nat) u, xs[j]? = some u → cs[j]? = some u) : Rd w lo w.heap.size (some ⟨g, 0, none⟩) xs :=
  ⟨Nat.le_refl _, fun _ => ⟨g, 0, rfl, hlo, h.lt, fun j u hu => by rw [Nat.zero_add]; exact ⟨h.cell (hx j u hu), h.frozen j⟩⟩⟩
theorem Blk.rdAt (h : Blk w g t cs) {lo : Nat} (hlo : lo ≤ g) {xs : List Value} (off : Nat) (hx : ∀ (j : Nat) u, xs[j]? = some u → cs[off + j]? = some u) : Rd w lo w.heap.size (some ⟨g, off, none⟩) xs :=
  ⟨Nat.le_refl _, fun _ => ⟨g, off, rfl, hlo, h.lt, fun j u hu => ⟨h.cell (hx j u hu), h.frozen _⟩⟩⟩
end
theorem run_make_rowN {P : Program} (t e : TypeId) (i : TypeInfo) (z : Value) (ht : P.underlying t = some (.slice e)) (hi : P.info? e = some i) (hz : i.zero = some z)
    (n c : Nat) (hnc : n ≤ c) (hbytes : i.bytes * c ≤ 281474976710656) (h63 : c ≤ 9223372036854775807) (w : World) :
    (Instr.makeSlice t (.int .i64 (n : Int)) (.int .i64 (c : Int))).run P w = .ok (.slice (some ⟨w.heap.size, 0, none⟩) n c) (w.alloc (.cells (madeCells z.cells (c * i.size)) e)) := by
  have hb : (i.bytes : Int) * (c : Int) ≤ 281474976710656 := by
    have h : ((i.bytes * c : Nat) : Int) ≤ 281474976710656 := by omega
    rwa [Int.natCast_mul] at h
  have hr := run_make (P := P) w t e i z ht hi hz .i64 .i64 n c (by omega) (by omega) hb (by omega)
  simp only [Int.toNat_natCast] at hr
  exact hr

/-- A slice of int. -/
def RdI (w : World) (lo hi : Nat) (A : Option Addr) (l : List Int) : Prop := Rd w lo hi A (l.map (Value.int .i64))
section
variable {w w' : World} {lo hi : Nat} {A : Option Addr} {l : List Int}
theorem RdI.ext (h : RdI w lo hi A l) (hb : Ext w w') : RdI w' lo hi A l := Rd.ext h hb
theorem RdI.out {lo' hi' : Nat} (h : RdI w lo hi A l) (ho : Out lo' hi' w w') (hd : hi ≤ lo' ∨ hi' ≤ lo) : RdI w' lo hi A l := Rd.out h ho hd
theorem RdI.get (h : RdI w lo hi A l) {k : Nat} (hk : k < l.length) :
    ∃ x b off, Hid (l[k]? = some x) ∧ A = some ⟨b, off, none⟩ ∧ lo ≤ b ∧ b < hi ∧ b < w.heap.size ∧ w.cell? ⟨b, off + k, none⟩ = some (.int .i64 x) ∧ w.frozen? ⟨b, off + k, none⟩ = false := by
  obtain ⟨b, off, e, h1, h2, h3, hc⟩ := Rd.at_ h (k := k) (by simpa using hk)
  have h4 := hc k (.int .i64 l[k]) (by rw [List.getElem?_map, List.getElem?_eq_getElem hk]; rfl)
  exact ⟨l[k], b, off, List.getElem?_eq_getElem hk, e, h1, h2, h3, h4.1, h4.2⟩
end
/-- What the laws' marks leave in a slice of int. -/
def marksI (k : Int) (n : Nat) : List Int := (List.range n).map fun (i : Nat) => k + i
theorem marksI_len (k : Int) (n : Nat) : (marksI k n).length = n := by simp [marksI]
theorem marksI_at {k : Int} {n i : Nat} {x : Int} (h : (marksI k n)[i]? = some x) : x = k + i := by
  simp only [marksI, List.getElem?_map, Option.map_eq_some_iff] at h
  obtain ⟨a, ha, rfl⟩ := h
  have := (List.getElem?_eq_some_iff.1 ha).2
  simp at this
  subst this
  rfl
theorem marksI_of {k : Int} {l : List Int} (h : ∀ i : Nat, i < l.length → l[i]? = some (k + i)) : l = marksI k l.length := by
  apply List.ext_getElem?
  intro i
  by_cases hi : i < l.length
  · rw [h i hi]; simp [marksI, hi]
  · rw [List.getElem?_eq_none (by omega), List.getElem?_eq_none (by rw [marksI_len]; omega)]
theorem ret_int {k : IntKind} {a b : Int} (h : a = b) : Ending.returned (.int k a) = .returned (.int k b) := by rw [h]
theorem ret_bool {a b : Bool} (h : a = b) : Ending.returned (.bool a) = .returned (.bool b) := by rw [h]
theorem val_int {k : IntKind} {a b : Int} (h : a = b) : Value.int k a = .int k b := by rw [h]
theorem val_bool {a b : Bool} (h : a = b) : Value.bool a = .bool b := by rw [h]
theorem take_snoc {α : Type} {l : List α} {k : Nat} {x : α} (h : l[k]? = some x) : l.take (k + 1) = l.take k ++ [x] := by
  have hk : k < l.length := (List.getElem?_eq_some_iff.1 h).1
  rw [List.take_succ_eq_append_getElem hk, (List.getElem?_eq_some_iff.1 h).2]
/-- The number fits an int. -/
def InR (x : Int) : Prop := -9223372036854775808 ≤ x ∧ x ≤ 9223372036854775807
def inB (n lo hi : Int) : Bool := decide (lo ≤ n) && decide (n ≤ hi)
end Go.Proofs.YtclcclhdmciggaaDoor
