/- The text of a mark, plainly; the library's numbers. -/
import Derived.Test.YtclcclhdmciggaaDoorMtA
import Derived.Test.YtclcclhdmciggaaDoorNum
namespace Go.Proofs.YtclcclhdmciggaaDoor
open Go.RowKit
set_option linter.unusedVariables false
/-- The text of a mark. -/
def kS (k : Int) : ByteArray := if k = 1 then ⟨#[100]⟩ else if k = 2 then ⟨#[105]⟩ else if k = 3 then ⟨#[114]⟩ else ⟨#[115]⟩
def mtS (m : Mrk) : ByteArray := numS m.line.toNat ++ ⟨#[58]⟩ ++ numS m.place.toNat ++ kS m.kind ++ m.text
def mtV (m : Mrk) : Value := if mkOk m then .tuple #[.string (mtS m), .bool true] else .tuple #[.string ByteArray.empty, .bool false]
theorem mtV_bad {m : Mrk} (h : mkOk m = false) : mtV m = .tuple #[.string ByteArray.empty, .bool false] := by simp only [mtV, h]; rfl
theorem mtV_good {m : Mrk} (h : mkOk m = true) : mtV m = .tuple #[.string (mtS m), .bool true] := by simp only [mtV, h]; rfl
theorem mtV_form (m : Mrk) : ∃ x z, mtV m = .tuple #[.string x, .bool z] := by unfold mtV; split <;> exact ⟨_, _, rfl⟩
theorem impl_Itoa (i : Nat) (hi : i < 100) (w : World) : Calls Tryd.prog 17 #[.int .i64 (i : Int)] w fun e w' => e = .returned (.string (numS i)) ∧ w = w' :=
  (Tryd.strconv_Itoa_small i hi w).mono fun _ _ h => ⟨h.1, h.2.symm⟩
end Go.Proofs.YtclcclhdmciggaaDoor
