/-
  Proved: for every list of whole numbers ServeCrashes returns true, and the list reads behind the call as it read before it. Conditions: none beyond those of the given row.
-/
import Derived.Test.YtllpoaoboieijaaGreatSa43
import Derived.Test.YtllpoaoboieijaaGreatSc7
/-
  Proved: for every list of whole numbers ServeCrashes returns true, and the list reads behind the call as it read before it.
  Conditions: none beyond those of the given row.
-/
namespace Go.Proofs.YtllpoaoboieijaaGreat
open Go.ChangeShapes Go.WideShapes Go.ChangeAt Go.RowKit

set_option maxRecDepth 100000 in
theorem serveCrashes_lifted (os : Os) (started : os.Started) (H : Type) (enc : TypeId × Value → H) :
    ReturnsInHanded {} Tryz.checked os 4 .any (Rows.serveCrashesSpec.pre6 enc Tryz.prog Tryz.f4 Rows.serveCrashesRow.domain false) (Rows.serveCrashesSpec.post enc Tryz.prog Tryz.f4 false true false false) := by
  refine returnsInHanded_of_change (C := Tryz.checked) rowOwn started (by kernel_rfl) Tryz.func4
    (ChangeSpec.witness6 (enc := enc) (C := Tryz.checked) false ⟨#[], #[.slice none 0 0], []⟩ 8 (by kernel_rfl) (by kernel_rfl) (by kernel_rfl) (by kernel_rfl)) ?_
  intro W base args ds gs before hval hW _ _
  exact serve_row 4 Tryz.f4 Rows.serveCrashesSpec rfl (fun _ _ => rfl) (by rw [Tryz.params4]) (by kernel_rfl) crash_walk hval hW

theorem serveCrashes_holds : Rows.ServeCrashesSaid :=
  OpenClaim.holds_of_wide 4 Tryz.f4 rfl rfl rfl rfl rfl rfl rfl ⟨rfl, rfl, rfl, rfl, rfl⟩ rfl rfl rfl rfl rfl (by kernel_rfl) Tryz.func4 (by kernel_rfl)
    (of_decide_eq_true (by kernel_rfl)) (by unfold Func.isWrapper; first | (rw [if_pos (by decide +kernel)]; kernel_rfl) | (rw [if_neg (by decide +kernel)]; exact ⟨rfl, rfl⟩))
    (fun os started H enc _ => serveCrashes_lifted os started H enc)

end Go.Proofs.YtllpoaoboieijaaGreat
