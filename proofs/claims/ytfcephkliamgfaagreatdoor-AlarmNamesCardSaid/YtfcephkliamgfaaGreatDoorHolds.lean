/- AlarmNames: the row's statement. -/
import Derived.Test.YtfcephkliamgfaaGreatDoorRow
import Derived.Test.YtfcephkliamgfaaGreatDoorReach
namespace Go.Proofs.YtfcephkliamgfaaGreatDoor
open Go.ChangeShapes Go.WideShapes Go.ChangeAt Go.RowKit
theorem closed : joinedFacts Tryz.prog 3 Tryz.f3 Rows.alarmNamesSpec Rows.alarmNamesRow = true := by
  unfold joinedFacts
  rw [r_inPlace, r_unfollowed, r_recurses, r_named]
  kernel_rfl
theorem alarmNames_holds : Rows.AlarmNamesSaid :=
  OpenClaim.holds_of_wide 3 Tryz.f3 rfl rfl rfl rfl rfl rfl rfl ⟨rfl, rfl, rfl, rfl, rfl⟩ rfl rfl rfl rfl rfl (by kernel_rfl) Tryz.func3 closed
    (of_decide_eq_true (by kernel_rfl)) (by unfold Func.isWrapper; first | (rw [if_pos (by decide +kernel)]; kernel_rfl) | (rw [if_neg (by decide +kernel)]; exact ⟨rfl, rfl⟩))
    (fun os started H enc _ => lifted os started H enc)

end Go.Proofs.YtfcephkliamgfaaGreatDoor
