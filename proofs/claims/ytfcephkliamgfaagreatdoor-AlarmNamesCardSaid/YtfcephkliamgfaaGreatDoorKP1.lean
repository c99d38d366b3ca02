/- A table of proved calls: PRINTED BY memo.py. -/
import Derived.Test.YtfcephkliamgfaaGreatDoorKTab
import Derived.KernelRfl
namespace Go.Proofs.YtfcephkliamgfaaGreatDoor
open Go Go.Te
theorem kt36 : ke36.check E0 kT 4000 216 = true := by kernel_rfl
theorem kt37 : ke37.check E0 kT 4000 104 = true := by kernel_rfl
theorem kt38 : ke38.check E0 kT 4000 57 = true := by kernel_rfl
theorem kt39 : ke39.check E0 kT 4000 185 = true := by kernel_rfl
theorem kt40 : ke40.check E0 kT 4000 31 = true := by kernel_rfl
theorem kt41 : ke41.check E0 kT 4000 216 = true := by kernel_rfl
theorem kt42 : ke42.check E0 kT 4000 185 = true := by kernel_rfl
theorem kt43 : ke43.check E0 kT 4000 31 = true := by kernel_rfl
theorem kt44 : ke44.check E0 kT 4000 216 = true := by kernel_rfl
theorem kt45 : ke45.check E0 kT 4000 185 = true := by kernel_rfl
theorem kt46 : ke46.check E0 kT 4000 31 = true := by kernel_rfl
theorem kt47 : ke47.check E0 kT 4000 216 = true := by kernel_rfl
theorem kt48 : ke48.check E0 kT 4000 185 = true := by kernel_rfl
theorem kt49 : ke49.check E0 kT 4000 31 = true := by kernel_rfl
theorem kt50 : ke50.check E0 kT 4000 216 = true := by kernel_rfl
theorem kt51 : ke51.check E0 kT 4000 185 = true := by kernel_rfl
theorem kt52 : ke52.check E0 kT 4000 31 = true := by kernel_rfl
theorem kt53 : ke53.check E0 kT 4000 216 = true := by kernel_rfl
theorem kt54 : ke54.check E0 kT 4000 185 = true := by kernel_rfl
theorem kt55 : ke55.check E0 kT 4000 31 = true := by kernel_rfl
theorem kt56 : ke56.check E0 kT 4000 137 = true := by kernel_rfl
theorem kt57 : ke57.check E0 kT 4000 75 = true := by kernel_rfl
theorem kt58 : ke58.check E0 kT 4000 85 = true := by kernel_rfl
theorem kt59 : ke59.check E0 kT 4000 80 = true := by kernel_rfl
theorem kt60 : ke60.check E0 kT 4000 165 = true := by kernel_rfl
theorem kt61 : ke61.check E0 kT 4000 85 = true := by kernel_rfl
theorem kt62 : ke62.check E0 kT 4000 80 = true := by kernel_rfl
theorem kt63 : ke63.check E0 kT 4000 165 = true := by kernel_rfl
theorem kt64 : ke64.check E0 kT 4000 85 = true := by kernel_rfl
theorem kt65 : ke65.check E0 kT 4000 80 = true := by kernel_rfl
theorem kt66 : ke66.check E0 kT 4000 165 = true := by kernel_rfl
theorem kt67 : ke67.check E0 kT 4000 85 = true := by kernel_rfl
theorem kt68 : ke68.check E0 kT 4000 80 = true := by kernel_rfl
end Go.Proofs.YtfcephkliamgfaaGreatDoor
