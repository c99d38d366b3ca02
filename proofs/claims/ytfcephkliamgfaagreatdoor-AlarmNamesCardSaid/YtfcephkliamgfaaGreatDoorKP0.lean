/- A table of proved calls: PRINTED BY memo.py. -/
import Derived.Test.YtfcephkliamgfaaGreatDoorKTab
import Derived.KernelRfl
namespace Go.Proofs.YtfcephkliamgfaaGreatDoor
open Go Go.Te
theorem kt0 : ke0.check E0 kT 4000 5 = true := by kernel_rfl
theorem kt1 : ke1.check E0 kT 4000 27 = true := by kernel_rfl
theorem kt2 : ke2.check E0 kT 4000 13 = true := by kernel_rfl
theorem kt3 : ke3.check E0 kT 4000 4 = true := by kernel_rfl
theorem kt4 : ke4.check E0 kT 4000 328 = true := by kernel_rfl
theorem kt5 : ke5.check E0 kT 4000 183 = true := by kernel_rfl
theorem kt6 : ke6.check E0 kT 4000 329 = true := by kernel_rfl
theorem kt7 : ke7.check E0 kT 4000 187 = true := by kernel_rfl
theorem kt8 : ke8.check E0 kT 4000 330 = true := by kernel_rfl
theorem kt9 : ke9.check E0 kT 4000 197 = true := by kernel_rfl
theorem kt10 : ke10.check E0 kT 4000 146 = true := by kernel_rfl
theorem kt11 : ke11.check E0 kT 4000 334 = true := by kernel_rfl
theorem kt12 : ke12.check E0 kT 4000 197 = true := by kernel_rfl
theorem kt13 : ke13.check E0 kT 4000 146 = true := by kernel_rfl
theorem kt14 : ke14.check E0 kT 4000 334 = true := by kernel_rfl
theorem kt15 : ke15.check E0 kT 4000 197 = true := by kernel_rfl
theorem kt16 : ke16.check E0 kT 4000 146 = true := by kernel_rfl
theorem kt17 : ke17.check E0 kT 4000 334 = true := by kernel_rfl
theorem kt18 : ke18.check E0 kT 4000 239 = true := by kernel_rfl
theorem kt19 : ke19.check E0 kT 4000 220 = true := by kernel_rfl
theorem kt20 : ke20.check E0 kT 4000 197 = true := by kernel_rfl
theorem kt21 : ke21.check E0 kT 4000 146 = true := by kernel_rfl
theorem kt22 : ke22.check E0 kT 4000 334 = true := by kernel_rfl
theorem kt23 : ke23.check E0 kT 4000 197 = true := by kernel_rfl
theorem kt24 : ke24.check E0 kT 4000 146 = true := by kernel_rfl
theorem kt25 : ke25.check E0 kT 4000 334 = true := by kernel_rfl
theorem kt26 : ke26.check E0 kT 4000 146 = true := by kernel_rfl
theorem kt27 : ke27.check E0 kT 4000 334 = true := by kernel_rfl
theorem kt28 : ke28.check E0 kT 4000 331 = true := by kernel_rfl
theorem kt29 : ke29.check E0 kT 4000 332 = true := by kernel_rfl
theorem kt30 : ke30.check E0 kT 4000 104 = true := by kernel_rfl
theorem kt31 : ke31.check E0 kT 4000 57 = true := by kernel_rfl
theorem kt32 : ke32.check E0 kT 4000 134 = true := by kernel_rfl
theorem kt33 : ke33.check E0 kT 4000 333 = true := by kernel_rfl
theorem kt34 : ke34.check E0 kT 4000 91 = true := by kernel_rfl
theorem kt35 : ke35.check E0 kT 4000 86 = true := by kernel_rfl
end Go.Proofs.YtfcephkliamgfaaGreatDoor
