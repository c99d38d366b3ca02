/- A table of proved calls: PRINTED BY memo.py. -/
import Derived.Test.YtfcephkliamgfaaGreatDoorKTab
import Derived.KernelRfl
namespace Go.Proofs.YtfcephkliamgfaaGreatDoor
open Go Go.Te
theorem kt211 : ke211.check E0 kT 4000 180 = true := by kernel_rfl
theorem kt212 : ke212.check E0 kT 4000 214 = true := by kernel_rfl
theorem kt213 : ke213.check E0 kT 4000 180 = true := by kernel_rfl
theorem kt214 : ke214.check E0 kT 4000 214 = true := by kernel_rfl
theorem kt215 : ke215.check E0 kT 4000 173 = true := by kernel_rfl
theorem kt216 : ke216.check E0 kT 4000 205 = true := by kernel_rfl
theorem kt217 : ke217.check E0 kT 4000 147 = true := by kernel_rfl
theorem kt218 : ke218.check E0 kT 4000 94 = true := by kernel_rfl
theorem kt219 : ke219.check E0 kT 4000 54 = true := by kernel_rfl
theorem kt220 : ke220.check E0 kT 4000 51 = true := by kernel_rfl
theorem kt221 : ke221.check E0 kT 4000 50 = true := by kernel_rfl
theorem kt222 : ke222.check E0 kT 4000 211 = true := by kernel_rfl
theorem kt223 : ke223.check E0 kT 4000 213 = true := by kernel_rfl
theorem kt224 : ke224.check E0 kT 4000 173 = true := by kernel_rfl
theorem kt225 : ke225.check E0 kT 4000 119 = true := by kernel_rfl
theorem kt226 : ke226.check E0 kT 4000 158 = true := by kernel_rfl
theorem kt227 : ke227.check E0 kT 4000 208 = true := by kernel_rfl
theorem kt228 : ke228.check E0 kT 4000 157 = true := by kernel_rfl
theorem kt229 : ke229.check E0 kT 4000 92 = true := by kernel_rfl
theorem kt230 : ke230.check E0 kT 4000 53 = true := by kernel_rfl
theorem kt231 : ke231.check E0 kT 4000 87 = true := by kernel_rfl
theorem kt232 : ke232.check E0 kT 4000 259 = true := by kernel_rfl
theorem kt233 : ke233.check E0 kT 4000 179 = true := by kernel_rfl
theorem kt234 : ke234.check E0 kT 4000 259 = true := by kernel_rfl
theorem kt235 : ke235.check E0 kT 4000 242 = true := by kernel_rfl
theorem kt236 : ke236.check E0 kT 4000 180 = true := by kernel_rfl
theorem kt237 : ke237.check E0 kT 4000 259 = true := by kernel_rfl
theorem kt238 : ke238.check E0 kT 4000 244 = true := by kernel_rfl
end Go.Proofs.YtfcephkliamgfaaGreatDoor
