/- A table of proved calls: PRINTED BY memo.py. -/
import Derived.Test.YtfcephkliamgfaaGreatDoorKTab
import Derived.KernelRfl
namespace Go.Proofs.YtfcephkliamgfaaGreatDoor
open Go Go.Te
theorem kt137 : ke137.check E0 kT 4000 87 = true := by kernel_rfl
theorem kt138 : ke138.check E0 kT 4000 51 = true := by kernel_rfl
theorem kt139 : ke139.check E0 kT 4000 198 = true := by kernel_rfl
theorem kt140 : ke140.check E0 kT 4000 199 = true := by kernel_rfl
theorem kt141 : ke141.check E0 kT 4000 149 = true := by kernel_rfl
theorem kt142 : ke142.check E0 kT 4000 147 = true := by kernel_rfl
theorem kt143 : ke143.check E0 kT 4000 94 = true := by kernel_rfl
theorem kt144 : ke144.check E0 kT 4000 54 = true := by kernel_rfl
theorem kt145 : ke145.check E0 kT 4000 51 = true := by kernel_rfl
theorem kt146 : ke146.check E0 kT 4000 50 = true := by kernel_rfl
theorem kt147 : ke147.check E0 kT 4000 211 = true := by kernel_rfl
theorem kt148 : ke148.check E0 kT 4000 237 = true := by kernel_rfl
theorem kt149 : ke149.check E0 kT 4000 212 = true := by kernel_rfl
theorem kt150 : ke150.check E0 kT 4000 215 = true := by kernel_rfl
theorem kt151 : ke151.check E0 kT 4000 213 = true := by kernel_rfl
theorem kt152 : ke152.check E0 kT 4000 180 = true := by kernel_rfl
theorem kt153 : ke153.check E0 kT 4000 214 = true := by kernel_rfl
theorem kt154 : ke154.check E0 kT 4000 173 = true := by kernel_rfl
theorem kt155 : ke155.check E0 kT 4000 119 = true := by kernel_rfl
theorem kt156 : ke156.check E0 kT 4000 158 = true := by kernel_rfl
theorem kt157 : ke157.check E0 kT 4000 208 = true := by kernel_rfl
theorem kt158 : ke158.check E0 kT 4000 157 = true := by kernel_rfl
theorem kt159 : ke159.check E0 kT 4000 92 = true := by kernel_rfl
theorem kt160 : ke160.check E0 kT 4000 53 = true := by kernel_rfl
theorem kt161 : ke161.check E0 kT 4000 147 = true := by kernel_rfl
theorem kt162 : ke162.check E0 kT 4000 87 = true := by kernel_rfl
theorem kt163 : ke163.check E0 kT 4000 177 = true := by kernel_rfl
theorem kt164 : ke164.check E0 kT 4000 178 = true := by kernel_rfl
theorem kt165 : ke165.check E0 kT 4000 128 = true := by kernel_rfl
theorem kt166 : ke166.check E0 kT 4000 147 = true := by kernel_rfl
theorem kt167 : ke167.check E0 kT 4000 94 = true := by kernel_rfl
theorem kt168 : ke168.check E0 kT 4000 54 = true := by kernel_rfl
end Go.Proofs.YtfcephkliamgfaaGreatDoor
