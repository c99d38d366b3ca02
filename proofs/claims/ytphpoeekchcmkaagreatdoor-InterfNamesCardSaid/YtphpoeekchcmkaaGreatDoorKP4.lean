/- A table of proved calls: PRINTED BY memo.py. -/
import Derived.Test.YtphpoeekchcmkaaGreatDoorKTab
import Derived.KernelRfl
namespace Go.Proofs.YtphpoeekchcmkaaGreatDoor
open Go Go.Te
theorem kt127 : ke127.check E0 kT 4000 40 = true := by kernel_rfl
theorem kt128 : ke128.check E0 kT 4000 75 = true := by kernel_rfl
theorem kt129 : ke129.check E0 kT 4000 41 = true := by kernel_rfl
theorem kt130 : ke130.check E0 kT 4000 20 = true := by kernel_rfl
theorem kt131 : ke131.check E0 kT 4000 21 = true := by kernel_rfl
theorem kt132 : ke132.check E0 kT 4000 22 = true := by kernel_rfl
theorem kt133 : ke133.check E0 kT 4000 8 = true := by kernel_rfl
theorem kt134 : ke134.check E0 kT 4000 42 = true := by kernel_rfl
theorem kt135 : ke135.check E0 kT 4000 43 = true := by kernel_rfl
theorem kt136 : ke136.check E0 kT 4000 44 = true := by kernel_rfl
theorem kt137 : ke137.check E0 kT 4000 23 = true := by kernel_rfl
theorem kt138 : ke138.check E0 kT 4000 24 = true := by kernel_rfl
theorem kt139 : ke139.check E0 kT 4000 9 = true := by kernel_rfl
theorem kt140 : ke140.check E0 kT 4000 13 = true := by kernel_rfl
theorem kt141 : ke141.check E0 kT 4000 89 = true := by kernel_rfl
theorem kt142 : ke142.check E0 kT 4000 89 = true := by kernel_rfl
theorem kt143 : ke143.check E0 kT 4000 53 = true := by kernel_rfl
theorem kt144 : ke144.check E0 kT 4000 30 = true := by kernel_rfl
theorem kt145 : ke145.check E0 kT 4000 53 = true := by kernel_rfl
theorem kt146 : ke146.check E0 kT 4000 30 = true := by kernel_rfl
theorem kt147 : ke147.check E0 kT 4000 36 = true := by kernel_rfl
theorem kt148 : ke148.check E0 kT 4000 159 = true := by kernel_rfl
theorem kt149 : ke149.check E0 kT 4000 124 = true := by kernel_rfl
theorem kt150 : ke150.check E0 kT 4000 127 = true := by kernel_rfl
theorem kt151 : ke151.check E0 kT 4000 180 = true := by kernel_rfl
theorem kt152 : ke152.check E0 kT 4000 155 = true := by kernel_rfl
theorem kt153 : ke153.check E0 kT 4000 168 = true := by kernel_rfl
theorem kt154 : ke154.check E0 kT 4000 156 = true := by kernel_rfl
theorem kt155 : ke155.check E0 kT 4000 157 = true := by kernel_rfl
theorem kt156 : ke156.check E0 kT 4000 142 = true := by kernel_rfl
theorem kt157 : ke157.check E0 kT 4000 158 = true := by kernel_rfl
theorem kt158 : ke158.check E0 kT 4000 122 = true := by kernel_rfl
theorem kt159 : ke159.check E0 kT 4000 80 = true := by kernel_rfl
theorem kt160 : ke160.check E0 kT 4000 125 = true := by kernel_rfl
theorem kt161 : ke161.check E0 kT 4000 159 = true := by kernel_rfl
theorem kt162 : ke162.check E0 kT 4000 124 = true := by kernel_rfl
theorem kt163 : ke163.check E0 kT 4000 83 = true := by kernel_rfl
end Go.Proofs.YtphpoeekchcmkaaGreatDoor
