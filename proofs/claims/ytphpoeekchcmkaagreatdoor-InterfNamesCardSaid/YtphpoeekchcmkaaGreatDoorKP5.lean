/- A table of proved calls: PRINTED BY memo.py. -/
import Derived.Test.YtphpoeekchcmkaaGreatDoorKTab
import Derived.KernelRfl
namespace Go.Proofs.YtphpoeekchcmkaaGreatDoor
open Go Go.Te
theorem kt164 : ke164.check E0 kT 4000 84 = true := by kernel_rfl
theorem kt165 : ke165.check E0 kT 4000 49 = true := by kernel_rfl
theorem kt166 : ke166.check E0 kT 4000 77 = true := by kernel_rfl
theorem kt167 : ke167.check E0 kT 4000 77 = true := by kernel_rfl
theorem kt168 : ke168.check E0 kT 4000 77 = true := by kernel_rfl
theorem kt169 : ke169.check E0 kT 4000 77 = true := by kernel_rfl
theorem kt170 : ke170.check E0 kT 4000 47 = true := by kernel_rfl
theorem kt171 : ke171.check E0 kT 4000 26 = true := by kernel_rfl
theorem kt172 : ke172.check E0 kT 4000 99 = true := by kernel_rfl
theorem kt173 : ke173.check E0 kT 4000 66 = true := by kernel_rfl
theorem kt174 : ke174.check E0 kT 4000 34 = true := by kernel_rfl
theorem kt175 : ke175.check E0 kT 4000 34 = true := by kernel_rfl
theorem kt176 : ke176.check E0 kT 4000 144 = true := by kernel_rfl
theorem kt177 : ke177.check E0 kT 4000 109 = true := by kernel_rfl
theorem kt178 : ke178.check E0 kT 4000 70 = true := by kernel_rfl
theorem kt179 : ke179.check E0 kT 4000 69 = true := by kernel_rfl
theorem kt180 : ke180.check E0 kT 4000 126 = true := by kernel_rfl
theorem kt181 : ke181.check E0 kT 4000 85 = true := by kernel_rfl
theorem kt182 : ke182.check E0 kT 4000 86 = true := by kernel_rfl
theorem kt183 : ke183.check E0 kT 4000 50 = true := by kernel_rfl
theorem kt184 : ke184.check E0 kT 4000 148 = true := by kernel_rfl
theorem kt185 : ke185.check E0 kT 4000 112 = true := by kernel_rfl
theorem kt186 : ke186.check E0 kT 4000 231 = true := by kernel_rfl
theorem kt187 : ke187.check E0 kT 4000 102 = true := by kernel_rfl
theorem kt188 : ke188.check E0 kT 4000 141 = true := by kernel_rfl
theorem kt189 : ke189.check E0 kT 4000 105 = true := by kernel_rfl
theorem kt190 : ke190.check E0 kT 4000 106 = true := by kernel_rfl
theorem kt191 : ke191.check E0 kT 4000 104 = true := by kernel_rfl
theorem kt192 : ke192.check E0 kT 4000 67 = true := by kernel_rfl
theorem kt193 : ke193.check E0 kT 4000 216 = true := by kernel_rfl
theorem kt194 : ke194.check E0 kT 4000 53 = true := by kernel_rfl
theorem kt195 : ke195.check E0 kT 4000 30 = true := by kernel_rfl
end Go.Proofs.YtphpoeekchcmkaaGreatDoor
