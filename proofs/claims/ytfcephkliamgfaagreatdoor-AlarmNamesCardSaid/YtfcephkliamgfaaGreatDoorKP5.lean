/- A table of proved calls: PRINTED BY memo.py. -/
import Derived.Test.YtfcephkliamgfaaGreatDoorKTab
import Derived.KernelRfl
namespace Go.Proofs.YtfcephkliamgfaaGreatDoor
open Go Go.Te
theorem kt169 : ke169.check E0 kT 4000 51 = true := by kernel_rfl
theorem kt170 : ke170.check E0 kT 4000 50 = true := by kernel_rfl
theorem kt171 : ke171.check E0 kT 4000 211 = true := by kernel_rfl
theorem kt172 : ke172.check E0 kT 4000 237 = true := by kernel_rfl
theorem kt173 : ke173.check E0 kT 4000 212 = true := by kernel_rfl
theorem kt174 : ke174.check E0 kT 4000 215 = true := by kernel_rfl
theorem kt175 : ke175.check E0 kT 4000 213 = true := by kernel_rfl
theorem kt176 : ke176.check E0 kT 4000 103 = true := by kernel_rfl
theorem kt177 : ke177.check E0 kT 4000 180 = true := by kernel_rfl
theorem kt178 : ke178.check E0 kT 4000 214 = true := by kernel_rfl
theorem kt179 : ke179.check E0 kT 4000 173 = true := by kernel_rfl
theorem kt180 : ke180.check E0 kT 4000 119 = true := by kernel_rfl
theorem kt181 : ke181.check E0 kT 4000 158 = true := by kernel_rfl
theorem kt182 : ke182.check E0 kT 4000 208 = true := by kernel_rfl
theorem kt183 : ke183.check E0 kT 4000 157 = true := by kernel_rfl
theorem kt184 : ke184.check E0 kT 4000 92 = true := by kernel_rfl
theorem kt185 : ke185.check E0 kT 4000 53 = true := by kernel_rfl
theorem kt186 : ke186.check E0 kT 4000 87 = true := by kernel_rfl
theorem kt187 : ke187.check E0 kT 4000 127 = true := by kernel_rfl
theorem kt188 : ke188.check E0 kT 4000 179 = true := by kernel_rfl
theorem kt189 : ke189.check E0 kT 4000 245 = true := by kernel_rfl
theorem kt190 : ke190.check E0 kT 4000 225 = true := by kernel_rfl
theorem kt191 : ke191.check E0 kT 4000 180 = true := by kernel_rfl
theorem kt192 : ke192.check E0 kT 4000 246 = true := by kernel_rfl
theorem kt193 : ke193.check E0 kT 4000 226 = true := by kernel_rfl
theorem kt194 : ke194.check E0 kT 4000 204 = true := by kernel_rfl
theorem kt195 : ke195.check E0 kT 4000 127 = true := by kernel_rfl
theorem kt196 : ke196.check E0 kT 4000 247 = true := by kernel_rfl
theorem kt197 : ke197.check E0 kT 4000 179 = true := by kernel_rfl
theorem kt198 : ke198.check E0 kT 4000 287 = true := by kernel_rfl
theorem kt199 : ke199.check E0 kT 4000 264 = true := by kernel_rfl
theorem kt200 : ke200.check E0 kT 4000 229 = true := by kernel_rfl
theorem kt201 : ke201.check E0 kT 4000 180 = true := by kernel_rfl
theorem kt202 : ke202.check E0 kT 4000 254 = true := by kernel_rfl
theorem kt203 : ke203.check E0 kT 4000 250 = true := by kernel_rfl
theorem kt204 : ke204.check E0 kT 4000 256 = true := by kernel_rfl
theorem kt205 : ke205.check E0 kT 4000 231 = true := by kernel_rfl
theorem kt206 : ke206.check E0 kT 4000 211 = true := by kernel_rfl
theorem kt207 : ke207.check E0 kT 4000 237 = true := by kernel_rfl
theorem kt208 : ke208.check E0 kT 4000 212 = true := by kernel_rfl
theorem kt209 : ke209.check E0 kT 4000 103 = true := by kernel_rfl
theorem kt210 : ke210.check E0 kT 4000 215 = true := by kernel_rfl
end Go.Proofs.YtfcephkliamgfaaGreatDoor
