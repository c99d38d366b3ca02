/- A table of proved calls: PRINTED BY memo.py. -/
import Derived.Test.YtphpoeekchcmkaaGreatDoorKTab
import Derived.KernelRfl
namespace Go.Proofs.YtphpoeekchcmkaaGreatDoor
open Go Go.Te
theorem kt196 : ke196.check E0 kT 4000 112 = true := by kernel_rfl
theorem kt197 : ke197.check E0 kT 4000 50 = true := by kernel_rfl
theorem kt198 : ke198.check E0 kT 4000 83 = true := by kernel_rfl
theorem kt199 : ke199.check E0 kT 4000 49 = true := by kernel_rfl
theorem kt200 : ke200.check E0 kT 4000 89 = true := by kernel_rfl
theorem kt201 : ke201.check E0 kT 4000 148 = true := by kernel_rfl
theorem kt202 : ke202.check E0 kT 4000 135 = true := by kernel_rfl
theorem kt203 : ke203.check E0 kT 4000 136 = true := by kernel_rfl
theorem kt204 : ke204.check E0 kT 4000 96 = true := by kernel_rfl
theorem kt205 : ke205.check E0 kT 4000 89 = true := by kernel_rfl
theorem kt206 : ke206.check E0 kT 4000 53 = true := by kernel_rfl
theorem kt207 : ke207.check E0 kT 4000 30 = true := by kernel_rfl
theorem kt208 : ke208.check E0 kT 4000 112 = true := by kernel_rfl
theorem kt209 : ke209.check E0 kT 4000 50 = true := by kernel_rfl
theorem kt210 : ke210.check E0 kT 4000 127 = true := by kernel_rfl
theorem kt211 : ke211.check E0 kT 4000 180 = true := by kernel_rfl
theorem kt212 : ke212.check E0 kT 4000 155 = true := by kernel_rfl
theorem kt213 : ke213.check E0 kT 4000 168 = true := by kernel_rfl
theorem kt214 : ke214.check E0 kT 4000 156 = true := by kernel_rfl
theorem kt215 : ke215.check E0 kT 4000 142 = true := by kernel_rfl
theorem kt216 : ke216.check E0 kT 4000 158 = true := by kernel_rfl
theorem kt217 : ke217.check E0 kT 4000 122 = true := by kernel_rfl
theorem kt218 : ke218.check E0 kT 4000 80 = true := by kernel_rfl
theorem kt219 : ke219.check E0 kT 4000 125 = true := by kernel_rfl
theorem kt220 : ke220.check E0 kT 4000 159 = true := by kernel_rfl
theorem kt221 : ke221.check E0 kT 4000 124 = true := by kernel_rfl
theorem kt222 : ke222.check E0 kT 4000 83 = true := by kernel_rfl
theorem kt223 : ke223.check E0 kT 4000 49 = true := by kernel_rfl
theorem kt224 : ke224.check E0 kT 4000 148 = true := by kernel_rfl
theorem kt225 : ke225.check E0 kT 4000 102 = true := by kernel_rfl
end Go.Proofs.YtphpoeekchcmkaaGreatDoor
