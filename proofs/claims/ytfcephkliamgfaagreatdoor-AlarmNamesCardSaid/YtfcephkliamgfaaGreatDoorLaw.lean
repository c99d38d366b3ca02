/- AlarmNames: the call returns true, and whatever lay before lies as it did; given what the row lists of the package's variables. -/
import Derived.Test.YtfcephkliamgfaaGreatDoorKAll
import Derived.Test.YtfcephkliamgfaaGreatDoorInit
namespace Go.Proofs.YtfcephkliamgfaaGreatDoor
open Go Go.Te
def isTrue : Option (AV × List AO) → Bool
  | some (.bool b, _) => b
  | _ => false
theorem root : isTrue ((te (E0.upTo kT 355) 4000).call 3 [] []) = true := by kernel_rfl
theorem isTrue_ok {x : Option (AV × List AO)} (h : isTrue x = true) : ∃ hp, x = some (.bool true, hp) := by
  unfold isTrue at h
  split at h
  · subst h; exact ⟨_, rfl⟩
  · cases h
theorem law {W : World} (h : laidMetH Tryz.prog laidL W) : Calls Tryz.prog 3 #[] W fun e W' => e = .returned (.bool true) ∧ Go.RowKit.Below W.heap.size W W' := by
  obtain ⟨hp, hr⟩ := isTrue_ok root
  have H : WR (E0.upTo kT 355) W.heap.size (sgAll W) NoMu [] W := WR.env (E := E0) (E' := E0.upTo kT 355) rfl rfl (init h)
  refine (te_calls (kOk env0) hr H VA.nil).mono ?_
  rintro e W' ⟨y, σ', μ', rfl, hy, hb⟩
  rw [VR_bool.1 hy]
  exact ⟨rfl, hb⟩
end Go.Proofs.YtfcephkliamgfaaGreatDoor
