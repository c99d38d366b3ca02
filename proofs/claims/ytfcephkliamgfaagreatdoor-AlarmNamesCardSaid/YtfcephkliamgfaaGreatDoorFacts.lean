/- The evaluator's tables say what the program says. -/
import Derived.Test.YtfcephkliamgfaaGreatDoorEnv
import Derived.Test.YtfcephkliamgfaaGreatDoorTeEq
import Derived.Test.YtfcephkliamgfaaGreatDoorTeRow
import Derived.Test.YtfcephkliamgfaaGreatDoorRows
import Derived.KernelRfl
namespace Go.Proofs.YtfcephkliamgfaaGreatDoor
open Go Go.Te
theorem ti_rows : tyT.list.map (fun x => tiOf Tryz.prog x.1) = tyT.list.map (fun x => some x.2) := by kernel_rfl
theorem fn_rows : fnT.list.map (fun x => Tryz.prog.funcs[x.1]?) = fnT.list.map (fun x => some x.2) := by kernel_rfl
theorem fn_flags : (fnT.list.all fun x => x.2.body.isSome && !(x.2.name == "runtime.NumGoroutine")) = true := by kernel_rfl
theorem mixed : Tryz.prog.follows .mixedOrders = true := by kernel_rfl
theorem eq_rows : eqT.list.map (fun x => shapeP Tryz.prog 8 x.1) = eqT.list.map (fun x => some x.2) := by kernel_rfl
theorem eq_agg : (eqT.list.all fun x => aggP Tryz.prog x.1) = true := by kernel_rfl
theorem env0 : EnvOk2 E0 Tryz.prog where
  ti := fun t i h => tiOf_ok (rows_ok (f := fun x => tiOf Tryz.prog x) (g := fun x => some x) ti_rows h)
  fn := fun f g h => by
    have h1 := rows_ok (f := fun x => Tryz.prog.funcs[x]?) (g := fun x => some x) fn_rows h
    have h2 := List.all_eq_true.1 fn_flags _ (Tr.get_mem fnT f g h)
    simp only [Bool.and_eq_true, Bool.not_eq_true', beq_eq_false_iff_ne] at h2
    exact ⟨h1, h2⟩
  mixed := mixed
  eqs := eqs_ok eq_rows eq_agg (by kernel_rfl) (by kernel_rfl)

end Go.Proofs.YtfcephkliamgfaaGreatDoor
