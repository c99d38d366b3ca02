/- What the row lists of the package's variables, as the evaluator's globals. -/
import Derived.Test.YtfcephkliamgfaaGreatDoorFacts
namespace Go.Proofs.YtfcephkliamgfaaGreatDoor
open Go Go.Te
def tbl : List (List UInt8 × FuncId) := [( "(lamplighter/image.look).sizes".toUTF8.data.toList, 328), ( "(lamplighter/image.look).funcs".toUTF8.data.toList, 329), ( "(lamplighter/image.look).vecs".toUTF8.data.toList, 330), ( "(lamplighter/image.look).codes".toUTF8.data.toList, 331), ( "(lamplighter/image.look).atoms".toUTF8.data.toList, 332), ( "(lamplighter/image.look).circles".toUTF8.data.toList, 333)]
theorem tbl_ok : tblOk Tryz.prog tbl = true := by kernel_rfl
def laidL : List (String × DataW Unit) := [("lamplighter/word.signs", Rows.laid_lamplighter_word_signs), ("math/bits.deBruijn32tab", Rows.laid_math_bits_deBruijn32tab), ("lamplighter/code.kinds", Rows.laid_lamplighter_code_kinds), ("lamplighter/image.checks", Rows.laid_lamplighter_image_checks)]
theorem g0 : gvOk E0 Tryz.prog tbl laidL 0 ((gvT.get 0).getD []) := ⟨ "lamplighter/code.kinds", 264, by kernel_rfl, by kernel_rfl, .inl ⟨_, (.tail _ (.tail _ (.head _))), by kernel_rfl, by kernel_rfl⟩⟩
theorem g1 : gvOk E0 Tryz.prog tbl laidL 1 ((gvT.get 1).getD []) := ⟨ "lamplighter/image.checks", 270, by kernel_rfl, by kernel_rfl, .inr ⟨_, (.tail _ (.tail _ (.tail _ (.head _)))), by kernel_rfl⟩⟩
theorem g2 : gvOk E0 Tryz.prog tbl laidL 2 ((gvT.get 2).getD []) := ⟨ "lamplighter/word.signs", 359, by kernel_rfl, by kernel_rfl, .inl ⟨_, (.head _), by kernel_rfl, by kernel_rfl⟩⟩
theorem g3 : gvOk E0 Tryz.prog tbl laidL 3 ((gvT.get 3).getD []) := ⟨ "math/bits.deBruijn32tab", 385, by kernel_rfl, by kernel_rfl, .inl ⟨_, (.tail _ (.head _)), by kernel_rfl, by kernel_rfl⟩⟩
theorem gAll : gvT.All (fun g cs => gvOk E0 Tryz.prog tbl laidL g cs) := ⟨g2, ⟨g1, ⟨g0, trivial, trivial⟩, trivial⟩, ⟨g3, trivial, trivial⟩⟩
theorem init {W : World} (h : laidMetH Tryz.prog laidL W) : WR E0 W.heap.size (sgAll W) NoMu [] W := init_of_laid env0.toEnvOk tbl_ok h (fun g cs hg => gAll.of_get g cs hg)
end Go.Proofs.YtfcephkliamgfaaGreatDoor
