/- Texts compared. -/
import Derived.Test.YtjnokbkabekkkaaGreatHzLoop
import Derived.WideShapes
set_option linter.all false
namespace Go.Proofs.Hz
open Go
theorem bytes_beq (a b : ByteArray) : (a.toList == b.toList) = decide (a = b) := by
  rw [ByteArray.toList_eq, ByteArray.toList_eq]
  by_cases h : a = b
  · subst h; simp
  · have : a.data.toList ≠ b.data.toList := fun e => h (Go.WideShapes.bytes_inj e)
    simp [h, this]
    exact fun e => h (by cases a; cases b; simp_all)
theorem strop_eql (a b : ByteArray) : strop .eql a b = some (.bool (decide (a = b))) := by
  simp [strop, bytes_beq]
theorem strop_neq (a b : ByteArray) : strop .neq a b = some (.bool (!decide (a = b))) := by
  simp [strop, bytes_beq]
theorem eq1_str (a b : ByteArray) : eq1 .str (.str a) (.str b) = some (decide (a = b)) := by
  simp [eq1, bytes_beq]
end Go.Proofs.Hz
