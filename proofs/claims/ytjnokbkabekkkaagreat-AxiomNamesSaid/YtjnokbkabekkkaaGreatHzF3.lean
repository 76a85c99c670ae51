/- The example's run: what is an axiom of it; its class. -/
import Derived.Test.YtjnokbkabekkkaaGreatHzF2
set_option linter.all false
namespace Go.Proofs.Hz
open Go Go.Proofs
def axV (k : Int) (l : List Int) : AV := .agg [.int .i64 k, .int .i64 0, .sl true 1 (l.map fun x => [.int .i64 x])]
theorem f41a : PureF Tryz.prog 41 [bookV, axV 1 [1, 2]] (.bool true) := evIs_sound (own := ownL) (tab := tab3) (n := 30) mixedM namesM tab3_ok (by kernel_rfl)
theorem f41b : PureF Tryz.prog 41 [bookV, axV 3 [-1, -2]] (.bool true) := evIs_sound (own := ownL) (tab := tab3) (n := 30) mixedM namesM tab3_ok (by kernel_rfl)
theorem f41c : PureF Tryz.prog 41 [bookV, axV 4 [-1]] (.bool true) := evIs_sound (own := ownL) (tab := tab3) (n := 30) mixedM namesM tab3_ok (by kernel_rfl)
theorem f41d : PureF Tryz.prog 41 [bookV, axV 4 [-2]] (.bool false) := evIs_sound (own := ownL) (tab := tab3) (n := 30) mixedM namesM tab3_ok (by kernel_rfl)
def tab4 : Tab := (41, [bookV, axV 1 [1, 2]], .bool true) :: (41, [bookV, axV 3 [-1, -2]], .bool true) :: (41, [bookV, axV 4 [-1]], .bool true) :: (41, [bookV, axV 4 [-2]], .bool false) :: tab3
theorem tab4_ok : TabOk Tryz.prog tab4 := by
  intro e he
  simp only [tab4, List.mem_cons] at he
  rcases he with rfl | rfl | rfl | rfl | he
  · exact f41a
  · exact f41b
  · exact f41c
  · exact f41d
  · exact tab3_ok e (by simpa [tab3] using he)
def rowsV : AV := .sl true 3 [[.int .i64 1, .int .i64 0, .sl true 1 [[.int .i64 1], [.int .i64 2]]], [.int .i64 3, .int .i64 0, .sl true 1 [[.int .i64 (-1)], [.int .i64 (-2)]]], [.int .i64 4, .int .i64 0, .sl true 1 [[.int .i64 (-1)]]]]
theorem f23 : PureF Tryz.prog 23 [askV, .int .i64 0] rowsV := evIs_sound (own := ownL) (tab := tab4) (n := 30) mixedM namesM tab4_ok (by kernel_rfl)
def tab5 : Tab := (23, [askV, .int .i64 0], rowsV) :: tab4
theorem tab5_ok : TabOk Tryz.prog tab5 := by
  intro e he
  simp only [tab5, List.mem_cons] at he
  rcases he with rfl | he
  · exact f23
  · exact tab4_ok e (by simpa [tab4] using he)
end Go.Proofs.Hz
