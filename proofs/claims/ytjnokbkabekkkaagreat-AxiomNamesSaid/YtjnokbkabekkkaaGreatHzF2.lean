/- The example's run: the book. -/
import Derived.Test.YtjnokbkabekkkaaGreatHzF1
set_option linter.all false
namespace Go.Proofs.Hz
open Go Go.Proofs
def mapV : AV := .view (probC ++ [(.sl .true 3 [[(.int .i64 0), (.bool .false), (.int .i64 0)], [(.int .i64 0), (.bool .false), (.int .i64 1)]]), (.sl .true 1 [[(.int .i64 0)]]), (.sl .true 1 [[(.int .i64 2)]])]) 0
def bookV : AV := .view (probC ++ [.nils, (.int .i64 0), .nils, .nils, (.int .i64 0), mapV]) 0
theorem f72 : PureF Tryz.prog 72 [.agg probC] mapV := evIs_sound (own := ownL) (tab := tab1) (n := 30) mixedM namesM tab1_ok (by kernel_rfl)
def tab2 : Tab := (39, [askV], .bool true) :: (72, [.agg probC], mapV) :: tab1
theorem tab2_ok : TabOk Tryz.prog tab2 := by
  intro e he
  simp only [tab2, List.mem_cons] at he
  rcases he with rfl | rfl | he
  · exact f39
  · exact f72
  · exact tab1_ok e he
theorem f40 : PureF Tryz.prog 40 [askV] bookV := evIs_sound (own := ownL) (tab := tab2) (n := 30) mixedM namesM tab2_ok (by kernel_rfl)
def tab3 : Tab := (40, [askV], bookV) :: tab2
theorem tab3_ok : TabOk Tryz.prog tab3 := by
  intro e he
  simp only [tab3, List.mem_cons] at he
  rcases he with rfl | he
  · exact f40
  · exact tab2_ok e (by simpa [tab2] using he)
end Go.Proofs.Hz
