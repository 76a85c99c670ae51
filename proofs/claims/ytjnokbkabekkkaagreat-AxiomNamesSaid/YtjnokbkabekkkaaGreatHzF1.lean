/- The example's run: first calls. -/
import Derived.Test.YtjnokbkabekkkaaGreatHzF0
set_option linter.all false
namespace Go.Proofs.Hz
open Go Go.Proofs
def probC : List AV := [(.str (ByteArray.mk ⟨[112]⟩)), (.int .i64 1), (.int .i64 1), (.int .i64 2), .nils, .nils, (.sl .true 2 [[(.str (ByteArray.mk ⟨[97, 100, 97]⟩)), (.sl .true 4 [[(.int .u32 1), (.int .u8 1), (.int .i64 0), (.int .i64 1)]])]]), (.sl .true 7 [[(.str (ByteArray.mk ⟨[97]⟩)), (.int .i64 0), (.int .u16 0), (.sl .true 1 [[(.int .i64 0)]]), (.sl .true 5 [[(.int .u32 1), (.int .u8 1), (.int .i64 0), (.int .i64 1), (.int .i64 0)], [(.int .u32 1), (.int .u8 1), (.int .i64 1), (.int .i64 1), (.int .i64 0)]]), .nils, (.int .i64 (-1))]]), .nils, .nils, .nils, (.int .i64 0), (.int .i64 0), (.int .i64 0), (.int .i64 0)]
def askV : AV := .agg (probC ++ [.nils, (.int .i64 0), .nils, .nils, (.int .i64 0)])
theorem f44 : PureF Tryz.prog 44 [] askV := evIs_sound (own := ownL) (tab := []) (n := 30) mixedM namesM (fun _ h => nomatch h) (by kernel_rfl)
theorem f68 : PureF Tryz.prog 68 [.agg probC] (.bool true) := evIs_sound (own := ownL) (tab := []) (n := 30) mixedM namesM (fun _ h => nomatch h) (by kernel_rfl)
def tab1 : Tab := [(44, [], askV), (68, [.agg probC], .bool true)]
theorem tab1_ok : TabOk Tryz.prog tab1 := by
  intro e he
  simp only [tab1, List.mem_cons, List.not_mem_nil, or_false] at he
  rcases he with rfl | rfl
  · exact f44
  · exact f68
theorem f39 : PureF Tryz.prog 39 [askV] (.bool true) := evIs_sound (own := ownL) (tab := tab1) (n := 30) mixedM namesM tab1_ok (by kernel_rfl)
end Go.Proofs.Hz
