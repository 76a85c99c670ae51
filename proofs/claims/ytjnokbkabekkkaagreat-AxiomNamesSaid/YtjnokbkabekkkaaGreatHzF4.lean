/- The example holds. -/
import Derived.Test.YtjnokbkabekkkaaGreatHzF3
set_option linter.all false
namespace Go.Proofs.Hz
open Go Go.Proofs
theorem f13 : PureF Tryz.prog 13 [] (.bool true) := evIs_sound (own := ownL) (tab := tab5) (n := 30) mixedM namesM tab5_ok (by kernel_rfl)
end Go.Proofs.Hz
