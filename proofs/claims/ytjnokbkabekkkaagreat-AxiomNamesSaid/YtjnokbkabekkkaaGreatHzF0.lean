/- The example's run: what the tables stand on. -/
import Derived.Test.YtjnokbkabekkkaaGreatHzEv4
import Derived.Test.YtjnokbkabekkkaaGreatHzTy
set_option linter.all false
namespace Go.Proofs.Hz
open Go Go.Proofs
theorem mixedM : Tryz.prog.follows .mixedOrders = true := by kernel_rfl
theorem namesM : ∀ (f : FuncId) (fn : Func), Tryz.prog.funcs[f]? = some fn → (fn.name == "runtime.NumGoroutine") = false := names_ok (by kernel_rfl)
def ownL : List (Nat × List Nat) := let a := [0, 1, 2, 3, 4, 5, 6]; [(57, [1]), (58, a), (91, a), (92, a), (97, a), (114, a), (117, a), (165, a), (169, a), (170, a), (217, a), (231, a), (263, a), (264, a), (265, a), (266, a), (267, a), (268, a), (270, a), (271, a), (274, a), (289, a), (290, a), (291, a), (292, a), (293, a), (294, a), (295, a), (296, a), (306, a), (333, a), (334, a), (335, a), (336, a), (337, a), (340, a), (341, a), (342, a), (346, a), (347, a), (362, a), (363, a), (371, a), (386, a), (393, a), (397, a), (398, a), (399, a), (400, a), (401, a)]
end Go.Proofs.Hz
