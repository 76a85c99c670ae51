/- A part of the proof: N4. -/
import Derived.Test.YtjnokbkabekkkaaGreatHzN3
set_option linter.all false
set_option maxRecDepth 20000
namespace Go.Proofs.Hz
open Go Go.Proofs

theorem Names7 (k : Int) (s : ByteArray) (n1 n2 : Bool) (x y : Ax) : PureF Tryz.prog 7 [.int .i64 k, .str s, .agg (x.cells n1), .agg (y.cells n2)] (.bool true) := by
  refine pure_body [0, 1, 2, 3, 6, 7, 8, 9, 10, 11, 12, 32] Tryz.func7 rfl Tryz.ntmps7 rfl rfl ?_
  simp [ints]
  refine W_c rfl (Kind29 s) rfl (by simp) rfl ?_
  simp [axKind]
  refine W_c rfl (Kind30 s) rfl (by simp) rfl ?_
  by_cases hx : 1000 < (x.lits.length : Int)
  · simp [axKind, ints, hx]
    refine W_c rfl f13 rfl (by simp) rfl ?_
    simp
  by_cases hy : 1000 < (y.lits.length : Int)
  · simp [axKind, ints, hx, hy]
    refine W_c rfl f13 rfl (by simp) rfl ?_
    simp
  simp [axKind, ints, hx, hy]
  refine W_draw mixed rfl ?_
  simp
  refine W_dc rfl (Name31 k) rfl (by simp) rfl ?_
  simp
  refine W_dc rfl (Name32 k) rfl (by simp) rfl ?_
  simp
  refine W_dc rfl (Same33 n1 n2 x y (by omega)) rfl (by simp [ints]) rfl ?_
  simp
  refine W_dc rfl (Same34 n1 n2 x y (by omega)) rfl (by simp [ints]) rfl ?_
  simp
  refine W_dc rfl (Same33 n1 n1 x x (by omega)) rfl (by simp [ints]) rfl ?_
  simp
  refine W_dc rfl f13 rfl (by simp) rfl ?_
  simp
end Go.Proofs.Hz
