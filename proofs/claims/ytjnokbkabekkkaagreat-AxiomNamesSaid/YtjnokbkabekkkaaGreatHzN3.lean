/- A part of the proof: N3. -/
import Derived.Test.YtjnokbkabekkkaaGreatHzN2
set_option linter.all false
set_option maxRecDepth 20000
namespace Go.Proofs.Hz
open Go Go.Proofs

structure Ax where
  kind : Int
  index : Int
  lits : List Int
  deriving DecidableEq
@[simp] def Ax.cells (nn : Bool) (x : Ax) : List AV := [.int .i64 x.kind, .int .i64 x.index, ints nn x.lits]
theorem Same33 (n1 n2 : Bool) (x y : Ax) (hx : x.lits.length ≤ 9223372036854775807) : PureF Tryz.prog 33 [.agg (x.cells n1), .agg (y.cells n2)] (.bool (decide (x = y))) := by
  refine pure_body [0, 1, 2, 3, 4] Tryz.func33 rfl Tryz.ntmps33 rfl rfl ?_
  obtain ⟨k, i, l⟩ := x
  obtain ⟨k', i', l'⟩ := y
  by_cases h1 : k = k'
  · by_cases h2 : i = i'
    · subst h1 h2
      simp [ints]
      refine W_c rfl (Equal65 n1 n2 l l' hx) rfl (by simp [ints]) rfl ?_
      simp
    · simp [h1, h2, ints]
  · simp [h1, ints]
theorem Same34 (n1 n2 : Bool) (x y : Ax) (hx : x.lits.length < 9223372036854775807) : PureF Tryz.prog 34 [.agg (x.cells n1), .agg (y.cells n2)] (.bool (decide (x = y))) := by
  refine pure_body [0, 1, 2, 3, 4] Tryz.func34 rfl Tryz.ntmps34 rfl rfl ?_
  obtain ⟨k, i, l⟩ := x
  obtain ⟨k', i', l'⟩ := y
  by_cases h1 : k = k'
  · by_cases h2 : i = i'
    · subst h1 h2
      simp [ints]
      refine W_c rfl (Same66 n1 n2 l l' hx) rfl (by simp [ints]) rfl ?_
      simp
    · simp [h1, h2, ints]
  · simp [h1, ints]
end Go.Proofs.Hz
