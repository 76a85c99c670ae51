/- A part of the proof: T1. -/
import Derived.Test.YtjnokbkabekkkaaGreatHzTy
import Derived.Test.YtjnokbkabekkkaaGreatHzWeak
set_option linter.all false
namespace Go.Proofs.Hz
open Go Go.Proofs

theorem mixed : Tryz.prog.follows .mixedOrders = true := by kernel_rfl
set_option maxHeartbeats 1000000 in
theorem Same66 (n1 n2 : Bool) (a b : List Int) (ha : a.length < 9223372036854775807) : PureF Tryz.prog 66 [ints n1 a, ints n2 b] (.bool (decide (a = b))) := by
  refine pure_body [0, 1, 4, 5] Tryz.func66 rfl Tryz.ntmps66 rfl rfl ?_
  by_cases h : a.length = b.length
  · simp [ints, h]
    refine W_loopk [0, 1, 5] [] (fun n ρ σ => ∃ i : Nat, i ≤ a.length ∧ n = a.length - i ∧ ρ = [(0, ints n1 a), (1, ints n2 b), (5, .int .i64 i)] ∧ σ = [] ∧ a.take i = b.take i) a.length ⟨0, by simp [ints]⟩ ?_
    rintro n ρ σ ⟨i, hi, rfl, rfl, rfl, ht⟩
    by_cases hlt : i < a.length
    · have hlt2 : i < b.length := by omega
      simp [ints, hlt]
      refine W_draw mixed rfl ?_
      by_cases he : a[i] = b[i]
      · simp [hlt, hlt2, he, wrap_succ (show i < 9223372036854775807 by omega)]
        exact ⟨_, by omega, i + 1, by omega, rfl, by omega, take_succ_eq hlt hlt2 ht he⟩
      · have hne : a ≠ b := fun e => he (by subst e; rfl)
        simp [hlt, hlt2, he, hne]
    · have e : a = b := by
        rw [List.take_of_length_le (by omega), List.take_of_length_le (by omega)] at ht; exact ht
      have hlt2 : ¬ i < b.length := by omega
      simp [ints, hlt, hlt2, e]
  · have hne : a ≠ b := fun e => h (by rw [e])
    have h' : ((a.length : Int) != b.length) = true := by simp; omega
    simp [ints, h', hne]
end Go.Proofs.Hz
