/- A part of the proof: N2. -/
import Derived.Test.YtjnokbkabekkkaaGreatHzN1
import Derived.Test.YtjnokbkabekkkaaGreatHzRule
set_option linter.all false
set_option maxRecDepth 20000
namespace Go.Proofs.Hz
open Go Go.Proofs

theorem idxFrom_bounds (s : ByteArray) : ∀ (l : List ByteArray) (i : Int), 0 ≤ i → idxFrom l i s = -1 ∨ (i ≤ idxFrom l i s ∧ idxFrom l i s < i + l.length)
  | [], i, _ => .inl rfl
  | x :: l, i, hi => by
    rw [idxFrom]
    split
    · right; simp; omega
    · rcases idxFrom_bounds s l (i + 1) (by omega) with h | h
      · exact .inl h
      · right; simp; omega
def axIdx (s : ByteArray) : Int := idxFrom axNames 0 s
theorem axIdx_bounds (s : ByteArray) : -1 ≤ axIdx s ∧ axIdx s ≤ 10 := by
  rcases idxFrom_bounds s axNames 0 (by omega) with h | h
  · unfold axIdx; omega
  · have : (axNames.length : Int) = 11 := by decide
    unfold axIdx; omega
def axKind (s : ByteArray) : AV := .tup [.int .i64 (axIdx s + 1), .bool (decide (axIdx s ≥ 0))]
theorem Kind29 (s : ByteArray) : PureF Tryz.prog 29 [.str s] (axKind s) := by
  refine pure_body [0, 2, 3, 4] Tryz.func29 rfl Tryz.ntmps29 rfl rfl ?_
  obtain ⟨h1, h2⟩ := axIdx_bounds s
  simp
  refine W_c rfl f64 rfl rfl rfl ?_
  simp
  refine W_c rfl (Index63 true axNames s (by decide)) rfl (by simp) rfl ?_
  simp
  rw [wrap_i64 (by unfold axIdx at h1; omega) (by unfold axIdx at h2; omega)]
  simp [axKind, axIdx]
theorem Kind30 (s : ByteArray) : PureF Tryz.prog 30 [.str s] (axKind s) := by
  refine pure_body [0, 2, 3, 4, 6, 12] Tryz.func30 rfl Tryz.ntmps30 rfl rfl ?_
  simp
  refine W_loopk [0, 4] [] (fun n ρ σ => ∃ i : Nat, i ≤ 11 ∧ n = 11 - i ∧ ρ = [(0, .str s), (4, .int .i64 (i + 1))] ∧ σ = [] ∧ idxFrom (axNames.drop i) i s = axIdx s) 11 ⟨0, by simp [axIdx]⟩ ?_
  rintro n ρ σ ⟨i, hi, rfl, rfl, rfl, ht⟩
  have hlen : axNames.length = 11 := by decide
  by_cases hlt : i < 11
  · have hlt' : i < axNames.length := by omega
    have hn : axName (i + 1) = axNames[i] := by
      rw [axName, if_pos (by omega), show ((i : Int) + 1 - 1).toNat = i by omega]
      simp [List.getD, hlt']
    rw [List.drop_eq_getElem_cons hlt', idxFrom, ← hn] at ht
    have hle : (i : Int) + 1 ≤ 11 := by omega
    simp [hle]
    refine W_c rfl (Name32 (i + 1)) rfl (by simp) rfl ?_
    by_cases he : s = axName (i + 1)
    · rw [if_pos he] at ht
      simp [strop_eql, ← he, axKind, ← ht]
    · rw [if_neg he] at ht
      have he' : ¬ axName (i + 1) = s := fun e => he e.symm
      simp [strop_eql, he']
      rw [wrap_i64 (by omega) (by omega)]
      exact ⟨_, by omega, i + 1, by omega, rfl, by omega, by simpa using ht⟩
  · have e : i = 11 := by omega
    subst e
    have : axNames.drop 11 = [] := by decide
    rw [this, idxFrom] at ht
    simp [axKind, ← ht]
theorem Equal65 (n1 n2 : Bool) (a b : List Int) (ha : a.length ≤ 9223372036854775807) : PureF Tryz.prog 65 [ints n1 a, ints n2 b] (.bool (decide (a = b))) := by
  refine pure_body [0, 1, 4, 5, 10, 12, 13, 24] Tryz.func65 rfl Tryz.ntmps65 rfl rfl ?_
  by_cases h : a.length = b.length
  · simp [ints, h]
    refine W_loopk [0, 1, 12, 13] [] (fun n ρ σ => ∃ i : Nat, i ≤ a.length ∧ n = a.length - i ∧ ρ = [(0, ints n1 a), (1, ints n2 b), (12, .int .i64 b.length), (13, .int .i64 i)] ∧ σ = [] ∧ a.take i = b.take i) a.length ⟨0, by simp [ints]⟩ ?_
    rintro n ρ σ ⟨i, hi, rfl, rfl, rfl, ht⟩
    by_cases hlt : i < a.length
    · have hlt2 : i < b.length := by omega
      simp [ints, hlt2]
      refine W_draw mixed rfl ?_
      by_cases he : a[i] = b[i]
      · simp [hlt, hlt2, he, wrap_succ (show i < 9223372036854775807 by omega)]
        exact ⟨_, by omega, i + 1, by omega, rfl, by omega, take_succ_eq hlt hlt2 ht he⟩
      · have hne : a ≠ b := fun e => he (by subst e; rfl)
        simp [hlt, hlt2, he, hne]
    · have e : a = b := by
        rw [List.take_of_length_le (by omega), List.take_of_length_le (by omega)] at ht; exact ht
      have hlt2 : ¬ i < b.length := by omega
      simp [ints, hlt, hlt2, e]
  · have hne : a ≠ b := fun e => h (by rw [e])
    have h' : ((a.length : Int) != b.length) = true := by simp; omega
    simp [ints, h', hne]
end Go.Proofs.Hz
