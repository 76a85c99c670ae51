/- A part of the proof: N1. -/
import Derived.Test.YtjnokbkabekkkaaGreatHzT1
import Derived.Test.YtjnokbkabekkkaaGreatHzStr
import Derived.Test.YtjnokbkabekkkaaGreatHzF4
import Derived.Test.YtjnokbkabekkkaaGreatHzGood
set_option linter.all false
namespace Go.Proofs.Hz
open Go Go.Proofs

def strs (nn : Bool) (l : List ByteArray) : AV := .sl nn 1 (l.map fun s => [.str s])
def idxFrom : List ByteArray → Int → ByteArray → Int
  | [], _, _ => -1
  | x :: l, i, s => if s = x then i else idxFrom l (i + 1) s
theorem Index63 (nn : Bool) (l : List ByteArray) (s : ByteArray) (hl : l.length ≤ 9223372036854775807) : PureF Tryz.prog 63 [strs nn l, .str s] (.int .i64 (idxFrom l 0 s)) := by
  refine pure_body [0, 1, 4, 5, 7, 8] Tryz.func63 rfl Tryz.ntmps63 rfl rfl ?_
  simp [strs]
  refine W_loopk [0, 1, 7, 8] [] (fun n ρ σ => ∃ i : Nat, i ≤ l.length ∧ n = l.length - i ∧ ρ = [(0, strs nn l), (1, .str s), (7, .int .i64 l.length), (8, .int .i64 i)] ∧ σ = [] ∧ idxFrom (l.drop i) i s = idxFrom l 0 s) l.length ⟨0, by simp [strs]⟩ ?_
  rintro n ρ σ ⟨i, hi, rfl, rfl, rfl, ht⟩
  by_cases hlt : i < l.length
  · rw [List.drop_eq_getElem_cons hlt, idxFrom] at ht
    by_cases he : s = l[i]
    · simp [strs, hlt, strop_eql, ← he]
      simpa [← he] using ht
    · simp [strs, hlt, strop_eql, he, wrap_succ (show i < 9223372036854775807 by omega)]
      refine ⟨_, by omega, i + 1, by omega, rfl, by omega, ?_⟩
      simpa [he] using ht
  · rw [List.drop_of_length_le (by omega), idxFrom] at ht
    simp [strs, hlt, ht]
def axNames : List ByteArray := [⟨#[116, 105, 109, 101]⟩, ⟨#[112, 108, 97, 99, 101]⟩, ⟨#[111, 110, 101]⟩, ⟨#[97, 119, 97, 121]⟩, ⟨#[102, 105, 116]⟩, ⟨#[115, 104, 117, 116]⟩, ⟨#[112, 101, 114, 115, 111, 110]⟩, ⟨#[114, 111, 111, 109]⟩, ⟨#[114, 117, 108, 101]⟩, ⟨#[104, 97, 108, 108]⟩, ⟨#[98, 117, 100, 103, 101, 116]⟩]
def axName (k : Int) : ByteArray := if 1 ≤ k ∧ k ≤ 11 then axNames.getD (k - 1).toNat ⟨#[]⟩ else ⟨#[]⟩
theorem f64 : PureF Tryz.prog 64 [] (strs true axNames) := evIs_sound (own := ownL) (tab := tab5) (n := 30) mixedM namesM tab5_ok (by kernel_rfl)
theorem kinds_eq {k : Int} (h : 1 ≤ k ∧ k ≤ 11) : k = 1 ∨ k = 2 ∨ k = 3 ∨ k = 4 ∨ k = 5 ∨ k = 6 ∨ k = 7 ∨ k = 8 ∨ k = 9 ∨ k = 10 ∨ k = 11 := by omega
theorem Name31 (k : Int) : PureF Tryz.prog 31 [.int .i64 k] (.str (axName k)) := by
  by_cases h : 1 ≤ k ∧ k ≤ 11
  · rcases kinds_eq h with rfl | rfl | rfl | rfl | rfl | rfl | rfl | rfl | rfl | rfl | rfl <;> exact evIs_sound (own := ownL) (tab := tab5) (n := 30) mixedM namesM tab5_ok (by kernel_rfl)
  · refine pure_body [0, 2, 8] Tryz.func31 rfl Tryz.ntmps31 rfl rfl ?_
    rw [axName, if_neg h]
    by_cases h1 : k < 1
    · simp [h1]
    · have : k > 11 := by omega
      simp [h1, this]
theorem Name32 (k : Int) : PureF Tryz.prog 32 [.int .i64 k] (.str (axName k)) := by
  by_cases h : 1 ≤ k ∧ k ≤ 11
  · rcases kinds_eq h with rfl | rfl | rfl | rfl | rfl | rfl | rfl | rfl | rfl | rfl | rfl <;> exact evIs_sound (own := ownL) (tab := tab5) (n := 30) mixedM namesM tab5_ok (by kernel_rfl)
  · refine pure_body [0, 2, 10] Tryz.func32 rfl Tryz.ntmps32 rfl rfl ?_
    rw [axName, if_neg h]
    by_cases h1 : k < 1
    · simp [h1]
    · have : k > 11 := by omega
      simp [h1, this]
end Go.Proofs.Hz
