/- AxiomNames: the row. -/
import Derived.Test.YtjnokbkabekkkaaGreatRows
import Derived.Test.YtjnokbkabekkkaaGreatChecked
import Derived.Test.YtjnokbkabekkkaaGreatHzSeat
import Derived.Test.YtjnokbkabekkkaaGreatHzN4
import Derived.Test.YtjnokbkabekkkaaGreatHzLaw
import Derived.WalkKit
import Derived.ProofKit
set_option linter.all false
set_option maxRecDepth 100000
namespace Go.Proofs.YtjnokbkabekkkaaGreat
open Go Go.Proofs Go.Proofs.Hz

theorem int64s {es : List (List AV)} (h : ∀ x, x ∈ es → Hz.Good Tryz.prog 3 x) : ∃ l : List Int, es = l.map (fun x => [AV.int .i64 x]) ∧ ∀ x, x ∈ l → (Lit.int .i64 x).wf = true :=
  row_of fun x hx => (h x hx).int_inv un_3
theorem good_ax {cs : List AV} (h : GoodTs Tryz.prog [40, 3, 37] cs) : ∃ x : Ax, cs = x.cells false ∧ x.lits.length ≤ maxLen := by
  obtain ⟨a, b, rfl, ha, a', b', rfl, ha', a'', b'', rfl, ha'', rfl⟩ := h
  obtain ⟨k, rfl, _⟩ := ha.int_inv un_40
  obtain ⟨i, rfl, _⟩ := ha'.int_inv un_3
  obtain ⟨es, rfl, hl, he⟩ := ha''.slice_inv un_37
  obtain ⟨l, rfl, _⟩ := int64s he
  exact ⟨⟨k, i, l⟩, rfl, by simpa using hl⟩
theorem names_args {l : List AV} (h : GoodAs Tryz.prog [40, 9, 42, 42] l) : ∃ (k : Int) (s : ByteArray) (x y : Ax), l = [.int .i64 k, .str s, .agg (x.cells false), .agg (y.cells false)] := by
  obtain ⟨a, l, rfl, ha, b, l, rfl, hb, c, l, rfl, hc, d, l, rfl, hd, rfl⟩ := h
  obtain ⟨k, hk, _⟩ := (ha.one (by kernel_rfl)).int_inv un_40
  obtain ⟨s, hs, _⟩ := (hb.one (by kernel_rfl)).str_inv un_9
  obtain ⟨cs, rfl, hc2⟩ := hc.struct (show fieldTs Tryz.prog 42 = some [40, 3, 37] by kernel_rfl)
  obtain ⟨ds, rfl, hd2⟩ := hd.struct (show fieldTs Tryz.prog 42 = some [40, 3, 37] by kernel_rfl)
  obtain ⟨x, rfl, _⟩ := good_ax hc2
  obtain ⟨y, rfl, _⟩ := good_ax hd2
  simp at hk hs
  exact ⟨k, s, x, y, by rw [hk, hs]⟩
theorem names_place : Tryz.prog.inPlace 7 = [] := by kernel_rfl
theorem names_unfollowed : Tryz.prog.unfollowed 7 = true := by kernel_rfl
theorem names_recurses : Tryz.prog.recurses 7 = true := by unfold Program.recurses; rw [names_unfollowed]; rfl
theorem names_named : Tryz.prog.varsNamed 7 = [] := by kernel_rfl
theorem names_facts : joinedFacts Tryz.prog 7 Tryz.f7 Rows.axiomNamesSpec Rows.axiomNamesRow = true := by
  unfold joinedFacts
  rw [seat_laid, seat_maps, seat_stops, seat_knobs, seat_keys, seat_heard, seat_enter, seat_final, seat_make, names_place, names_unfollowed, names_recurses, names_named]
  kernel_rfl
theorem axiomNames_lifted (os : Os) (started : os.Started) (H : Type) (enc : TypeId × Value → H) :
    ReturnsInHanded {} Tryz.checked os 7 .any (Rows.axiomNamesSpec.pre6 enc Tryz.prog Tryz.f7 Rows.axiomNamesRow.domain false) (Rows.axiomNamesSpec.post enc Tryz.prog Tryz.f7 false true false false) :=
  law_lifted (C := Tryz.checked) (tb := 4) seat_own started (by kernel_rfl) Tryz.func7
    (ChangeSpec.witness6 (enc := enc) (C := Tryz.checked) false ⟨#[], #[.int .i64 0, .string ByteArray.empty, .agg #[.int .i64 0, .int .i64 0, .slice none 0 0], .agg #[.int .i64 0, .int .i64 0, .slice none 0 0]], []⟩ 8 (by kernel_rfl) (by kernel_rfl) (by kernel_rfl) (by kernel_rfl))
    rfl seat_laid (by kernel_rfl) (by kernel_rfl) rfl un_4
    (fun ds h => match ds, h with | [_, _, _, _], _ => rfl)
    (fun l h => by
      obtain ⟨k, s, x, y, rfl⟩ := names_args (show GoodAs Tryz.prog [40, 9, 42, 42] l from h)
      exact Names7 k s false false x y)
/-- Name, Kind and Same return the specified results. -/
theorem axiomNames_holds : Rows.AxiomNamesSaid :=
  OpenClaim.holds_of_wide 7 Tryz.f7 rfl rfl rfl rfl rfl rfl rfl ⟨rfl, rfl, rfl, rfl, rfl⟩ rfl rfl rfl rfl rfl (by kernel_rfl) Tryz.func7 names_facts
    (of_decide_eq_true (by kernel_rfl)) (by unfold Func.isWrapper; first | (rw [if_pos (by decide +kernel)]; kernel_rfl) | (rw [if_neg (by decide +kernel)]; exact ⟨rfl, rfl⟩))
    (fun os started H enc _ => axiomNames_lifted os started H enc)
#print axioms axiomNames_holds
end Go.Proofs.YtjnokbkabekkkaaGreat
