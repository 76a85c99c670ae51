/-
  No cell of these rows narrows 'for every input' (looked for: loops, veiled, ifaces, maps, wideKeys, modest, calm, conditions, laid).
  DERIVED. THE GIVEN ROWS OF THIS SEAT. 7 by the template 'for every input the law returns true; each argument reads behind the call as it read before'; 0 by the template 'total and deterministic' (their statements: YtjnokbkabekkkaaGreatTotals.lean).
  GIVEN WITH THE SEED: the statements are not yours to turn. If you find one false, say at which input.
  Laid BY PROGRAM, IN A SANDBOX (cutbox-rows.mjs): the forced cells as the released guide's own fill.sh prints them over the translation c680dd42b69265c9… (all of the seat's roots in one cut). By AI agents, Wed Nov 11 2026. No macro, syntax, notation, axiom, sorry.
-/
import Derived.Test.YtjnokbkabekkkaaGreatChecked
import GoSem.Claim
import GoSem.ClaimJoined
import GoSem.ClaimMapViews
import Derived.JoinedTies
import Derived.KernelRfl
namespace Go.Proofs.YtjnokbkabekkkaaGreat
/- THE CELL 'sum', in the pinned program and in every row, IS THE sha256 OF THE DUMP (.gsa) THAT YtjnokbkabekkkaaGreatProg.lean LOADS. Nothing in Lean hashes anything: it is a label: what it is worth is what the hold of that sum in a sandbox is worth. -/
noncomputable def Tryz.pinned : Pinned := { name := "ytjnokbkabekkkaagreat", sum := "c680dd42b69265c9cbfc99c4f742acd8b4386ec6023df3a6fb44d85851915d82", checked := Tryz.checked }
namespace Rows
def none {H : Type} : Left H := { results := [], args := [] }

/-- 'horariumlaw29.AxiomHolds': WHATEVER THE INPUT: true; the input reads as it did. -/
def axiomHoldsSpec : ChangeSpec := { name := "axiomHolds", fn := fun _ => fun
  | [d1, d2] => { results := [.lit (.bool true)], args := [d1, d2] }
  | _ => none }
def axiomHoldsRow : OpenClaim := { program := "ytjnokbkabekkkaagreat", sum := "c680dd42b69265c9cbfc99c4f742acd8b4386ec6023df3a6fb44d85851915d82", func := "horarium/horariumlaw29.AxiomHolds", spec := "axiomHolds", unfollowed := true, recurses := true, plainKeys := false, apart := false }
def AxiomHoldsSaid : Prop := axiomHoldsRow.holds Tryz.pinned (OpenSpec.ofChange axiomHoldsSpec)

/-- ITS FALSE NEIGHBOUR: 'it returns false'. Refute it at one input. -/
def axiomHoldsWrong : ChangeSpec := { name := "axiomHolds", fn := fun _ => fun
  | [d1, d2] => { results := [.lit (.bool false)], args := [d1, d2] }
  | _ => none }
def AxiomHoldsWrongFalsely : Prop := axiomHoldsRow.holds Tryz.pinned (OpenSpec.ofChange axiomHoldsWrong)

/-- 'horariumlaw29.AxiomRights': WHATEVER THE INPUT: true; the input reads as it did. -/
def axiomRightsSpec : ChangeSpec := { name := "axiomRights", fn := fun _ => fun
  | [d1, d2] => { results := [.lit (.bool true)], args := [d1, d2] }
  | _ => none }
def axiomRightsRow : OpenClaim := { program := "ytjnokbkabekkkaagreat", sum := "c680dd42b69265c9cbfc99c4f742acd8b4386ec6023df3a6fb44d85851915d82", func := "horarium/horariumlaw29.AxiomRights", spec := "axiomRights", unfollowed := true, recurses := true, plainKeys := false, apart := false }
def AxiomRightsSaid : Prop := axiomRightsRow.holds Tryz.pinned (OpenSpec.ofChange axiomRightsSpec)

/-- ITS FALSE NEIGHBOUR: 'it returns false'. Refute it at one input. -/
def axiomRightsWrong : ChangeSpec := { name := "axiomRights", fn := fun _ => fun
  | [d1, d2] => { results := [.lit (.bool false)], args := [d1, d2] }
  | _ => none }
def AxiomRightsWrongFalsely : Prop := axiomRightsRow.holds Tryz.pinned (OpenSpec.ofChange axiomRightsWrong)

/-- 'horariumlaw29.AxiomClass': WHATEVER THE INPUT: true; the input reads as it did. -/
def axiomClassSpec : ChangeSpec := { name := "axiomClass", fn := fun _ => fun
  | [d1, d2] => { results := [.lit (.bool true)], args := [d1, d2] }
  | _ => none }
def axiomClassRow : OpenClaim := { program := "ytjnokbkabekkkaagreat", sum := "c680dd42b69265c9cbfc99c4f742acd8b4386ec6023df3a6fb44d85851915d82", func := "horarium/horariumlaw29.AxiomClass", spec := "axiomClass", unfollowed := true, recurses := true, plainKeys := false, apart := false }
def AxiomClassSaid : Prop := axiomClassRow.holds Tryz.pinned (OpenSpec.ofChange axiomClassSpec)

/-- ITS FALSE NEIGHBOUR: 'it returns false'. Refute it at one input. -/
def axiomClassWrong : ChangeSpec := { name := "axiomClass", fn := fun _ => fun
  | [d1, d2] => { results := [.lit (.bool false)], args := [d1, d2] }
  | _ => none }
def AxiomClassWrongFalsely : Prop := axiomClassRow.holds Tryz.pinned (OpenSpec.ofChange axiomClassWrong)

/-- 'horariumlaw29.AxiomReasons': WHATEVER THE INPUT: true; the input reads as it did. -/
def axiomReasonsSpec : ChangeSpec := { name := "axiomReasons", fn := fun _ => fun
  | [d1, d2] => { results := [.lit (.bool true)], args := [d1, d2] }
  | _ => none }
def axiomReasonsRow : OpenClaim := { program := "ytjnokbkabekkkaagreat", sum := "c680dd42b69265c9cbfc99c4f742acd8b4386ec6023df3a6fb44d85851915d82", func := "horarium/horariumlaw29.AxiomReasons", spec := "axiomReasons", unfollowed := true, recurses := true, plainKeys := false, apart := false }
def AxiomReasonsSaid : Prop := axiomReasonsRow.holds Tryz.pinned (OpenSpec.ofChange axiomReasonsSpec)

/-- ITS FALSE NEIGHBOUR: 'it returns false'. Refute it at one input. -/
def axiomReasonsWrong : ChangeSpec := { name := "axiomReasons", fn := fun _ => fun
  | [d1, d2] => { results := [.lit (.bool false)], args := [d1, d2] }
  | _ => none }
def AxiomReasonsWrongFalsely : Prop := axiomReasonsRow.holds Tryz.pinned (OpenSpec.ofChange axiomReasonsWrong)

/-- 'horariumlaw29.AxiomNames': WHATEVER THE INPUT: true; the input reads as it did. -/
def axiomNamesSpec : ChangeSpec := { name := "axiomNames", fn := fun _ => fun
  | [d1, d2, d3, d4] => { results := [.lit (.bool true)], args := [d1, d2, d3, d4] }
  | _ => none }
def axiomNamesRow : OpenClaim := { program := "ytjnokbkabekkkaagreat", sum := "c680dd42b69265c9cbfc99c4f742acd8b4386ec6023df3a6fb44d85851915d82", func := "horarium/horariumlaw29.AxiomNames", spec := "axiomNames", unfollowed := true, recurses := true, plainKeys := false, apart := false }
def AxiomNamesSaid : Prop := axiomNamesRow.holds Tryz.pinned (OpenSpec.ofChange axiomNamesSpec)

/-- ITS FALSE NEIGHBOUR: 'it returns false'. Refute it at one input. -/
def axiomNamesWrong : ChangeSpec := { name := "axiomNames", fn := fun _ => fun
  | [d1, d2, d3, d4] => { results := [.lit (.bool false)], args := [d1, d2, d3, d4] }
  | _ => none }
def AxiomNamesWrongFalsely : Prop := axiomNamesRow.holds Tryz.pinned (OpenSpec.ofChange axiomNamesWrong)

/-- 'horariumlaw29.AxiomPair': WHATEVER THE INPUT: true; the input reads as it did. -/
def axiomPairSpec : ChangeSpec := { name := "axiomPair", fn := fun _ => fun
  | [d1, d2, d3] => { results := [.lit (.bool true)], args := [d1, d2, d3] }
  | _ => none }
def axiomPairRow : OpenClaim := { program := "ytjnokbkabekkkaagreat", sum := "c680dd42b69265c9cbfc99c4f742acd8b4386ec6023df3a6fb44d85851915d82", func := "horarium/horariumlaw29.AxiomPair", spec := "axiomPair", unfollowed := true, recurses := true, plainKeys := false, apart := false }
def AxiomPairSaid : Prop := axiomPairRow.holds Tryz.pinned (OpenSpec.ofChange axiomPairSpec)

/-- ITS FALSE NEIGHBOUR: 'it returns false'. Refute it at one input. -/
def axiomPairWrong : ChangeSpec := { name := "axiomPair", fn := fun _ => fun
  | [d1, d2, d3] => { results := [.lit (.bool false)], args := [d1, d2, d3] }
  | _ => none }
def AxiomPairWrongFalsely : Prop := axiomPairRow.holds Tryz.pinned (OpenSpec.ofChange axiomPairWrong)

/-- 'horariumlaw29.AxiomAll': WHATEVER THE INPUT: true; the input reads as it did. -/
def axiomAllSpec : ChangeSpec := { name := "axiomAll", fn := fun _ => fun
  | [d1, d2, d3] => { results := [.lit (.bool true)], args := [d1, d2, d3] }
  | _ => none }
def axiomAllRow : OpenClaim := { program := "ytjnokbkabekkkaagreat", sum := "c680dd42b69265c9cbfc99c4f742acd8b4386ec6023df3a6fb44d85851915d82", func := "horarium/horariumlaw29.AxiomAll", spec := "axiomAll", unfollowed := true, recurses := true, plainKeys := false, apart := false }
def AxiomAllSaid : Prop := axiomAllRow.holds Tryz.pinned (OpenSpec.ofChange axiomAllSpec)

/-- ITS FALSE NEIGHBOUR: 'it returns false'. Refute it at one input. -/
def axiomAllWrong : ChangeSpec := { name := "axiomAll", fn := fun _ => fun
  | [d1, d2, d3] => { results := [.lit (.bool false)], args := [d1, d2, d3] }
  | _ => none }
def AxiomAllWrongFalsely : Prop := axiomAllRow.holds Tryz.pinned (OpenSpec.ofChange axiomAllWrong)

/- THE SECOND FORM. 'bulk': how many values and letters a reading holds, each counted each time it is reached (what is shared counts as often as it is met; a slice's spare places count too). A statement '..UptoSaid' is the law's where the arguments, and the package variables that the reading takes, are together of bulk at most 1048576: NARROWER than '..Said'. Prove '..Said' where nothing that the law and all that it calls make is longer than what came in: it says more and counts as full. Else prove '..UptoSaid'. A law counts once. -/
mutual
def uptoBulk {H : Type} : DataW H → Nat
  | .lit (.string bytes) => bytes.length + 1
  | .lit _ => 1
  | .nil => 1
  | .ptr d => uptoBulk d + 1
  | .slice elems spare => uptoBulkAll elems + uptoBulkAll spare + 1
  | .agg parts => uptoBulkAll parts + 1
  | .iface _ d => uptoBulk d + 1
  | .map entries => uptoBulkEntries entries + 1
  | .held _ => 1
def uptoBulkAll {H : Type} : List (DataW H) → Nat
  | [] => 0
  | d :: r => uptoBulk d + uptoBulkAll r
def uptoBulkEntries {H : Type} : List (Lit × DataW H) → Nat
  | [] => 0
  | x :: r => uptoBulkEntry x + uptoBulkEntries r
def uptoBulkEntry {H : Type} : Lit × DataW H → Nat
  | (.string bytes, d) => bytes.length + uptoBulk d + 1
  | (_, d) => uptoBulk d + 1
 end
def uptoSmall : (H : Type) → List (DataW H) → Bool := fun _ ds => decide (uptoBulkAll ds ≤ 1048576)
def OpenSpec.upto (s : _root_.Go.ChangeSpec) : _root_.Go.OpenSpec := { _root_.Go.OpenSpec.ofChange s with cond := some uptoSmall }

/-- 'horariumlaw29.AxiomHolds', WHERE WHAT IT READS IS OF BULK AT MOST 1048576: true; the input reads as it did. -/
def axiomHoldsUptoRow : OpenClaim := { program := "ytjnokbkabekkkaagreat", sum := "c680dd42b69265c9cbfc99c4f742acd8b4386ec6023df3a6fb44d85851915d82", func := "horarium/horariumlaw29.AxiomHolds", spec := "axiomHolds", unfollowed := true, recurses := true, plainKeys := false, apart := false, narrowed := true }
def AxiomHoldsUptoSaid : Prop := axiomHoldsUptoRow.holds Tryz.pinned (OpenSpec.upto axiomHoldsSpec)

/-- 'horariumlaw29.AxiomRights', WHERE WHAT IT READS IS OF BULK AT MOST 1048576: true; the input reads as it did. -/
def axiomRightsUptoRow : OpenClaim := { program := "ytjnokbkabekkkaagreat", sum := "c680dd42b69265c9cbfc99c4f742acd8b4386ec6023df3a6fb44d85851915d82", func := "horarium/horariumlaw29.AxiomRights", spec := "axiomRights", unfollowed := true, recurses := true, plainKeys := false, apart := false, narrowed := true }
def AxiomRightsUptoSaid : Prop := axiomRightsUptoRow.holds Tryz.pinned (OpenSpec.upto axiomRightsSpec)

/-- 'horariumlaw29.AxiomClass', WHERE WHAT IT READS IS OF BULK AT MOST 1048576: true; the input reads as it did. -/
def axiomClassUptoRow : OpenClaim := { program := "ytjnokbkabekkkaagreat", sum := "c680dd42b69265c9cbfc99c4f742acd8b4386ec6023df3a6fb44d85851915d82", func := "horarium/horariumlaw29.AxiomClass", spec := "axiomClass", unfollowed := true, recurses := true, plainKeys := false, apart := false, narrowed := true }
def AxiomClassUptoSaid : Prop := axiomClassUptoRow.holds Tryz.pinned (OpenSpec.upto axiomClassSpec)

/-- 'horariumlaw29.AxiomReasons', WHERE WHAT IT READS IS OF BULK AT MOST 1048576: true; the input reads as it did. -/
def axiomReasonsUptoRow : OpenClaim := { program := "ytjnokbkabekkkaagreat", sum := "c680dd42b69265c9cbfc99c4f742acd8b4386ec6023df3a6fb44d85851915d82", func := "horarium/horariumlaw29.AxiomReasons", spec := "axiomReasons", unfollowed := true, recurses := true, plainKeys := false, apart := false, narrowed := true }
def AxiomReasonsUptoSaid : Prop := axiomReasonsUptoRow.holds Tryz.pinned (OpenSpec.upto axiomReasonsSpec)

/-- 'horariumlaw29.AxiomNames', WHERE WHAT IT READS IS OF BULK AT MOST 1048576: true; the input reads as it did. -/
def axiomNamesUptoRow : OpenClaim := { program := "ytjnokbkabekkkaagreat", sum := "c680dd42b69265c9cbfc99c4f742acd8b4386ec6023df3a6fb44d85851915d82", func := "horarium/horariumlaw29.AxiomNames", spec := "axiomNames", unfollowed := true, recurses := true, plainKeys := false, apart := false, narrowed := true }
def AxiomNamesUptoSaid : Prop := axiomNamesUptoRow.holds Tryz.pinned (OpenSpec.upto axiomNamesSpec)

/-- 'horariumlaw29.AxiomPair', WHERE WHAT IT READS IS OF BULK AT MOST 1048576: true; the input reads as it did. -/
def axiomPairUptoRow : OpenClaim := { program := "ytjnokbkabekkkaagreat", sum := "c680dd42b69265c9cbfc99c4f742acd8b4386ec6023df3a6fb44d85851915d82", func := "horarium/horariumlaw29.AxiomPair", spec := "axiomPair", unfollowed := true, recurses := true, plainKeys := false, apart := false, narrowed := true }
def AxiomPairUptoSaid : Prop := axiomPairUptoRow.holds Tryz.pinned (OpenSpec.upto axiomPairSpec)

/-- 'horariumlaw29.AxiomAll', WHERE WHAT IT READS IS OF BULK AT MOST 1048576: true; the input reads as it did. -/
def axiomAllUptoRow : OpenClaim := { program := "ytjnokbkabekkkaagreat", sum := "c680dd42b69265c9cbfc99c4f742acd8b4386ec6023df3a6fb44d85851915d82", func := "horarium/horariumlaw29.AxiomAll", spec := "axiomAll", unfollowed := true, recurses := true, plainKeys := false, apart := false, narrowed := true }
def AxiomAllUptoSaid : Prop := axiomAllUptoRow.holds Tryz.pinned (OpenSpec.upto axiomAllSpec)

end Rows
end Go.Proofs.YtjnokbkabekkkaaGreat
