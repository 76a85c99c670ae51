/- Regions that draw their order. -/
import Derived.Test.YtjnokbkabekkkaaGreatHzCall0
set_option linter.all false
namespace Go.Proofs.Hz
open Go

/-- A call of a function of trees. -/
def PCall (P : Program) (ρ : Env) (o : Op) (v : AV) : Prop :=
  ∃ x args ts f first caps, o = .call ⟨.value x, args, ts⟩ ∧ ρ.ev x = .func f first caps ∧ PureF P f (first ++ args.toList.map ρ.ev ++ caps) v
def isStore : Op → Bool
  | .store .. => true
  | _ => false
/-- Does what it yields hang on what own blocks hold? -/
def isSens : Op → Bool
  | .load .. => true
  | .lookup .. => true
  | _ => false
def isPlain : Op → Bool
  | .move _ => true | .assign _ => true | .pick .. => true | .load .. => true | .nilCheck _ => true | .binOp .. => true | .unOp .. => true | .convert .. => true | .makeFunc .. => true
  | .slice .. => true | .fieldAddr .. => true | .indexAddr .. => true | .index .. => true | .extract .. => true | .build .. => true | .lookup .. => true
  | .call ⟨.builtin .len, _, _⟩ => true | .call ⟨.builtin .max, _, _⟩ => true | .call ⟨.builtin .min, _, _⟩ => true
  | _ => false
def isCall : Op → Bool
  | .call ⟨.value _, _, _⟩ => true
  | _ => false

/-- What is not yet there is put in. -/
def addAll : List Nat → List Nat → List Nat
  | s, [] => s
  | s, x :: l => addAll (if s.contains x then s else x :: s) l
def befores : List (List Nat) → List Oper → List (List Nat)
  | acc, [] => acc
  | acc, o :: l => befores (acc ++ [(o.after.toList.filterMap fun e => if Region.binds .any e then some e.on else none).foldl (fun s j => addAll s (j :: (acc[j]?).getD [])) []]) l
def ahead (bs : List (List Nat)) (i j : Nat) : Bool := ((bs[j]?).getD []).contains i
def slotsOf (all : Array Oper) (o : Oper) : List Nat :=
  o.dst.toList ++ (o.op.operands.toList.filterMap fun | .tmp t => some t | _ => none) ++
  (match o.guard with
   | some (g, _) => ((all[g]?).bind (·.dst)).toList
   | none => [])
/-- Two operations, i ahead of j in the text: are they ordered, or does it not matter? -/
def pairOk (all : Array Oper) (bs : List (List Nat)) (i j : Nat) (x y : Oper) : Bool :=
  ahead bs i j ||
  ((match x.dst with | some d => !(slotsOf all y).contains d | none => true) && (match y.dst with | some d => !(slotsOf all x).contains d | none => true) &&
    !(isStore x.op && (isStore y.op || isSens y.op)) && !(isSens x.op && isStore y.op))
def pairsOk (all : Array Oper) (bs : List (List Nat)) (i : Nat) (x : Oper) : Nat → List Oper → Bool
  | _, [] => true
  | j, y :: l => pairOk all bs i j x y && pairsOk all bs i x (j + 1) l
def allPairs (all : Array Oper) (bs : List (List Nat)) : Nat → List Oper → Bool
  | _, [] => true
  | i, x :: l => pairsOk all bs i x (i + 1) l && allPairs all bs (i + 1) l
def edgesOk : Nat → List Oper → Bool
  | _, [] => true
  | i, o :: l => o.after.toList.all (fun e => !Region.binds .any e || decide (e.on < i)) && edgesOk (i + 1) l
def drawOk (all : Array Oper) : Bool :=
  edgesOk 0 all.toList && allPairs all (befores [] all.toList) 0 all.toList
end Go.Proofs.Hz
