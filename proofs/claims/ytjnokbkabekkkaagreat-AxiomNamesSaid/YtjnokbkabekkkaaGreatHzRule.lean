/- The rules for calls, the operation being told by what it does. -/
import Derived.Test.YtjnokbkabekkkaaGreatHzStr
set_option linter.all false
namespace Go.Proofs.Hz
open Go
@[simp] theorem int_beq (a b : Int) : (a == b) = decide (a = b) := by by_cases h : a = b <;> simp [h]
@[simp] theorem int_bne (a b : Int) : (a != b) = !decide (a = b) := by by_cases h : a = b <;> simp [h]
attribute [simp] strop_eql strop_neq eq1_str
theorem W_c {P : Program} {N : Nat} {vs : List Nat} {k : List It} {ρ : Env} {σ : H} {Q : Exit → Env → H → Prop} {all : Array Oper} {l : List Oper} {o : Oper} {x : Operand} {args : Array Operand} {ts : Array TypeId}
    {f : FuncId} {first caps : List AV} {as : List AV} {v : AV} (ho : o.op = .call ⟨.value x, args, ts⟩) (hp : PureF P f as v) (hx : ρ.ev x = .func f first caps) (ha : first ++ args.toList.map ρ.ev ++ caps = as) (hd : dstOk N o = true)
    (h : W P N vs (.ops all l :: k) (ρ.put o.dst v) σ Q) : WCall P N vs all o l k ρ σ Q := by
  cases o
  cases ho
  exact W_call hp hx ha hd h
theorem W_dc {P : Program} {N : Nat} {vs : List Nat} {k : List It} {ρ : Env} {σ : H} {Q : Exit → Env → H → Prop} {all : Array Oper} {l : List Oper} {o : Oper} {x : Operand} {args : Array Operand} {ts : Array TypeId}
    {f : FuncId} {first caps : List AV} {as : List AV} {v : AV} (ho : o.op = .call ⟨.value x, args, ts⟩) (hp : PureF P f as v) (hx : ρ.ev x = .func f first caps) (ha : first ++ args.toList.map ρ.ev ++ caps = as) (hd : dstOk N o = true)
    (h : W P N vs (.dops all l :: k) (ρ.put o.dst v) σ Q) : DCall P N vs all o l k ρ σ Q := by
  cases o
  cases ho
  exact W_dcall hp hx ha hd h
end Go.Proofs.Hz
