/- Functions by their bodies, calls in code. -/
import Derived.Test.YtjnokbkabekkkaaGreatHzM
set_option linter.all false
namespace Go.Proofs.Hz
open Go

theorem pure_body {P : Program} {f : FuncId} {fn : Func} {c : Code} {args : List AV} {v : AV} {n : Nat} (vs : List Nat) (hf : P.funcs[f]? = some fn) (hb : fn.body = some c) (hn : fn.ntmps = n) (hname : (fn.name == "runtime.NumGoroutine") = false)
    (hv : v.noref = true)
    (h : W P (args.length + (n - args.length)) vs [.code c] (args0 0 args) [] fun e ρ σ' => (e = .normal ∨ e = .ret) ∧ resOf ρ σ' P fn.results.toList = some v) : PureF P f args v :=
  ⟨hv, call_body hf hb hn hname (AWp.mono (W_sound h) fun e ρ σ' ⟨h1, h2⟩ => ⟨h1, v, h2, rfl⟩)⟩

/-- The rule for a call of a function of trees. -/
theorem W_call {P : Program} {N : Nat} {vs : List Nat} {k : List It} {ρ : Env} {σ : H} {Q : Exit → Env → H → Prop} {all : Array Oper} {l : List Oper} {dst : Option Tmp} {x : Operand} {args : Array Operand} {ts : Array TypeId} {ty : TypeId} {pos : String} {after : Array Edge} {guard : Option (Nat × Bool)}
    {f : FuncId} {first caps : List AV} {as : List AV} {v : AV} (hp : PureF P f as v) (hx : ρ.ev x = .func f first caps) (ha : first ++ args.toList.map ρ.ev ++ caps = as) (hd : dstOk N ⟨dst, .call ⟨.value x, args, ts⟩, ty, pos, after, guard⟩ = true)
    (h : W P N vs (.ops all l :: k) (ρ.put dst v) σ Q) : WCall P N vs all ⟨dst, .call ⟨.value x, args, ts⟩, ty, pos, after, guard⟩ l k ρ σ Q :=
  aop_call (v := v) rfl hx (by rw [ha]; exact hp) hd h
/-- The rule for such a call in a region that draws its order. -/
theorem W_dcall {P : Program} {N : Nat} {vs : List Nat} {k : List It} {ρ : Env} {σ : H} {Q : Exit → Env → H → Prop} {all : Array Oper} {l : List Oper} {dst : Option Tmp} {x : Operand} {args : Array Operand} {ts : Array TypeId} {ty : TypeId} {pos : String} {after : Array Edge} {guard : Option (Nat × Bool)}
    {f : FuncId} {first caps : List AV} {as : List AV} {v : AV} (hp : PureF P f as v) (hx : ρ.ev x = .func f first caps) (ha : first ++ args.toList.map ρ.ev ++ caps = as) (hd : dstOk N ⟨dst, .call ⟨.value x, args, ts⟩, ty, pos, after, guard⟩ = true)
    (h : W P N vs (.dops all l :: k) (ρ.put dst v) σ Q) : DCall P N vs all ⟨dst, .call ⟨.value x, args, ts⟩, ty, pos, after, guard⟩ l k ρ σ Q :=
  ⟨v, ⟨x, args, ts, f, first, caps, rfl, hx, by rw [ha]; exact hp⟩, hd, h⟩
end Go.Proofs.Hz
