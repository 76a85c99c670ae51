/- Addresses, arithmetic, comparisons. -/
import Derived.Test.YtjnokbkabekkkaaGreatHzOp
set_option linter.all false
namespace Go.Proofs.Hz
open Go

/-- Is the block still known? -/
def H.live (σ : H) (b : Nat) : Bool := (σ.get b).isSome
theorem HRel.live {κ : Ctx} {σ : H} (h : HRel κ σ) {b : Nat} (hb : σ.live b = true) : ∃ c, κ.O b = some c := by
  unfold H.live at hb
  cases hd : σ.get b with
  | none => simp [hd] at hb
  | some d => obtain ⟨c, hc, _⟩ := h.blk b d hd; exact ⟨c, hc⟩

/-- n cells further on. -/
def aaddr (σ : H) (n : Nat) : AV → Option AV
  | .view cs off => some (.view cs (off + n))
  | .ref b off => if σ.live b then some (.ref b (off + n)) else none
  | _ => none
theorem aaddr_spec {κ : Ctx} {σ : H} {n : Nat} {p v : AV} {u : Value} (hh : HRel κ σ) (hp : VRel κ p u) (hv : aaddr σ n p = some v) :
    ∃ c o, u = .pointer (some ⟨c, o, none⟩) ∧ VRel κ v (.pointer (some ⟨c, o + n, none⟩)) := by
  unfold aaddr at hv
  split at hv
  · rename_i cs off
    cases hv
    simp only [VRel] at hp ⊢
    obtain ⟨cb, co, rfl, hf, hn, hc⟩ := hp
    exact ⟨cb, co + off, rfl, cb, co, by rw [Nat.add_assoc], hf, hn, hc⟩
  · rename_i b off
    split at hv
    · rename_i hb
      cases hv
      obtain ⟨c, hO⟩ := hh.live hb
      simp only [VRel] at hp ⊢
      refine ⟨c, off, hp c hO, fun c' hc' => ?_⟩
      rw [hO] at hc'; cases hc'; rfl
    · cases hv
  · cases hv

/-- Where field i of struct type s begins. -/
def fldL (P : Program) (s : TypeId) (i : Nat) : Option Nat :=
  match P.underlying s with
  | some (.struct fs) => match fs[i]? with
    | some f => match P.info? f.type with
      | some j => if j.size = 0 then none else some f.offset
      | none => none
    | none => none
  | _ => none
theorem run_fieldAt {P : Program} {κ : Ctx} {σ : H} {s : TypeId} {i n : Nat} {p v : AV} {u : Value} (hf : fldL P s i = some n) (hh : HRel κ σ) (hp : VRel κ p u) (hv : aaddr σ n p = some v) :
    ∃ x, (Instr.fieldAt s u i).run P κ.w = .ok x κ.w ∧ VRel κ v x := by
  obtain ⟨c, o, rfl, hx⟩ := aaddr_spec hh hp hv
  refine ⟨_, ?_, hx⟩
  unfold fldL at hf
  split at hf
  · rename_i fs hfs
    split at hf
    · rename_i f hff
      split at hf
      · rename_i j hj
        split at hf
        · cases hf
        · rename_i hz
          cases hf
          simp only [Instr.fieldAt, underlying, program, Sem.run_bind, Sem.run, Result.andThen_ok, hfs, pure, hff, Instr.sureAddr, fieldPlace, sizeOf, typeInfo, hj, if_neg hz, addr_add]
      · cases hf
    · cases hf
  · cases hf

/-- The element's size of a slice or an array; an array's length. -/
def elL (P : Program) (t : TypeId) : Option (Option Nat × Nat) :=
  match P.underlying t with
  | some (.slice e) => (P.info? e).map fun i => (none, i.size)
  | some (.array n e) => (P.info? e).map fun i => (some n, i.size)
  | _ => none
def aindexS (k : Nat) (σ : H) (x : AV) (i : Int) : Option AV :=
  match x with
  | .sl _ k' es => if 0 ≤ i ∧ i < es.length ∧ k' = k then (es[i.toNat]?).map fun c => .view c 0 else none
  | .rs b off n k' => if 0 ≤ i ∧ i < n ∧ k' = k ∧ σ.live b = true then some (.ref b (off + i.toNat * k)) else none
  | _ => none
def aindex (e : Option Nat × Nat) (σ : H) (x : AV) (i : Int) : Option AV :=
  match e.1 with
  | none => aindexS e.2 σ x i
  | some n => if 0 ≤ i ∧ i < n then aaddr σ (i.toNat * e.2) x else none
theorem run_indexAt {P : Program} {κ : Ctx} {σ : H} {t : TypeId} {e : Option Nat × Nat} {x v : AV} {kk : IntKind} {i : Int} {u : Value} (he : elL P t = some e) (hh : HRel κ σ) (hx : VRel κ x u)
    (hv : aindex e σ x i = some v) : ∃ y, (Instr.indexAt t u (.int kk i)).run P κ.w = .ok y κ.w ∧ VRel κ v y := by
  unfold elL at he
  split at he
  · rename_i el hel
    cases hi : P.info? el with
    | none => simp [hi] at he
    | some inf =>
      simp only [hi, Option.map_some, Option.some.injEq] at he
      subst he
      simp only [aindex, aindexS] at hv
      split at hv
      · rename_i nn k' es
        split at hv
        · rename_i hc
          obtain ⟨h0, h1, rfl⟩ := hc
          cases hes : es[i.toNat]? with
          | none => simp [hes] at hv
          | some c =>
            simp only [hes, Option.map_some, Option.some.injEq] at hv
            subst hv
            simp only [VRel] at hx
            obtain ⟨cb, co, a, cap, rfl, g1, g2, g3, g4, g5, g6⟩ := hx
            have hne : es.length ≠ 0 := by omega
            obtain ⟨rfl, hf⟩ := g3 hne
            obtain ⟨g7, g8⟩ := ElemsRel.get g6 hes
            refine ⟨.pointer (some ⟨cb, co + i.toNat * inf.size, none⟩), ?_, ?_⟩
            · simp only [Instr.indexAt, asIntOf, underlying, program, Sem.run_bind, Sem.run, Result.andThen_ok, hel, pure, sizeOf, typeInfo, hi, if_pos (And.intro h0 h1), addr_add]
            · simp only [VRel]
              exact ⟨cb, co + i.toNat * inf.size, by simp, hf, allNoref_get g5 hes, g8⟩
        · cases hv
      · rename_i b off n k'
        split at hv
        · rename_i hc
          obtain ⟨h0, h1, rfl, hb⟩ := hc
          cases hv
          obtain ⟨c, hO⟩ := hh.live hb
          simp only [VRel] at hx
          obtain ⟨a, cap, rfl, g1, g2⟩ := hx c hO
          obtain ⟨rfl, g3⟩ := g2.resolve_left (by omega)
          refine ⟨.pointer (some ⟨c, off + i.toNat * inf.size, none⟩), ?_, ?_⟩
          · simp only [Instr.indexAt, asIntOf, underlying, program, Sem.run_bind, Sem.run, Result.andThen_ok, hel, pure, sizeOf, typeInfo, hi, if_pos (And.intro h0 h1), addr_add]
          · simp only [VRel]
            intro c' hc'
            rw [hO] at hc'; cases hc'; rfl
        · cases hv
      · cases hv
  · rename_i n el hel
    cases hi : P.info? el with
    | none => simp [hi] at he
    | some inf =>
      simp only [hi, Option.map_some, Option.some.injEq] at he
      subst he
      simp only [aindex] at hv
      split at hv
      · rename_i hc
        obtain ⟨c, o, rfl, hy⟩ := aaddr_spec hh hx hv
        refine ⟨_, ?_, hy⟩
        simp only [Instr.indexAt, asIntOf, underlying, program, Sem.run_bind, Sem.run, Result.andThen_ok, hel, pure, Instr.sureAddr, sizeOf, typeInfo, hi, if_pos hc, addr_add]
      · cases hv
  · cases he

/-- Two whole numbers. -/
def iop (op : BinOp) (k : IntKind) (a b : Int) : Option AV :=
  match op with
  | .add => some (.int k (k.wrap (a + b)))
  | .sub => some (.int k (k.wrap (a - b)))
  | .mul => some (.int k (k.wrap (a * b)))
  | .quo => if b = 0 then none else some (.int k (k.wrap (a.tdiv b)))
  | .rem => if b = 0 then none else some (.int k (a.tmod b))
  | .and => some (.int k (k.wrap (BitVec.ofInt k.bits a &&& BitVec.ofInt k.bits b).toNat))
  | .or => some (.int k (k.wrap (BitVec.ofInt k.bits a ||| BitVec.ofInt k.bits b).toNat))
  | .xor => some (.int k (k.wrap (BitVec.ofInt k.bits a ^^^ BitVec.ofInt k.bits b).toNat))
  | .andNot => some (.int k (k.wrap (BitVec.ofInt k.bits a &&& ~~~(BitVec.ofInt k.bits b)).toNat))
  | .eql => some (.bool (a == b))
  | .neq => some (.bool (a != b))
  | .lss => some (.bool (decide (a < b)))
  | .leq => some (.bool (decide (a ≤ b)))
  | .gtr => some (.bool (decide (a > b)))
  | .geq => some (.bool (decide (a ≥ b)))
  | _ => none
def shop (op : BinOp) (k : IntKind) (a b : Int) : Option AV :=
  if b < 0 then none else
  match op with
  | .shl => some (.int k (k.wrap (a * 2 ^ (min b.toNat k.bits))))
  | .shr => some (.int k (a.fdiv (2 ^ (min b.toNat k.bits))))
  | _ => none
def strop (op : BinOp) (a b : ByteArray) : Option AV :=
  match op with
  | .add => if a.size + b.size < 2 ^ 62 then some (.str (a ++ b)) else none
  | .eql => some (.bool (a.toList == b.toList))
  | .neq => some (.bool (!(a.toList == b.toList)))
  | .lss => some (.bool (Op.bytesLess a.toList b.toList))
  | _ => none
inductive Tag where
  | int | bool | str
  deriving DecidableEq
def eq1 : Tag → AV → AV → Option Bool
  | .int, .int k a, .int k' b => if k = k' then some (a == b) else none
  | .bool, .bool a, .bool b => some (a == b)
  | .str, .str a, .str b => some (a.toList == b.toList)
  | _, _, _ => none
/-- Are the cells all scalars of these kinds, and the same? -/
def sameCells : List Tag → List AV → List AV → Option Bool
  | [], [], [] => some true
  | t :: ts, x :: xs, y :: ys => match eq1 t x y with
    | some r => (sameCells ts xs ys).map fun r' => r && r'
    | none => none
  | _, _, _ => none
/-- '==' against nil, and between bools. -/
def eqop (d : TypeDesc) (σ : H) (x y : AV) : Option Bool :=
  match d, x, y with
  | .bool, .bool a, .bool b => some (a == b)
  | .pointer _, .nilp, .nilp => some true
  | .pointer _, .view _ _, .nilp => some false
  | .pointer _, .ref b _, .nilp => if σ.live b then some false else none
  | .slice _, .nils, .nils => some true
  | .slice _, .sl nn _ es, .nils => if nn || !es.isEmpty then some false else none
  | .slice _, .rs b _ _ _, .nils => if σ.live b then some false else none
  | .func _ _ _, .nilf, .nilf => some true
  | .func _ _ _, .func _ _ _, .nilf => some false
  | _, _, _ => none
theorem run_iop {P : Program} {w : World} {op : BinOp} {t : TypeId} {x y : Operand} {k : IntKind} {a b : Int} {v : AV} (h : iop op k a b = some v) :
    ∃ u, ((do eqGuard op t x y (.int k a) (.int k b); binOp op t (.int k a) (.int k b) : Sem Value)).run P w = .ok u w ∧ ∀ κ, VRel κ v u := by
  have hg : (eqGuard op t x y (.int k a) (.int k b)).run P w = .ok () w := by
    unfold eqGuard
    cases op <;> rfl
  simp only [Sem.run_bind, hg, Result.andThen_ok]
  cases op <;> simp only [iop, Option.some.injEq] at h <;> first
    | (subst h; exact ⟨_, by simp [binOp, Op.intArith, Op.intBits, Op.intCmp, pure, Sem.run]; rfl, fun κ => by simp [VRel]⟩)
    | (split at h
       · cases h
       · rename_i hb
         simp only [Option.some.injEq] at h
         subst h
         exact ⟨_, by simp [binOp, Op.intDiv, hb, pure, Sem.run]; rfl, fun κ => by simp [VRel]⟩)
    | cases h
theorem run_shop {P : Program} {w : World} {op : BinOp} {t : TypeId} {x y : Operand} {k k' : IntKind} {a b : Int} {v : AV} (h : shop op k a b = some v) :
    ∃ u, ((do eqGuard op t x y (.int k a) (.int k' b); binOp op t (.int k a) (.int k' b) : Sem Value)).run P w = .ok u w ∧ ∀ κ, VRel κ v u := by
  have hg : (eqGuard op t x y (.int k a) (.int k' b)).run P w = .ok () w := by
    unfold eqGuard
    cases op <;> rfl
  simp only [Sem.run_bind, hg, Result.andThen_ok]
  unfold shop at h
  split at h
  · cases h
  · rename_i hb
    cases op <;> simp only [Option.some.injEq] at h <;> first
      | (subst h; exact ⟨_, by simp [binOp, Op.shift, hb, pure, Sem.run]; rfl, fun κ => by simp [VRel]⟩)
      | cases h
theorem run_strop {P : Program} {w : World} {op : BinOp} {t : TypeId} {x y : Operand} {a b : ByteArray} {v : AV} (h : strop op a b = some v) :
    ∃ u, ((do eqGuard op t x y (.string a) (.string b); binOp op t (.string a) (.string b) : Sem Value)).run P w = .ok u w ∧ ∀ κ, VRel κ v u := by
  have hg : (eqGuard op t x y (.string a) (.string b)).run P w = .ok () w := by
    unfold eqGuard
    cases op <;> rfl
  simp only [Sem.run_bind, hg, Result.andThen_ok]
  cases op <;> simp only [strop, Option.some.injEq] at h <;> first
    | (subst h; exact ⟨_, by simp [binOp, Op.stringOp, pure, Sem.run]; rfl, fun κ => by simp [VRel]⟩)
    | (split at h
       · rename_i hb
         simp only [Option.some.injEq] at h
         subst h
         refine ⟨.string (a ++ b), ?_, fun κ => by simp [VRel]⟩
         have : ¬ (((a.size + b.size : Nat) : Int) > IntKind.i64.max) := by
           have : IntKind.i64.max = 9223372036854775807 := by decide
           rw [this]; omega
         simp only [binOp, Op.stringOp, if_neg this, pure, Sem.run]
       · cases h)
    | cases h
end Go.Proofs.Hz
