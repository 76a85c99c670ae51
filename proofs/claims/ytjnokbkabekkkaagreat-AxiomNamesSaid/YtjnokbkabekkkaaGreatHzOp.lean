/- The operations that only compute or read, as this proof sees them. -/
import Derived.Test.YtjnokbkabekkkaaGreatHzWp
import Derived.Laws.Sem
import Derived.WalkKit
set_option linter.all false
namespace Go.Proofs.Hz
open Go

/-- What is asked of a type: is it a struct or an array, and how many cells has it. -/
def tyL (P : Program) (t : TypeId) : Option (Bool × Nat) :=
  match P.underlying t, P.info? t with
  | some d, some i => some ((match d with | .struct _ => true | .array _ _ => true | _ => false), i.size)
  | _, _ => none
theorem run_isAgg {P : Program} {t : TypeId} {g : Bool} {n : Nat} (h : tyL P t = some (g, n)) (w : World) : (isAgg t).run P w = .ok g w := by
  unfold tyL at h
  split at h
  · rename_i d i hd hi
    simp only [Option.some.injEq, Prod.mk.injEq] at h
    obtain ⟨rfl, rfl⟩ := h
    simp only [isAgg, underlying, program, Sem.run_bind, Sem.run, Result.andThen_ok, hd]
    cases d <;> rfl
  · cases h
theorem run_sizeOf {P : Program} {t : TypeId} {g : Bool} {n : Nat} (h : tyL P t = some (g, n)) (w : World) : (sizeOf t).run P w = .ok n w := by
  unfold tyL at h
  split at h
  · rename_i d i hd hi
    simp only [Option.some.injEq, Prod.mk.injEq] at h
    obtain ⟨rfl, rfl⟩ := h
    simp only [sizeOf, typeInfo, program, Sem.run_bind, Sem.run, Result.andThen_ok, hi]
    rfl
  · cases h

def rdCells (g : Bool) (n : Nat) (cs : List AV) (off : Nat) : Option AV :=
  if g then (if off + n ≤ cs.length then some (.agg ((cs.drop off).take n)) else none) else cs[off]?
def aload (g : Bool) (n : Nat) (v : AV) (σ : H) : Option AV :=
  match v with
  | .view cs off => rdCells g n cs off
  | .ref b off => match σ.get b with
    | some (.cells cs) => rdCells g n cs off
    | _ => none
  | _ => none

theorem addr_add (c o n : Nat) : (⟨c, o, none⟩ : Addr).add n = ⟨c, o + n, none⟩ := by
  unfold Addr.add
  split
  · rename_i h; subst h; rfl
  · rfl
theorem run_load {P : Program} {w : World} {a : Addr} {u : Value} (h : w.cell? a = some u) : (load a).run P w = .ok u w := by
  simp only [load, Sem.run, h]
theorem run_loadCellsFrom {P : Program} {κ : Ctx} {c o : Nat} : ∀ (n : Nat) (cs : List AV) (i : Nat) (acc : Array Value), CellsRel κ cs c (o + i) → n ≤ cs.length →
    ∃ us : Array Value, (loadCellsFrom ⟨c, o, none⟩ i n acc).run P κ.w = .ok (acc ++ us) κ.w ∧ VRels κ (cs.take n) us.toList
  | 0, cs, i, acc, _, _ => ⟨#[], by simp [loadCellsFrom, pure, Sem.run], by simp [VRels]⟩
  | n + 1, [], i, acc, _, h => by simp at h
  | n + 1, v :: cs, i, acc, hc, h => by
    simp only [CellsRel] at hc
    obtain ⟨⟨u, h1, h2⟩, h3⟩ := hc
    obtain ⟨us, h4, h5⟩ := run_loadCellsFrom (P := P) n cs (i + 1) (acc.push u) (by rw [show o + (i + 1) = o + i + 1 by omega]; exact h3) (by simpa using h)
    refine ⟨#[u] ++ us, ?_, ?_⟩
    · simp only [loadCellsFrom, Sem.run_bind, addr_add, run_load h1, Result.andThen_ok, h4]
      simp
    · simp only [List.take_succ_cons, VRels]
      exact ⟨u, us.toList, by simp, h2, h5⟩
theorem run_rd {P : Program} {κ : Ctx} {t : TypeId} {g : Bool} {n c o off : Nat} {cs : List AV} {v : AV} (ht : tyL P t = some (g, n)) (hc : CellsRel κ cs c o)
    (hv : rdCells g n cs off = some v) : ∃ u, (loadVar t ⟨c, o + off, none⟩).run P κ.w = .ok u κ.w ∧ VRel κ v u := by
  unfold rdCells at hv
  cases g with
  | true =>
    simp only [if_true] at hv
    split at hv
    · rename_i hle
      cases hv
      obtain ⟨us, h1, h2⟩ := run_loadCellsFrom (P := P) (o := o + off) n (cs.drop off) 0 #[] (by simpa using CellsRel.drop off hc) (by simp; omega)
      refine ⟨.agg us, ?_, by simp only [VRel]; exact ⟨us, rfl, h2⟩⟩
      simp only [loadVar, Sem.run_bind, run_isAgg ht, Result.andThen_ok, if_true, run_sizeOf ht, loadCells, h1]
      simp [pure, Sem.run]
    · cases hv
  | false =>
    simp only [Bool.false_eq_true, if_false] at hv
    obtain ⟨u, h1, h2⟩ := CellsRel.get hc hv
    refine ⟨u, ?_, h2⟩
    simp only [loadVar, Sem.run_bind, run_isAgg ht, Result.andThen_ok, Bool.false_eq_true, if_false, run_load h1]
theorem rdCells_noref {g : Bool} {n off : Nat} {cs : List AV} {v : AV} (h : AV.norefs cs = true) (hv : rdCells g n cs off = some v) : v.noref = true := by
  unfold rdCells at hv
  cases g with
  | true =>
    simp only [if_true] at hv
    split at hv
    · cases hv
      simpa [AV.noref] using norefs_take n (norefs_drop off h)
    · cases hv
  | false =>
    simp only [Bool.false_eq_true, if_false] at hv
    exact norefs_get h hv
theorem run_aload {P : Program} {κ : Ctx} {t : TypeId} {g : Bool} {n : Nat} {p v : AV} {σ : H} {u : Value} (ht : tyL P t = some (g, n)) (hh : HRel κ σ) (hp : VRel κ p u)
    (hv : aload g n p σ = some v) : ∃ x, (Instr.loadAt t u).run P κ.w = .ok x κ.w ∧ VRel κ v x := by
  unfold aload at hv
  split at hv
  · rename_i cs off
    simp only [VRel] at hp
    obtain ⟨cb, co, rfl, hf, hn, hc⟩ := hp
    obtain ⟨x, h1, h2⟩ := run_rd ht hc hv
    exact ⟨x, by simpa [Instr.loadAt, Instr.sureAddr, pure, Sem.run, Ctx.pure] using h1, VRel.unpure (rdCells_noref hn hv) h2⟩
  · rename_i b off
    split at hv
    · rename_i cs hb
      obtain ⟨c, hO, hB⟩ := hh.blk b _ hb
      obtain ⟨arr, elem, h1, h2⟩ := hB
      simp only [VRel] at hp
      have hp := hp c hO
      subst hp
      obtain ⟨x, h3, h4⟩ := run_rd (o := 0) (off := off) ht h2 hv
      exact ⟨x, by simpa [Instr.loadAt, Instr.sureAddr, pure, Sem.run] using h3, h4⟩
    · cases hv
  · cases hv
end Go.Proofs.Hz
