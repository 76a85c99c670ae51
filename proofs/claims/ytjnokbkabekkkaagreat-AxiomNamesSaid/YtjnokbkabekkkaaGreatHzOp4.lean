/- Slicing, lengths, indices into strings, building of values. -/
import Derived.Test.YtjnokbkabekkkaaGreatHzOp3
set_option linter.all false
namespace Go.Proofs.Hz
open Go

/-- x[l:h]; h left out: up to the end. -/
def aslice (k : Nat) (σ : H) (x : AV) (lo : Int) (hi : Option Int) : Option AV :=
  match x with
  | .sl nn k' es =>
    let h := hi.getD es.length
    if 0 ≤ lo ∧ lo ≤ h ∧ h ≤ es.length ∧ k' = k then some (.sl nn k ((es.take h.toNat).drop lo.toNat)) else none
  | .rs b off n k' =>
    let h := hi.getD n
    if 0 ≤ lo ∧ lo ≤ h ∧ h ≤ n ∧ k' = k ∧ σ.live b = true then some (.rs b (off + lo.toNat * k) (h.toNat - lo.toNat) k) else none
  | .nils => if lo = 0 ∧ hi.getD 0 = 0 then some .nils else none
  | _ => none
def astrSlice (s : ByteArray) (lo : Int) (hi : Option Int) : Option AV :=
  let h := hi.getD s.size
  if 0 ≤ lo ∧ lo ≤ h ∧ h ≤ s.size then some (.str (s.extract lo.toNat h.toNat)) else none
theorem run_bounds {P : Program} {w : World} {b : Bool} {len cap : Nat} {lo : Option (IntKind × Int)} {hi : Option (IntKind × Int)} {l h : Nat}
    (hl : (lo.map (·.2)).getD 0 = l) (hh : (hi.map (·.2)).getD (len : Int) = h) (h1 : l ≤ h) (h2 : h ≤ cap) :
    (Instr.sliceBounds b len cap (lo.map fun p => .int p.1 p.2) (hi.map fun p => .int p.1 p.2) none).run P w = .ok (l, h, cap) w := by
  unfold Instr.sliceBounds
  have key : ∀ (k : IntKind) (i : Int) (y : Nat) (c : BoundsCode) (m : Nat), i = m → m ≤ y → (Instr.sliceBound (.int k i) y c).run P w = .ok m w := by
    intro k i y c m e hm
    subst e
    simp only [Instr.sliceBound, asIntOf, Sem.run_bind, pure, Sem.run, Result.andThen_ok]
    rw [if_pos ⟨by omega, by omega⟩]
    simp [Sem.run]
  cases lo with
  | none =>
    cases hi with
    | none =>
      simp only [Option.map_none, Option.getD_none] at hl hh
      have : l = 0 := by omega
      subst this
      have : h = len := by omega
      subst this
      simp [Sem.run_bind, pure, Sem.run]
    | some q =>
      simp only [Option.map_none, Option.map_some, Option.getD_none, Option.getD_some] at hl hh
      have : l = 0 := by omega
      subst this
      simp only [Option.map_some, Option.map_none, Sem.run_bind, pure, Sem.run, Result.andThen_ok]
      rw [key _ _ _ _ h hh h2]
      simp [Sem.run]
  | some p =>
    cases hi with
    | none =>
      simp only [Option.map_none, Option.map_some, Option.getD_none, Option.getD_some] at hl hh
      have : h = len := by omega
      subst this
      simp only [Option.map_some, Option.map_none, Sem.run_bind, pure, Sem.run, Result.andThen_ok]
      rw [key _ _ _ _ l hl h1]
      simp [Sem.run]
    | some q =>
      simp only [Option.map_some, Option.getD_some] at hl hh
      simp only [Option.map_some, Sem.run_bind, pure, Sem.run, Result.andThen_ok]
      rw [key _ _ _ _ h hh h2]
      simp only [Result.andThen_ok]
      rw [key _ _ _ _ l hl h1]
      simp [Sem.run]
theorem run_slice {P : Program} {κ : Ctx} {σ : H} {t e : TypeId} {k : Nat} {x v : AV} {u : Value} {lo hi : Option (IntKind × Int)} (ht : P.underlying t = some (.slice e)) (hk : (P.info? e).map (·.size) = some k)
    (hh : HRel κ σ) (hx : VRel κ x u) (hv : aslice k σ x ((lo.map (·.2)).getD 0) (hi.map (·.2)) = some v) :
    ∃ y, (Instr.sliceAt t u (lo.map fun p => .int p.1 p.2) (hi.map fun p => .int p.1 p.2) none).run P κ.w = .ok y κ.w ∧ VRel κ v y := by
  have hsz : (sizeOf e).run P κ.w = .ok k κ.w := by
    simp only [Option.map_eq_some_iff] at hk
    obtain ⟨i, hi, rfl⟩ := hk
    simp only [sizeOf, typeInfo, program, Sem.run_bind, Sem.run, Result.andThen_ok, hi, pure]
  have main : ∀ (a : Option Addr) (len cap l h : Nat), (lo.map (·.2)).getD 0 = (l : Int) → (hi.map (·.2)).getD (len : Int) = (h : Int) → l ≤ h → h ≤ cap →
      (Instr.sliceAt t (.slice a len cap) (lo.map fun p => .int p.1 p.2) (hi.map fun p => .int p.1 p.2) none).run P κ.w =
        .ok (.slice (if cap = l then a else a.map (·.add (l * k))) (h - l) (cap - l)) κ.w := by
    intro a len cap l h g1 g2 g3 g4
    simp only [Instr.sliceAt, Instr.slice, Sem.run_bind, run_under ht, Result.andThen_ok, run_bounds (b := true) g1 g2 g3 g4, hsz]
    rfl
  unfold aslice at hv
  split at hv
  · rename_i nn k' es
    simp only at hv
    split at hv
    · rename_i hc
      obtain ⟨c1, c2, c3, rfl⟩ := hc
      cases hv
      simp only [VRel] at hx
      obtain ⟨cb, co, a, cap, rfl, g1, g2, g3, g4, g5, g6⟩ := hx
      generalize hlo : (lo.map (·.2)).getD 0 = li at *
      generalize hhi : (hi.map (·.2)).getD (es.length : Int) = hj at *
      have m := main a es.length cap li.toNat hj.toNat (by omega) (by omega) (by omega) (by omega)
      refine ⟨_, m, ?_⟩
      simp only [VRel]
      have hlen : ((es.take hj.toNat).drop li.toNat).length = hj.toNat - li.toNat := by simp; omega
      refine ⟨cb, co + li.toNat * k', (if cap = li.toNat then a else a.map (·.add (li.toNat * k'))), cap - li.toNat, by rw [hlen], by omega, ?_, ?_, ?_, ?_, ?_⟩
      · intro hn
        split
        · exact g2 hn
        · simpa using g2 hn
      · intro hne
        have hne' : es.length ≠ 0 := by omega
        obtain ⟨rfl, hf⟩ := g3 hne'
        rw [if_neg (by omega)]
        exact ⟨by simp [addr_add], hf⟩
      · intro hn
        split at hn
        · omega
        · have : a = none := by simpa using hn
          have := g4 this
          omega
      · exact allNoref_drop _ (allNoref_take _ g5)
      · exact ElemsRel.drop _ (ElemsRel.take _ g6)
    · cases hv
  · rename_i b off n k'
    simp only at hv
    split at hv
    · rename_i hc
      obtain ⟨c1, c2, c3, rfl, hb⟩ := hc
      cases hv
      obtain ⟨c, hO⟩ := hh.live hb
      simp only [VRel] at hx
      obtain ⟨a, cap, rfl, g1, g2⟩ := hx c hO
      generalize hlo : (lo.map (·.2)).getD 0 = li at *
      generalize hhi : (hi.map (·.2)).getD (n : Int) = hj at *
      have m := main (some a) n cap li.toNat hj.toNat (by omega) (by omega) (by omega) (by omega)
      refine ⟨_, m, ?_⟩
      simp only [VRel]
      intro c' hc'
      rw [hO] at hc'; cases hc'
      by_cases hcap : cap = li.toNat
      · rw [if_pos hcap]
        exact ⟨a, cap - li.toNat, rfl, by omega, .inl (by omega)⟩
      · rw [if_neg hcap]
        obtain ⟨rfl, g3⟩ := g2.resolve_left (by omega)
        refine ⟨_, cap - li.toNat, rfl, by omega, .inr ⟨addr_add _ _ _, ?_⟩⟩
        rw [Nat.sub_mul]
        have : li.toNat * k' ≤ cap * k' := Nat.mul_le_mul_right _ (by omega)
        omega
    · cases hv
  · split at hv
    · rename_i hc
      cases hv
      simp only [VRel] at hx; subst hx
      have m := main none 0 0 0 0 (by simpa using hc.1) (by simpa using hc.2) (Nat.le_refl _) (Nat.le_refl _)
      exact ⟨_, m, by simp [VRel]⟩
    · cases hv
  · cases hv
theorem run_strSlice {P : Program} {κ : Ctx} {t : TypeId} {s : ByteArray} {v : AV} {lo hi : Option (IntKind × Int)} (ht : P.underlying t = some .string)
    (hv : astrSlice s ((lo.map (·.2)).getD 0) (hi.map (·.2)) = some v) :
    ∃ y, (Instr.sliceAt t (.string s) (lo.map fun p => .int p.1 p.2) (hi.map fun p => .int p.1 p.2) none).run P κ.w = .ok y κ.w ∧ VRel κ v y := by
  unfold astrSlice at hv
  simp only at hv
  split at hv
  · rename_i hc
    cases hv
    generalize hlo : (lo.map (·.2)).getD 0 = li at *
    generalize hhi : (hi.map (·.2)).getD (s.size : Int) = hj at *
    have b := run_bounds (P := P) (w := κ.w) (b := false) (lo := lo) (hi := hi) (len := s.size) (cap := s.size) (l := li.toNat) (h := hj.toNat) (by omega) (by omega) (by omega) (by omega)
    refine ⟨.string (s.extract li.toNat hj.toNat), ?_, by simp [VRel]⟩
    simp only [Instr.sliceAt, Instr.slice, Sem.run_bind, run_under ht, Result.andThen_ok]
    simp only [Option.isSome_none, Bool.false_eq_true, if_false, Sem.run_bind, b, Result.andThen_ok, pure, Sem.run]
  · cases hv

/-- len, of what has one by sight. -/
def alen (d : TypeDesc) (σ : H) (x : AV) : Option Int :=
  match d, x with
  | .string, .str s => some s.size
  | .slice _, .sl _ _ es => some es.length
  | .slice _, .rs b _ n _ => if σ.live b then some n else none
  | .slice _, .nils => some 0
  | .array n _, _ => some n
  | _, _ => none
theorem run_len {P : Program} {κ : Ctx} {σ : H} {t ty : TypeId} {d : TypeDesc} {x : AV} {u : Value} {n : Int} (hd : P.underlying t = some d) (hh : HRel κ σ) (hx : VRel κ x u) (h : alen d σ x = some n) :
    (Builtin.len_ #[t] ty #[u]).run P κ.w = .ok (.int .i64 n) κ.w := by
  unfold alen at h
  split at h
  · simp only [VRel] at hx; subst hx; cases h
    simp only [Builtin.len_, List.getElem?_toArray, List.getElem?_cons_zero, Sem.run_bind, run_under hd, Result.andThen_ok]; rfl
  · simp only [VRel] at hx
    obtain ⟨cb, co, a, cap, rfl, _⟩ := hx
    cases h
    simp only [Builtin.len_, List.getElem?_toArray, List.getElem?_cons_zero, Sem.run_bind, run_under hd, Result.andThen_ok]; rfl
  · split at h
    · rename_i hb
      obtain ⟨c, hO⟩ := hh.live hb
      simp only [VRel] at hx
      obtain ⟨a, cap, rfl, _⟩ := hx c hO
      cases h
      simp only [Builtin.len_, List.getElem?_toArray, List.getElem?_cons_zero, Sem.run_bind, run_under hd, Result.andThen_ok]; rfl
    · cases h
  · simp only [VRel] at hx; subst hx; cases h
    simp only [Builtin.len_, List.getElem?_toArray, List.getElem?_cons_zero, Sem.run_bind, run_under hd, Result.andThen_ok]; rfl
  · cases h
    simp only [Builtin.len_, List.getElem?_toArray, List.getElem?_cons_zero, Sem.run_bind, run_under hd, Result.andThen_ok]; rfl
  · cases h

/-- The cells of a value. -/
def acells (σ : H) : AV → Option (List AV)
  | .agg cs => some cs
  | .undef => none
  | .tup _ => none
  | .ref b o => if σ.live b then some [.ref b o] else none
  | .rs b o n k => if σ.live b then some [.rs b o n k] else none
  | .mref b => if σ.live b then some [.mref b] else none
  | v => some [v]
theorem acells_spec {κ : Ctx} {σ : H} {v : AV} {cs : List AV} {u : Value} (hh : HRel κ σ) (hv : VRel κ v u) (h : acells σ v = some cs) : VRels κ cs u.cells.toList := by
  have one : ∀ (v : AV) (u : Value), VRel κ v u → u.cells = #[u] → VRels κ [v] u.cells.toList := fun v u h e => by
    rw [e]; simp only [VRels]; exact ⟨u, [], rfl, h, rfl⟩
  unfold acells at h
  split at h
  · cases h
    simp only [VRel] at hv
    obtain ⟨us, rfl, hv⟩ := hv
    exact hv
  · cases h
  · cases h
  · rename_i b o
    split at h
    · rename_i hb
      cases h
      obtain ⟨c, hO⟩ := hh.live hb
      refine one _ _ hv ?_
      simp only [VRel] at hv
      rw [hv c hO]; rfl
    · cases h
  · rename_i b o n k
    split at h
    · rename_i hb
      cases h
      obtain ⟨c, hO⟩ := hh.live hb
      refine one _ _ hv ?_
      simp only [VRel] at hv
      obtain ⟨a, cap, rfl, _⟩ := hv c hO
      rfl
    · cases h
  · rename_i b
    split at h
    · rename_i hb
      cases h
      obtain ⟨c, hO⟩ := hh.live hb
      refine one _ _ hv ?_
      simp only [VRel] at hv
      rw [hv c hO]; rfl
    · cases h
  · rename_i h1 h2 h3 h4 h5 h6
    cases h
    refine one _ _ hv ?_
    cases v <;> simp only [VRel] at hv <;> first
      | (subst hv; rfl)
      | (obtain ⟨cb, co, rfl, _⟩ := hv; rfl)
      | (obtain ⟨cb, co, a, cap, rfl, _⟩ := hv; rfl)
      | (obtain ⟨us, ws, rfl, _⟩ := hv; rfl)
      | (obtain ⟨us, rfl, _⟩ := hv; rfl)
      | (exfalso; simp at h1 h2 h3 h4 h5 h6; done)
      | (exfalso; exact h1 _ rfl) | (exfalso; exact h2 rfl) | (exfalso; exact h3 _ rfl) | (exfalso; exact h4 _ _ rfl) | (exfalso; exact h5 _ _ _ _ rfl) | (exfalso; exact h6 _ rfl)
end Go.Proofs.Hz
