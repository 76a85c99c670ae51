/- Comparisons of structs and with nil; slicing; lengths; building. -/
import Derived.Test.YtjnokbkabekkkaaGreatHzOp2
import Derived.Laws.StructEq
set_option linter.all false
namespace Go.Proofs.Hz
open Go

theorem run_under {P : Program} {w : World} {t : TypeId} {d : TypeDesc} (h : P.underlying t = some d) : (underlying t).run P w = .ok d w := by
  simp only [underlying, program, Sem.run_bind, Sem.run, Result.andThen_ok, h, pure]

theorem run_eqop {P : Program} {κ : Ctx} {σ : H} {t : TypeId} {d : TypeDesc} {x y : AV} {ux uy : Value} {r : Bool} (hd : P.underlying t = some d) (hh : HRel κ σ)
    (hx : VRel κ x ux) (hy : VRel κ y uy) (h : eqop d σ x y = some r) (n : Nat) : (Op.equalIn (n + 1) t ux uy).run P κ.w = .ok r κ.w := by
  have e1 := run_under (w := κ.w) hd
  unfold eqop at h
  split at h
  case h_1 a b =>
    simp only [VRel] at hx hy; subst hx hy
    simp only [Option.some.injEq] at h; subst h
    simp only [Op.equalIn, Sem.run_bind, e1, Result.andThen_ok]; rfl
  case h_2 =>
    simp only [VRel] at hx hy; subst hx hy
    simp only [Option.some.injEq] at h; subst h
    simp only [Op.equalIn, Sem.run_bind, e1, Result.andThen_ok]; rfl
  case h_3 =>
    simp only [VRel] at hx hy; subst hy
    obtain ⟨cb, co, rfl, _⟩ := hx
    simp only [Option.some.injEq] at h; subst h
    simp only [Op.equalIn, Sem.run_bind, e1, Result.andThen_ok]; rfl
  case h_4 b off =>
    split at h
    · rename_i hb
      obtain ⟨c, hO⟩ := hh.live hb
      simp only [VRel] at hx hy; subst hy
      have := hx c hO; subst this
      simp only [Option.some.injEq] at h; subst h
      simp only [Op.equalIn, Sem.run_bind, e1, Result.andThen_ok]; rfl
    · cases h
  case h_5 =>
    simp only [VRel] at hx hy; subst hx hy
    simp only [Option.some.injEq] at h; subst h
    simp only [Op.equalIn, Sem.run_bind, e1, Result.andThen_ok]; rfl
  case h_6 nn k es =>
    split at h
    · rename_i hb
      simp only [VRel] at hx hy; subst hy
      obtain ⟨cb, co, a, cap, rfl, g1, g2, g3, g4, g5, g6⟩ := hx
      simp only [Option.some.injEq] at h; subst h
      have : ∃ a', a = some a' := by
        cases nn with
        | true => exact Option.isSome_iff_exists.1 (g2 rfl)
        | false =>
          simp at hb
          exact ⟨_, (g3 (by simpa using hb)).1⟩
      obtain ⟨a', rfl⟩ := this
      simp only [Op.equalIn, Sem.run_bind, e1, Result.andThen_ok]; rfl
    · cases h
  case h_7 b off n k =>
    split at h
    · rename_i hb
      obtain ⟨c, hO⟩ := hh.live hb
      simp only [VRel] at hx hy; subst hy
      obtain ⟨a, cap, rfl, _⟩ := hx c hO
      simp only [Option.some.injEq] at h; subst h
      simp only [Op.equalIn, Sem.run_bind, e1, Result.andThen_ok]; rfl
    · cases h
  case h_8 =>
    simp only [VRel] at hx hy; subst hx hy
    simp only [Option.some.injEq] at h; subst h
    simp only [Op.equalIn, Sem.run_bind, e1, Result.andThen_ok]; rfl
  case h_9 =>
    simp only [VRel] at hx hy; subst hy
    obtain ⟨us, ws, rfl, _⟩ := hx
    simp only [Option.some.injEq] at h; subst h
    simp only [Op.equalIn, Sem.run_bind, e1, Result.andThen_ok]; rfl
  case h_10 => cases h

/-- A struct type of scalars, of which kinds. -/
def flatFlds (P : Program) : Nat → List Field → Option (List Tag)
  | _, [] => some []
  | i, f :: fs => if f.name != "_" && f.offset == i && tyL P f.type == some (false, 1) then
      match P.underlying f.type, flatFlds P (i + 1) fs with
      | some (.int _), some ts => some (.int :: ts)
      | some .bool, some ts => some (.bool :: ts)
      | some .string, some ts => some (.str :: ts)
      | _, _ => none
    else none
def flatL (P : Program) (t : TypeId) : Option (List Tag) :=
  match P.underlying t with
  | some (.struct fs) => if P.stoodInHeld t || P.eqGuardType P.depth t then none else flatFlds P 0 fs.toList
  | _ => none
def Tag.fits : Tag → TypeDesc → Prop
  | .int, d => ∃ k, d = .int k
  | .bool, d => d = .bool
  | .str, d => d = .string
theorem run_eq1 {P : Program} {κ : Ctx} {d : Nat} {t : TypeId} {tg : Tag} {de : TypeDesc} {x y : AV} {r : Bool} {u z : Value} (hd : P.underlying t = some de) (hf : tg.fits de) (h : eq1 tg x y = some r)
    (hu : VRel κ x u) (hz : VRel κ y z) : (Op.equalIn (d + 1) t u z).run P κ.w = .ok r κ.w := by
  unfold eq1 at h
  split at h
  · obtain ⟨k, rfl⟩ := hf
    split at h
    · rename_i e; subst e
      cases h
      simp only [VRel] at hu hz; subst hu hz
      exact run_equalIn_int _ _ _ _ _ _ _ hd
    · cases h
  · cases h
    simp only [Tag.fits] at hf; subst hf
    simp only [VRel] at hu hz; subst hu hz
    exact run_equalIn_bool' _ _ _ _ _ hd
  · cases h
    simp only [Tag.fits] at hf; subst hf
    simp only [VRel] at hu hz; subst hu hz
    exact run_equalIn_string _ _ _ _ _ hd
  · cases h
theorem flatFlds_cons {P : Program} {i : Nat} {f : Field} {fs : List Field} {ts : List Tag} (h : flatFlds P i (f :: fs) = some ts) :
    f.name ≠ "_" ∧ f.offset = i ∧ tyL P f.type = some (false, 1) ∧ ∃ tg ts' de, ts = tg :: ts' ∧ flatFlds P (i + 1) fs = some ts' ∧ P.underlying f.type = some de ∧ tg.fits de := by
  simp only [flatFlds] at h
  split at h
  · rename_i hc
    simp only [Bool.and_eq_true, beq_iff_eq, bne_iff_ne] at hc
    obtain ⟨⟨hn, ho⟩, ht⟩ := hc
    refine ⟨hn, ho, ht, ?_⟩
    split at h
    · rename_i kk ts' hk hts
      cases h; exact ⟨_, _, _, rfl, hts, hk, kk, rfl⟩
    · rename_i ts' hk hts
      cases h; exact ⟨_, _, _, rfl, hts, hk, rfl⟩
    · rename_i ts' hk hts
      cases h; exact ⟨_, _, _, rfl, hts, hk, rfl⟩
    · cases h
  · cases h
theorem sameCells_cons {t : Tag} {ts : List Tag} {xs ys : List AV} {r : Bool} (h : sameCells (t :: ts) xs ys = some r) :
    ∃ x xs' y ys' r1 r2, xs = x :: xs' ∧ ys = y :: ys' ∧ eq1 t x y = some r1 ∧ sameCells ts xs' ys' = some r2 ∧ r = (r1 && r2) := by
  cases xs with
  | nil => simp [sameCells] at h
  | cons x xs' =>
    cases ys with
    | nil => simp [sameCells] at h
    | cons y ys' =>
      simp only [sameCells] at h
      split at h
      · rename_i r1 h1
        cases hs : sameCells ts xs' ys' with
        | none => simp [hs] at h
        | some r2 =>
          simp only [hs, Option.map_some, Option.some.injEq] at h
          exact ⟨x, xs', y, ys', r1, r2, rfl, rfl, h1, hs, h.symm⟩
      · cases h
theorem run_eqFields {P : Program} {κ : Ctx} (d : Nat) {us zs : List Value} : ∀ (fs : List Field) (i : Nat) (ts : List Tag) (xs ys : List AV) (r : Bool),
    flatFlds P i fs = some ts → VRels κ xs (us.drop i) → VRels κ ys (zs.drop i) → sameCells ts xs ys = some r → (Op.eqFields (d + 1) us.toArray zs.toArray fs).run P κ.w = .ok r κ.w
  | [], i, ts, xs, ys, r, hf, hx, hy, h => by
    simp only [flatFlds, Option.some.injEq] at hf
    subst hf
    cases xs <;> cases ys <;> simp [sameCells] at h
    subst h
    simp [Op.eqFields, pure, Sem.run]
  | f :: fs, i, ts, xs, ys, r, hf, hx, hy, h => by
    obtain ⟨hn, ho, ht, tg, ts', de, rfl, hf', hd, hfit⟩ := flatFlds_cons hf
    obtain ⟨x, xs', y, ys', r1, r2, rfl, rfl, h1, h2, rfl⟩ := sameCells_cons h
    simp only [VRels] at hx hy
    obtain ⟨u, us', eu, hu, hus⟩ := hx
    obtain ⟨z, zs', ez, hz, hzs⟩ := hy
    have eu1 : us[i]? = some u := by rw [← List.head?_drop, eu]; rfl
    have ez1 : zs[i]? = some z := by rw [← List.head?_drop, ez]; rfl
    have eu2 : us.drop (i + 1) = us' := by rw [← List.tail_drop, eu]; rfl
    have ez2 : zs.drop (i + 1) = zs' := by rw [← List.tail_drop, ez]; rfl
    have pu : (part f.type us.toArray f.offset).run P κ.w = .ok u κ.w := by
      simp only [part, Sem.run_bind, run_isAgg ht, Result.andThen_ok, Bool.false_eq_true, if_false, ho, List.getElem?_toArray, eu1]; rfl
    have pz : (part f.type zs.toArray f.offset).run P κ.w = .ok z κ.w := by
      simp only [part, Sem.run_bind, run_isAgg ht, Result.andThen_ok, Bool.false_eq_true, if_false, ho, List.getElem?_toArray, ez1]; rfl
    have ih := run_eqFields d fs (i + 1) ts' xs' ys' r2 hf' (eu2 ▸ hus) (ez2 ▸ hzs) h2
    simp only [Op.eqFields, if_pos hn, Sem.run_bind, pu, pz, Result.andThen_ok, run_eq1 hd hfit h1 hu hz]
    cases r1 <;> simp [ih, pure, Sem.run]
theorem run_flat {P : Program} {κ : Ctx} {t : TypeId} {ts : List Tag} {xs ys : List AV} {us zs : Array Value} {r : Bool} (n : Nat) (hf : flatL P t = some ts) (hx : VRels κ xs us.toList) (hy : VRels κ ys zs.toList)
    (h : sameCells ts xs ys = some r) : (Op.equalIn (n + 1 + 1) t (.agg us) (.agg zs)).run P κ.w = .ok r κ.w ∧ P.eqGuardType P.depth t = false := by
  unfold flatL at hf
  split at hf
  · rename_i fs hfs
    split at hf
    · cases hf
    · rename_i hc
      simp only [Bool.or_eq_true, not_or, Bool.not_eq_true] at hc
      refine ⟨?_, hc.2⟩
      have e : P.fieldsOf t = fs := by unfold Program.fieldsOf; rw [hfs]
      rw [run_equalIn_struct _ _ _ _ _ (by rw [e]; exact hfs) hc.1, e]
      have := run_eqFields (P := P) (κ := κ) n (us := us.toList) (zs := zs.toList) fs.toList 0 ts xs ys r hf (by simpa using hx) (by simpa using hy) h
      simpa using this
  · cases hf
end Go.Proofs.Hz
