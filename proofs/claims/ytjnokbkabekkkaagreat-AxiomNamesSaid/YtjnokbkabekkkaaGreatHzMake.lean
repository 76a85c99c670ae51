/- Values and slices that are built; appends. -/
import Derived.Test.YtjnokbkabekkkaaGreatHzStore
set_option linter.all false
namespace Go.Proofs.Hz
open Go

def afill (place : Nat → Option (Nat × Nat)) (σ : H) : List AV → List (Nat × AV) → Option (List AV)
  | cs, [] => some cs
  | cs, (i, v) :: rest => match place i with
    | some (off, size) => match acells σ v with
      | some vs => if vs.length = size ∧ off + vs.length ≤ cs.length then afill place σ (aput cs off vs) rest else none
      | none => none
    | none => none
theorem foldl_set (off : Nat) : ∀ (l : List Value) (j : Nat) (arr : Array Value), off + j + l.length ≤ arr.size →
    (l.zipIdx j).foldl (fun cs p => cs.setIfInBounds (off + p.2) p.1) arr = splice arr (off + j) l
  | [], j, arr, h => by
    apply Array.ext_getElem?; intro i
    rw [splice_get (by simpa using h)]
    simp only [List.zipIdx_nil, List.foldl_nil, List.length_nil, Nat.add_zero]
    split <;> first | rfl | (split <;> first | rfl | omega)
  | c :: l, j, arr, h => by
    simp only [List.length_cons] at h
    simp only [List.zipIdx_cons, List.foldl_cons]
    rw [foldl_set off l (j + 1) _ (by simp; omega)]
    apply Array.ext_getElem?; intro i
    rw [splice_get (by simp; omega), splice_get (by simp; omega)]
    simp only [List.length_cons]
    rw [Array.getElem?_setIfInBounds]
    by_cases h1 : i < off + j
    · rw [if_pos (show i < off + (j + 1) by omega), if_pos h1, if_neg (show ¬ (off + j = i) by omega)]
    · by_cases h2 : i = off + j
      · subst h2
        rw [if_pos (show off + j < off + (j + 1) by omega), if_pos rfl, if_neg h1, if_pos (show off + j < arr.size by omega), if_pos (show off + j < off + j + (l.length + 1) by omega)]
        simp
      · rw [if_neg (show ¬ i < off + (j + 1) by omega), if_neg h1]
        by_cases h3 : i < off + (j + 1) + l.length
        · rw [if_pos h3, if_pos (show i < off + j + (l.length + 1) by omega), show i - (off + j) = (i - (off + (j + 1))) + 1 by omega]; simp
        · rw [if_neg h3, if_neg (show ¬ i < off + j + (l.length + 1) by omega), if_neg (show ¬ (off + j = i) by omega)]
theorem VRels.of_get {κ : Ctx} : ∀ {vs : List AV} {us : List Value}, us.length = vs.length → (∀ (i : Nat) (v : AV), vs[i]? = some v → ∃ u, us[i]? = some u ∧ VRel κ v u) → VRels κ vs us
  | [], us, h, _ => by simp at h; simp [VRels, h]
  | v :: vs, [], h, _ => by simp at h
  | v :: vs, u :: us, h, hg => by
    simp only [VRels]
    obtain ⟨u', h1, h2⟩ := hg 0 v (by simp)
    simp at h1; subst h1
    exact ⟨u, us, rfl, h2, VRels.of_get (by simpa using h) fun i v hv => by simpa using hg (i + 1) v (by simpa using hv)⟩
theorem VRels.aput {κ : Ctx} {cs vs : List AV} {arr : Array Value} {us : List Value} {o : Nat} (hc : VRels κ cs arr.toList) (hv : VRels κ vs us) (h : o + vs.length ≤ cs.length) :
    VRels κ (aput cs o vs) (splice arr o us).toList := by
  have l1 := VRels.length hc
  have l2 := VRels.length hv
  have hsz : o + us.length ≤ arr.size := by rw [← Array.length_toList]; omega
  have l1' : arr.size = cs.length := by simpa using l1
  refine VRels.of_get (by rw [Array.length_toList, splice_size hsz]; simp [Hz.aput]; omega) fun i v hx => ?_
  rw [Array.getElem?_toList, splice_get hsz, l2]
  rw [aput_get h] at hx
  split at hx
  · rename_i q1
    obtain ⟨u, k1, k2⟩ := VRels.get hc hx
    exact ⟨u, by rw [if_pos q1]; simpa using k1, k2⟩
  · rename_i q1
    rw [if_neg q1]
    split at hx
    · rename_i q2
      obtain ⟨u, k1, k2⟩ := VRels.get hv hx
      exact ⟨u, by rw [if_pos q2]; exact k1, k2⟩
    · rename_i q2
      obtain ⟨u, k1, k2⟩ := VRels.get hc hx
      exact ⟨u, by rw [if_neg q2]; simpa using k1, k2⟩
theorem run_fill {κ : Ctx} {σ : H} (hh : HRel κ σ) {place : Nat → Option (Nat × Nat)} : ∀ {ps : List (Nat × AV)} {us : List (Nat × Value)} {cs r : List AV} {arr : Array Value},
    (∃ vs, us = (ps.zip vs).map (fun p => (p.1.1, p.2)) ∧ VRels κ (ps.map (·.2)) vs) → VRels κ cs arr.toList → afill place σ cs ps = some r → ∃ arr', Instr.fill place arr us = some arr' ∧ VRels κ r arr'.toList
  | [], us, cs, r, arr, hu, hc, h => by
    obtain ⟨vs, rfl, _⟩ := hu
    simp only [afill, Option.some.injEq] at h; subst h
    exact ⟨arr, by simp [Instr.fill], hc⟩
  | (i, v) :: ps, us, cs, r, arr, hu, hc, h => by
    obtain ⟨vs, rfl, hv⟩ := hu
    simp only [List.map_cons, VRels] at hv
    obtain ⟨u, us', rfl, hv1, hv2⟩ := hv
    simp only [afill] at h
    split at h
    · rename_i off size hp
      split at h
      · rename_i ws hws
        split at h
        · rename_i hcond
          have hr := acells_spec hh hv1 hws
          have l1 := VRels.length hc
          have l2 := VRels.length hr
          simp only [Array.length_toList] at l1 l2
          obtain ⟨arr', g1, g2⟩ := run_fill hh ⟨us', rfl, hv2⟩ (VRels.aput hc hr hcond.2) h
          refine ⟨arr', ?_, g2⟩
          simp only [List.zip_cons_cons, List.map_cons, Instr.fill, hp]
          rw [if_neg (by simp; omega)]
          rw [← g1]
          congr 1
          have := foldl_set off u.cells.toList 0 arr (by simp; omega)
          rw [Nat.add_zero] at this
          rw [← this, ← Array.foldl_toList]
          simp
        · cases h
      · cases h
    · cases h

/-- A type's zero value, as cells. -/
def zeroL (P : Program) (t : TypeId) : Option (List AV) :=
  match P.info? t with
  | some i => i.zero.map fun z => z.cells.toList.map cv
  | none => none
theorem vrels_cv (κ : Ctx) : ∀ us : List Value, VRels κ (us.map cv) us
  | [] => by simp [VRels]
  | u :: us => by simp only [List.map_cons, VRels]; exact ⟨u, us, rfl, vrel_cv κ u, vrels_cv κ us⟩
theorem run_zero {P : Program} {t : TypeId} {zs : List AV} (h : zeroL P t = some zs) (w : World) : ∃ z, (zeroValue t).run P w = .ok z w ∧ zs = z.cells.toList.map cv := by
  unfold zeroL at h
  split at h
  · rename_i i hi
    simp only [Option.map_eq_some_iff] at h
    obtain ⟨z, hz, rfl⟩ := h
    exact ⟨z, by simp only [zeroValue, typeInfo, program, Sem.run_bind, Sem.run, Result.andThen_ok, hi, pure, hz], rfl⟩
  · cases h
/-- Where the parts of a struct or an array lie. -/
def placesF (P : Program) : List Field → Option (List (Nat × Nat))
  | [] => some []
  | f :: fs => match P.info? f.type, placesF P fs with
    | some i, some r => some ((f.offset, i.size) :: r)
    | _, _ => none
def placesL (P : Program) (t : TypeId) : Option (List (Nat × Nat)) :=
  match P.underlying t with
  | some (.struct fs) => placesF P fs.toList
  | some (.array n e) => (P.info? e).map fun i => (List.range n).map fun j => (j * i.size, i.size)
  | _ => none
theorem run_placesF {P : Program} {w : World} : ∀ {fs : List Field} {r : List (Nat × Nat)}, placesF P fs = some r →
    (fs.mapM (m := Sem) fun f => do pure (f.offset, ← sizeOf f.type)).run P w = .ok r w
  | [], r, h => by simp only [placesF, Option.some.injEq] at h; subst h; simp [pure, Sem.run]
  | f :: fs, r, h => by
    simp only [placesF] at h
    split at h
    · rename_i i r' hi hr
      cases h
      have ih := run_placesF (w := w) hr
      have hsz : (sizeOf f.type).run P w = .ok i.size w := by
        simp only [sizeOf, typeInfo, program, Sem.run_bind, Sem.run, Result.andThen_ok, hi, pure]
      simp only [List.mapM_cons, Sem.run_bind, hsz, Result.andThen_ok, pure, Sem.run]
      simp only [pure] at ih
      rw [ih]
      simp [Result.andThen_ok, Sem.run]
    · cases h
def abuild (P : Program) (t : TypeId) (σ : H) (ps : List (Nat × AV)) : Option AV :=
  match zeroL P t, placesL P t with
  | some zs, some pl => (afill (pl[·]?) σ zs ps).map .agg
  | _, _ => none
theorem fill_more {p q : Nat → Option (Nat × Nat)} (hpq : ∀ i x, p i = some x → q i = some x) : ∀ {us : List (Nat × Value)} {arr arr' : Array Value}, Instr.fill p arr us = some arr' → Instr.fill q arr us = some arr'
  | [], arr, arr', h => by simpa [Instr.fill] using h
  | (i, v) :: us, arr, arr', h => by
    simp only [Instr.fill] at h ⊢
    cases hp : p i with
    | none => simp [hp] at h
    | some x =>
      obtain ⟨off, size⟩ := x
      rw [hpq i _ hp]
      simp only [hp] at h
      simp only
      split at h
      · cases h
      · rename_i hc
        rw [if_neg hc]
        exact fill_more hpq h
theorem run_build {P : Program} {κ : Ctx} {σ : H} {t : TypeId} {ps : List (Nat × AV)} {us : Array (Nat × Value)} {v : AV} (hh : HRel κ σ)
    (hu : ∃ vs, us.toList = (ps.zip vs).map (fun p => (p.1.1, p.2)) ∧ VRels κ (ps.map (·.2)) vs) (h : abuild P t σ ps = some v) :
    ∃ y, (Instr.build t us).run P κ.w = .ok y κ.w ∧ VRel κ v y := by
  unfold abuild at h
  split at h
  · rename_i zs pl hz hpl
    simp only [Option.map_eq_some_iff] at h
    obtain ⟨r, hr, rfl⟩ := h
    obtain ⟨z, hz1, rfl⟩ := run_zero hz κ.w
    obtain ⟨arr', g1, g2⟩ := run_fill hh hu (vrels_cv κ z.cells.toList) hr
    refine ⟨.agg arr', ?_, by simp only [VRel]; exact ⟨arr', rfl, g2⟩⟩
    unfold placesL at hpl
    split at hpl
    · rename_i fs hfs
      have e1 := run_placesF (w := κ.w) hpl
      simp only [Instr.build, Sem.run_bind, hz1, run_under hfs, Result.andThen_ok]
      rw [Array.mapM_eq_mapM_toList, Sem.run_map, e1]
      simp only [Result.andThen_ok, List.getElem?_toArray, g1]
      rfl
    · rename_i n e hfs
      cases hi : P.info? e with
      | none => simp [hi] at hpl
      | some i =>
        simp only [hi, Option.map_some, Option.some.injEq] at hpl
        subst hpl
        have hsz : (sizeOf e).run P κ.w = .ok i.size κ.w := by
          simp only [sizeOf, typeInfo, program, Sem.run_bind, Sem.run, Result.andThen_ok, hi, pure]
        have g1' := fill_more (q := fun j => some (j * i.size, i.size)) (fun j x hx => by
          simp only [List.getElem?_map, Option.map_eq_some_iff] at hx
          obtain ⟨k, hk, rfl⟩ := hx
          obtain ⟨h1, h2⟩ := List.getElem?_eq_some_iff.1 hk
          have : k = j := by simpa using h2.symm
          subst this; rfl) g1
        simp only [Instr.build, Sem.run_bind, hz1, run_under hfs, Result.andThen_ok, hsz, g1']
        rfl
    · cases hpl
  · cases h
end Go.Proofs.Hz
