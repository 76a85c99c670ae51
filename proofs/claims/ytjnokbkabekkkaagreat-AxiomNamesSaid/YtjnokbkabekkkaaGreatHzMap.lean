/- Maps. -/
import Derived.Test.YtjnokbkabekkkaaGreatHzFresh
set_option linter.all false
namespace Go.Proofs.Hz
open Go

/-- A map type: its key's type, what that is, its values' type. -/
def mapL (P : Program) (t : TypeId) : Option (TypeId × TypeDesc × TypeId) :=
  match P.underlying t with
  | some (.map key elem) => match P.underlying key with
    | some d => some (key, d, elem)
    | none => none
  | _ => none
/-- Are two keys the same? -/
def aeq (P : Program) (key : TypeId) (d : TypeDesc) (x y : AV) : Option Bool :=
  match d, x, y with
  | .int _, .int k a, .int k' b => if k = k' then some (a == b) else none
  | .string, .str a, .str b => some (a == b)
  | .struct _, .agg xs, .agg ys => match flatL P key with
    | some ts => sameCells ts xs ys
    | none => none
  | _, _, _ => none
def afind (P : Program) (key : TypeId) (d : TypeDesc) (k : AV) : List (AV × AV) → Nat → Option (Option (Nat × AV))
  | [], _ => some none
  | (k', v) :: es, i => match aeq P key d k k' with
    | some true => some (some (i, v))
    | some false => afind P key d k es (i + 1)
    | none => none
/-- Is it a key of such a type? -/
def akey (P : Program) (key : TypeId) (d : TypeDesc) (k : AV) : Bool :=
  match d, k with
  | .int _, .int _ _ => true
  | .string, .str _ => true
  | .struct _, .agg xs => match flatL P key with
    | some ts => (sameCells ts xs xs).isSome
    | none => false
  | _, _ => false
def fnd (κ : Ctx) (r : Option (Nat × AV)) (r' : Option (Nat × Value)) : Prop :=
  (r = none ∧ r' = none) ∨ ∃ j v u, r = some (j, v) ∧ r' = some (j, u) ∧ VRel κ v u
theorem run_flat_fields {P : Program} {κ : Ctx} {us : List Value} (body : Field → PUnit → Sem (ForInStep PUnit))
    (hb : ∀ f de tg x u, f.name ≠ "_" → P.underlying f.type = some de → Tag.fits tg de → (eq1 tg x x).isSome = true → VRel κ x u → (part f.type us.toArray f.offset).run P κ.w = .ok u κ.w → (body f PUnit.unit).run P κ.w = .ok (.yield PUnit.unit) κ.w) :
    ∀ (fs : List Field) (i : Nat) (ts : List Tag) (xs : List AV), flatFlds P i fs = some ts → VRels κ xs (us.drop i) → (sameCells ts xs xs).isSome = true →
      (forIn fs PUnit.unit body : Sem PUnit).run P κ.w = .ok PUnit.unit κ.w
  | [], i, ts, xs, hf, hx, h => by simp [pure, Sem.run]
  | f :: fs, i, ts, xs, hf, hx, h => by
    obtain ⟨hn, ho, ht, tg, ts', de, rfl, hf', hd, hfit⟩ := flatFlds_cons hf
    obtain ⟨r, hr⟩ := Option.isSome_iff_exists.1 h
    obtain ⟨x, xs', y, ys', r1, r2, rfl, e2, h1, h2, rfl⟩ := sameCells_cons hr
    cases e2
    simp only [VRels] at hx
    obtain ⟨u, us', eu, hu, hus⟩ := hx
    have eu1 : us[i]? = some u := by rw [← List.head?_drop, eu]; rfl
    have eu2 : us.drop (i + 1) = us' := by rw [← List.tail_drop, eu]; rfl
    have pu : (part f.type us.toArray f.offset).run P κ.w = .ok u κ.w := by
      simp only [part, Sem.run_bind, run_isAgg ht, Result.andThen_ok, Bool.false_eq_true, if_false, ho, List.getElem?_toArray, eu1]; rfl
    rw [List.forIn_cons, Sem.run_bind, hb f de tg x u hn hd hfit (by rw [h1]; rfl) hu pu, Result.andThen_ok]
    exact run_flat_fields body hb fs (i + 1) ts' xs' hf' (eu2 ▸ hus) (by rw [h2]; rfl)
theorem run_checkKey {P : Program} {κ : Ctx} {key : TypeId} {d : TypeDesc} {k : AV} {u : Value} (hd : P.underlying key = some d) (hk : VRel κ k u) (h : akey P key d k = true) (b : Bool) :
    (Instr.checkKey b 10000 key u).run P κ.w = .ok () κ.w := by
  unfold akey at h
  rw [show (10000 : Nat) = Nat.succ (Nat.succ 9998) from rfl, Instr.checkKey.eq_2, Sem.run_bind, run_under hd, Result.andThen_ok]
  split at h
  · simp only [VRel] at hk; subst hk; rfl
  · simp only [VRel] at hk; subst hk; rfl
  · rename_i fs xs
    simp only [VRel] at hk
    obtain ⟨us, rfl, hk⟩ := hk
    split at h
    · rename_i ts hts
      unfold flatL at hts
      rw [hd] at hts
      simp only at hts
      split at hts
      · cases hts
      · simp only
        rw [Sem.run_bind, ← Array.forIn_toList, run_flat_fields (us := us.toList) _ ?_ fs.toList 0 ts xs hts (by simpa using hk) h, Result.andThen_ok]
        · rfl
        · intro f de tg x u hn hde hfit h1 hu hp
          rw [if_pos hn]
          have hp' : (part f.type us f.offset).run P κ.w = .ok u κ.w := by simpa using hp
          simp only [Sem.run_bind, hp', Result.andThen_ok]
          have : (Instr.checkKey b (Nat.succ 9998) f.type u).run P κ.w = .ok () κ.w := by
            rw [Instr.checkKey.eq_2, Sem.run_bind, run_under hde, Result.andThen_ok]
            unfold eq1 at h1
            split at h1
            · obtain ⟨kk, rfl⟩ := hfit
              simp only [VRel] at hu; subst hu; rfl
            · simp only [Tag.fits] at hfit; subst hfit
              simp only [VRel] at hu; subst hu; rfl
            · simp only [Tag.fits] at hfit; subst hfit
              simp only [VRel] at hu; subst hu; rfl
            · simp at h1
          rw [this, Result.andThen_ok]; rfl
    · cases h
  · cases h
theorem findNow_spec {P : Program} {κ : Ctx} {key : TypeId} {d : TypeDesc} {k : AV} {u : Value} (hns : ∀ fs, d ≠ .struct fs) (hk : VRel κ k u) : ∀ (es : List (AV × AV)) (l : List MapEntry) (i : Nat) (r : Option (Nat × AV)), MapRel κ es l → afind P key d k es i = some r →
    ∃ r', Instr.findNow d u l i = some r' ∧ fnd κ r r'
  | [], l, i, r, hm, h => by
    simp only [MapRel] at hm; subst hm
    simp only [afind, Option.some.injEq] at h; subst h
    exact ⟨none, rfl, .inl ⟨rfl, rfl⟩⟩
  | (k', v) :: es, l, i, r, hm, h => by
    simp only [MapRel] at hm
    obtain ⟨e, l', rfl, h1, h2, h3⟩ := hm
    simp only [afind] at h
    have key1 : ∀ t, aeq P key d k k' = some t → Instr.sameNow d u e.key = some t := by
      intro t ht
      unfold aeq at ht
      split at ht
      · split at ht
        · rename_i e1; subst e1
          simp only [VRel] at hk h1
          rw [hk, h1]
          simpa [Instr.sameNow] using ht
        · cases ht
      · simp only [VRel] at hk h1
        rw [hk, h1]; exact ht
      · exact absurd rfl (hns _)
      · cases ht
    rw [Instr.findNow.eq_2]
    split at h
    · rename_i ht
      cases h
      rw [key1 _ ht]
      exact ⟨_, rfl, .inr ⟨i, v, e.val, rfl, rfl, h2⟩⟩
    · rename_i ht
      rw [key1 _ ht]
      exact findNow_spec hns hk es l' (i + 1) r h3 h
    · cases h
theorem findAsking_spec {P : Program} {κ : Ctx} {key : TypeId} {fs : Array Field} {k : AV} {u : Value} (hk : VRel κ k u) : ∀ (es : List (AV × AV)) (l : List MapEntry) (i : Nat) (r : Option (Nat × AV)), MapRel κ es l → afind P key (.struct fs) k es i = some r →
    ∃ r', (Instr.findAsking key u l i).run P κ.w = .ok r' κ.w ∧ fnd κ r r'
  | [], l, i, r, hm, h => by
    simp only [MapRel] at hm; subst hm
    simp only [afind, Option.some.injEq] at h; subst h
    exact ⟨none, rfl, .inl ⟨rfl, rfl⟩⟩
  | (k', v) :: es, l, i, r, hm, h => by
    simp only [MapRel] at hm
    obtain ⟨e, l', rfl, h1, h2, h3⟩ := hm
    simp only [afind] at h
    have key1 : ∀ t, aeq P key (.struct fs) k k' = some t → (Op.equal key u e.key).run P κ.w = .ok t κ.w := by
      intro t ht
      unfold aeq at ht
      split at ht
      · rename_i hh; cases hh
      · rename_i hh; cases hh
      · split at ht
        · rename_i ts hts
          simp only [VRel] at hk h1
          obtain ⟨us, rfl, hk⟩ := hk
          obtain ⟨zs, h1, hz⟩ := h1
          rw [h1]
          exact (run_flat (P := P) (κ := κ) 9998 hts hk hz ht).1
        · cases ht
      · cases ht
    rw [Instr.findAsking.eq_2, Sem.run_bind]
    split at h
    · rename_i ht
      cases h
      rw [key1 _ ht, Result.andThen_ok, if_pos rfl]
      exact ⟨_, rfl, .inr ⟨i, v, e.val, rfl, rfl, h2⟩⟩
    · rename_i ht
      rw [key1 _ ht, Result.andThen_ok]
      simp only [Bool.false_eq_true, if_false]
      exact findAsking_spec hk es l' (i + 1) r h3 h
    · cases h
theorem run_findKey {P : Program} {κ : Ctx} {key : TypeId} {d : TypeDesc} {k : AV} {u : Value} (hd : P.underlying key = some d) (hk : VRel κ k u) {es : List (AV × AV)} {l : List MapEntry} {r : Option (Nat × AV)} (hm : MapRel κ es l)
    (h : afind P key d k es 0 = some r) (hkey : akey P key d k = true) : ∃ r', (Instr.findKey key u l).run P κ.w = .ok r' κ.w ∧ fnd κ r r' := by
  simp only [Instr.findKey, Sem.run_bind, run_under hd, Result.andThen_ok]
  by_cases hs : ∃ fs, d = .struct fs
  · obtain ⟨fs, rfl⟩ := hs
    cases es with
    | nil =>
      simp only [MapRel] at hm; subst hm
      simp only [afind, Option.some.injEq] at h; subst h
      exact ⟨none, rfl, .inl ⟨rfl, rfl⟩⟩
    | cons x es =>
      have hx := hm
      obtain ⟨k', v⟩ := x
      simp only [MapRel] at hx
      obtain ⟨e, l', rfl, _, _, _⟩ := hx
      have : Instr.findNow (.struct fs) u (e :: l') 0 = none := by
        rw [Instr.findNow.eq_2]; rfl
      rw [this]
      exact findAsking_spec hk _ _ 0 r hm h
  · obtain ⟨r', h1, h2⟩ := findNow_spec (P := P) (key := key) (fun fs e => hs ⟨fs, e⟩) hk es l 0 r hm h
    rw [h1]
    exact ⟨r', rfl, h2⟩
theorem MapRel.length {κ : Ctx} : ∀ {es : List (AV × AV)} {l : List MapEntry}, MapRel κ es l → l.length = es.length
  | [], l, h => by simp only [MapRel] at h; simp [h]
  | (k, v) :: es, l, h => by
    simp only [MapRel] at h
    obtain ⟨e, l', rfl, _, _, h3⟩ := h
    simp [MapRel.length h3]
end Go.Proofs.Hz
