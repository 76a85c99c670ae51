/- Maps: looking up, writing, making. -/
import Derived.Test.YtjnokbkabekkkaaGreatHzMap
set_option linter.all false
namespace Go.Proofs.Hz
open Go

def zv : Value → AV
  | .agg us => .agg (us.toList.map cv)
  | z => cv z
theorem vrel_zv (κ : Ctx) (z : Value) : VRel κ (zv z) z := by
  unfold zv
  split
  · simp only [VRel]; exact ⟨_, rfl, vrels_cv κ _⟩
  · exact vrel_cv κ z
def zeroV (P : Program) (t : TypeId) : Option AV :=
  match P.info? t with
  | some i => i.zero.map zv
  | none => none
theorem run_zeroV {P : Program} {t : TypeId} {v : AV} (h : zeroV P t = some v) (κ : Ctx) : ∃ z, (zeroValue t).run P κ.w = .ok z κ.w ∧ VRel κ v z := by
  unfold zeroV at h
  split at h
  · rename_i i hi
    simp only [Option.map_eq_some_iff] at h
    obtain ⟨z, hz, rfl⟩ := h
    exact ⟨z, by simp only [zeroValue, typeInfo, program, Sem.run_bind, Sem.run, Result.andThen_ok, hi, pure, hz], vrel_zv κ z⟩
  · cases h
def comma (c : Bool) (v : AV) (ok : Bool) : AV := if c = true then .tup [v, .bool ok] else v
def alookup (P : Program) (t : TypeId) (σ : H) (x k : AV) (c : Bool) : Option AV :=
  match mapL P t, x with
  | some (key, d, elem), .mref b => match σ.get b with
    | some (.map es) => if akey P key d k = true then match afind P key d k es 0, zeroV P elem with
      | some (some (_, v)), _ => some (comma c v true)
      | some none, some z => some (comma c z false)
      | _, _ => none
      else none
    | _ => none
  | _, _ => none
theorem mapL_spec {P : Program} {t : TypeId} {r : TypeId × TypeDesc × TypeId} (h : mapL P t = some r) : P.underlying t = some (.map r.1 r.2.2) ∧ P.underlying r.1 = some r.2.1 := by
  unfold mapL at h
  split at h
  · rename_i key elem hm
    split at h
    · rename_i d hd
      cases h; exact ⟨hm, hd⟩
    · cases h
  · cases h
theorem vrel_comma {κ : Ctx} {c ok : Bool} {v : AV} {u : Value} (h : VRel κ v u) : VRel κ (comma c v ok) (if c = true then .tuple #[u, .bool ok] else u) := by
  unfold comma
  cases c
  · simpa using h
  · simp only [if_true]
    rw [VRel]
    refine ⟨_, rfl, ?_⟩
    show VRels κ [v, .bool ok] [u, .bool ok]
    rw [VRels]
    refine ⟨u, [.bool ok], rfl, h, ?_⟩
    rw [VRels]
    exact ⟨_, [], rfl, by simp [VRel], by simp [VRels]⟩
theorem run_lookup {P : Program} {κ : Ctx} {σ : H} {t : TypeId} {x k v : AV} {ux uk : Value} {c : Bool} (hh : HRel κ σ) (hx : VRel κ x ux) (hk : VRel κ k uk) (h : alookup P t σ x k c = some v) :
    ∃ u, (Instr.lookup t ux uk c).run P κ.w = .ok u κ.w ∧ VRel κ v u := by
  unfold alookup at h
  split at h
  · rename_i key d elem b hm
    obtain ⟨m1, m2⟩ := mapL_spec hm
    dsimp only at m1 m2
    split at h
    · rename_i es hb
      split at h
      · rename_i hkey
        obtain ⟨cb, hO, ents, clock, hw, hME⟩ := hh.blk b _ hb
        simp only [VRel] at hx
        have := hx cb hO; subst this
        have hget : (getObj cb).run P κ.w = .ok (.map ents clock) κ.w := by
          simp [getObj, Sem.run, hw, pure]
        split at h
        · rename_i j w hf
          cases h
          obtain ⟨r', g1, g2⟩ := run_findKey m2 hk hME hf hkey
          rcases g2 with ⟨e, _⟩ | ⟨j', v', u, e, rfl, hu⟩
          · cases e
          · cases e
            refine ⟨if c = true then .tuple #[u, .bool true] else u, ?_, vrel_comma hu⟩
            simp only [Instr.lookup, Sem.run_bind, run_under m1, Result.andThen_ok, hget, pure, Sem.run, run_checkKey m2 hk hkey, g1]
        · rename_i z hf hz
          cases h
          obtain ⟨r', g1, g2⟩ := run_findKey m2 hk hME hf hkey
          rcases g2 with ⟨_, rfl⟩ | ⟨j', v', u, e, _⟩
          · obtain ⟨zz, z1, z2⟩ := run_zeroV hz κ
            refine ⟨if c = true then .tuple #[zz, .bool false] else zz, ?_, vrel_comma z2⟩
            simp only [Instr.lookup, Sem.run_bind, run_under m1, Result.andThen_ok, hget, pure, Sem.run, run_checkKey m2 hk hkey, g1, z1]
          · cases e
        · cases h
      · cases h
    · cases h
  · cases h
def mput (w : World) (c : Nat) (es : Array MapEntry) (clock : Nat) : World := { w with heap := w.heap.setIfInBounds c (.map es clock) }
theorem mput_get {w : World} {c : Nat} {es : Array MapEntry} {clock : Nat} (h : c < w.heap.size) : (mput w c es clock).heap[c]? = some (.map es clock) := by
  simp [mput, Array.getElem?_setIfInBounds, h]
theorem mput_ne {w : World} {c i : Nat} {es : Array MapEntry} {clock : Nat} (h : i ≠ c) : (mput w c es clock).heap[i]? = w.heap[i]? := by
  simp only [mput]; rw [Array.getElem?_setIfInBounds_ne (fun e => h e.symm)]
theorem set_map {κ : Ctx} {N : Nat} {ρ : Env} {σ : H} {a : Act} (hs : SRel κ N ρ σ a) {b c : Nat} {es es' : List (AV × AV)} {l l' : Array MapEntry} {clock clock' : Nat} (hb : σ.get b = some (.map es)) (hO : κ.O b = some c)
    (hw : κ.w.heap[c]? = some (.map l clock)) (hC : ∀ κ', κ.le κ' → (∀ m, Ids κ κ' m) → MapRel κ' es' l'.toList) :
    let κ' : Ctx := { κ with w := mput κ.w c l' clock' }
    Step κ κ' ∧ SRel κ' N ρ (σ.set b (.map es')) a := by
  intro κ'
  have hcl : c < κ.w.heap.size := (Array.getElem?_eq_some_iff.1 hw).1
  have hsize : κ'.w.heap.size = κ.w.heap.size := by simp [κ', mput]
  have step : Step κ κ' := by
    refine ⟨rfl, by omega, fun i hi hn => mput_ne fun e => hn b (e ▸ hO), fun i => ?_, fun b' c' h => .inl ⟨b', h⟩, rfl, rfl, rfl, fun _ _ => .inr rfl⟩
    by_cases e : i = c
    · subst e
      simp only [bsize, hw, κ', mput_get hcl]; exact Nat.le_refl _
    · simp only [bsize, κ', mput_ne e]; exact Nat.le_refl _
  have ids : ∀ m, Ids κ κ' m := fun m b' _ => .inr rfl
  refine ⟨step, ⟨hs.size, hs.defers, fun t v hv => ?_, ?_⟩⟩
  · obtain ⟨u, h1, h2⟩ := hs.env t v hv
    exact ⟨u, h1, VRel.le step.le v u (ids _) h2⟩
  · refine ⟨fun b' d' hd' => ?_, fun b' c' hc' => ?_, hs.heap.inj, fun i hi => by have := hs.heap.xlt i hi; omega⟩
    · by_cases e : b' = b
      · subst e
        rw [H.get_set_same] at hd'; cases hd'
        exact ⟨c, hO, l', clock', mput_get hcl, hC κ' step.le ids⟩
      · rw [H.get_set_ne _ _ e] at hd'
        obtain ⟨c', g1, g2⟩ := hs.heap.blk b' d' hd'
        have hne : c' ≠ c := fun e' => e (hs.heap.inj b' b c (e' ▸ g1) hO)
        exact ⟨c', g1, BRel.le step.le (ids _) (mput_ne hne) g2⟩
    · obtain ⟨g1, g2, g3⟩ := hs.heap.dom b' c' hc'
      refine ⟨?_, by omega, g3⟩
      by_cases e : b' = b
      · subst e; simp [H.get_set_same]
      · rw [H.get_set_ne _ _ e]; exact g1
theorem MapRel.le' {κ κ' : Ctx} (h : κ.le κ') (hi : ∀ m, Ids κ κ' m) {es : List (AV × AV)} {l : List MapEntry} (hm : MapRel κ es l) : MapRel κ' es l := MapRel.le h es l (hi _) hm
theorem MapRel.push {κ : Ctx} {k v : AV} {uk uv : Value} {n : Nat} (hk : VRel κ k uk) (hv : VRel κ v uv) : ∀ {es : List (AV × AV)} {l : List MapEntry}, MapRel κ es l → MapRel κ (es ++ [(k, v)]) (l ++ [⟨uk, uv, n⟩])
  | [], l, h => by
    simp only [MapRel] at h; subst h
    simp only [List.nil_append, MapRel]
    exact ⟨_, [], rfl, hk, hv, rfl⟩
  | (k', v') :: es, l, h => by
    simp only [MapRel] at h
    obtain ⟨e, l', rfl, h1, h2, h3⟩ := h
    simp only [List.cons_append, MapRel]
    exact ⟨e, _, rfl, h1, h2, MapRel.push hk hv h3⟩
theorem MapRel.at {κ : Ctx} : ∀ {es : List (AV × AV)} {l : List MapEntry} {j : Nat} {k v : AV}, MapRel κ es l → es[j]? = some (k, v) → ∃ e, l[j]? = some e ∧ VRel κ k e.key ∧ VRel κ v e.val
  | [], l, j, k, v, _, h => by simp at h
  | (k', v') :: es, l, j, k, v, hm, h => by
    simp only [MapRel] at hm
    obtain ⟨e, l', rfl, h1, h2, h3⟩ := hm
    cases j with
    | zero => simp at h; obtain ⟨rfl, rfl⟩ := h; exact ⟨e, by simp, h1, h2⟩
    | succ j => simp at h; simpa using MapRel.at h3 h
theorem MapRel.put {κ : Ctx} {k v : AV} {uk uv : Value} (hk : VRel κ k uk) (hv : VRel κ v uv) : ∀ {es : List (AV × AV)} {l : List MapEntry} {j : Nat}, MapRel κ es l →
    MapRel κ (es.set j (k, v)) (l.modify j fun e => { key := uk, val := uv, born := e.born })
  | [], l, j, h => by
    simp only [MapRel] at h; subst h
    simp [MapRel]
  | (k', v') :: es, l, j, h => by
    simp only [MapRel] at h
    obtain ⟨e, l', rfl, h1, h2, h3⟩ := h
    cases j with
    | zero => simp only [List.set_cons_zero, List.modify_zero_cons, MapRel]; exact ⟨_, l', rfl, hk, hv, h3⟩
    | succ j => simp only [List.set_cons_succ, List.modify_succ_cons, MapRel]; exact ⟨e, _, rfl, h1, h2, MapRel.put hk hv h3⟩
theorem bytes_eq {a b : ByteArray} (h : (a == b) = true) : a = b := by
  cases a; cases b
  change ByteArray.beq _ _ = true at h
  unfold ByteArray.beq at h
  simp only [beq_iff_eq] at h
  rw [h]
theorem bytes_refl (a : ByteArray) : (a == a) = true := by
  show ByteArray.beq a a = true
  unfold ByteArray.beq
  simp
def scalKey : TypeDesc → Bool
  | .int _ => true
  | .string => true
  | _ => false
def aupdate (P : Program) (t : TypeId) (σ : H) (x k v : AV) : Option H :=
  match mapL P t, x with
  | some (key, d, elem), .mref b => match σ.get b with
    | some (.map es) => if akey P key d k = true then match afind P key d k es 0 with
      | some none => some (σ.set b (.map (es ++ [(k, v)])))
      | some (some (j, _)) => if scalKey d = true then some (σ.set b (.map (es.set j (k, v)))) else none
      | none => none
      else none
    | _ => none
  | _, _ => none
theorem afind_at {P : Program} {key : TypeId} {d : TypeDesc} {k : AV} : ∀ {es : List (AV × AV)} {i j : Nat} {v : AV}, afind P key d k es i = some (some (j, v)) → i ≤ j ∧ ∃ k', es[j - i]? = some (k', v) ∧ aeq P key d k k' = some true
  | [], i, j, v, h => by simp [afind] at h
  | (k', v') :: es, i, j, v, h => by
    simp only [afind] at h
    split at h
    · rename_i ht
      cases h
      exact ⟨Nat.le_refl _, k', by simp, ht⟩
    · obtain ⟨g1, k2, g2, g3⟩ := afind_at h
      refine ⟨by omega, k2, ?_, g3⟩
      rw [show j - i = (j - (i + 1)) + 1 by omega]; simpa using g2
    · cases h
theorem same_bits {P : Program} {κ : Ctx} {key : TypeId} {d : TypeDesc} {k k' : AV} {u u' : Value} (hd : scalKey d = true) (h : aeq P key d k k' = some true) (hk : VRel κ k u) (hk' : VRel κ k' u') : Instr.sameBits 10000 u' u = true := by
  unfold aeq at h
  split at h
  · split at h
    · rename_i e; subst e
      simp only [VRel] at hk hk'; subst hk hk'
      simp only [Option.some.injEq, beq_iff_eq] at h; subst h
      rw [Instr.sameBits.eq_2]; simp
    · cases h
  · simp only [VRel] at hk hk'; subst hk hk'
    simp only [Option.some.injEq] at h
    rw [bytes_eq h, Instr.sameBits.eq_5]; exact bytes_refl _
  · simp [scalKey] at hd
  · cases h
theorem run_mapUpdate {P : Program} {κ : Ctx} {N : Nat} {ρ : Env} {σ σ' : H} {a : Act} {t : TypeId} {x k v : AV} {ux uk uv : Value} (hs : SRel κ N ρ σ a) (hx : VRel κ x ux) (hk : VRel κ k uk) (hv : VRel κ v uv)
    (h : aupdate P t σ x k v = some σ') : ∃ κ', (Instr.mapUpdate t ux uk uv).run P κ.w = .ok () κ'.w ∧ Step κ κ' ∧ SRel κ' N ρ σ' a := by
  unfold aupdate at h
  split at h
  · rename_i key d elem b hm
    obtain ⟨m1, m2⟩ := mapL_spec hm
    dsimp only at m1 m2
    split at h
    · rename_i es hb
      split at h
      · rename_i hkey
        obtain ⟨c, hO, ents, clock, hw, hME⟩ := hs.heap.blk b _ hb
        simp only [VRel] at hx
        have := hx c hO; subst this
        have hget : (getObj c).run P κ.w = .ok (.map ents clock) κ.w := by
          simp [getObj, Sem.run, hw, pure]
        have hset : ∀ l' clock', (setObj c (.map l' clock')).run P κ.w = .ok () (mput κ.w c l' clock') := fun l' clock' => by
          simp [setObj, Sem.run, mput, pure, hw]
        split at h
        · rename_i hf
          cases h
          obtain ⟨r', g1, g2⟩ := run_findKey m2 hk hME hf hkey
          rcases g2 with ⟨_, rfl⟩ | ⟨j', v', u, e, _⟩
          · obtain ⟨k1, k2⟩ := set_map hs (es' := es ++ [(k, v)]) (l' := ents.push ⟨uk, uv, clock⟩) (clock' := clock + 1) hb hO hw (fun κ' hle hid => by
              rw [Array.toList_push]
              exact MapRel.push (VRel.le hle _ _ (hid _) hk) (VRel.le hle _ _ (hid _) hv) (hME.le' hle hid))
            refine ⟨_, ?_, k1, k2⟩
            simp only [Instr.mapUpdate, Sem.run_bind, run_under m1, Result.andThen_ok, hget, run_checkKey m2 hk hkey, g1, hset]
          · cases e
        · rename_i j v0 hf
          split at h
          · rename_i hsc
            cases h
            obtain ⟨r', g1, g2⟩ := run_findKey m2 hk hME hf hkey
            rcases g2 with ⟨e, _⟩ | ⟨j', v', u, e, rfl, hu⟩
            · cases e
            · cases e
              obtain ⟨_, k', q1, q2⟩ := afind_at hf
              simp only [Nat.sub_zero] at q1
              obtain ⟨e, q3, q4, q5⟩ := hME.at q1
              have hold : ents[j]? = some e := by simpa using q3
              obtain ⟨k1, k2⟩ := set_map hs (es' := es.set j (k, v)) (l' := ents.modify j fun e => { key := uk, val := uv, born := e.born }) (clock' := clock) hb hO hw (fun κ' hle hid => by
                rw [Array.toList_modify]
                exact MapRel.put (VRel.le hle _ _ (hid _) hk) (VRel.le hle _ _ (hid _) hv) (hME.le' hle hid))
              refine ⟨_, ?_, k1, k2⟩
              have hstay : (Instr.keyThatStays e.key uk).run P κ.w = .ok uk κ.w := by
                unfold Instr.keyThatStays
                rw [if_pos (same_bits hsc q2 hk q4)]; rfl
              simp only [Instr.mapUpdate, Sem.run_bind, run_under m1, Result.andThen_ok, hget, run_checkKey m2 hk hkey, g1, hold, Option.map_some, Option.getD_some, hstay, hset]
          · cases h
        · cases h
      · cases h
    · cases h
  · cases h
/-- A new map. -/
theorem run_makeMap {P : Program} {κ : Ctx} {N : Nat} {ρ : Env} {σ : H} {a : Act} {t : TypeId} {b : Nat} (hs : SRel κ N ρ σ a) (hf : Fresh b ρ σ) :
    ∃ κ' u, (Instr.makeMap t none).run P κ.w = .ok u κ'.w ∧ Step κ κ' ∧ SRel κ' N ρ ((b, .map []) :: σ) a ∧ VRel κ' (.mref b) u := by
  obtain ⟨g1, g2, g3⟩ := new_block hs hf (.map #[] 0) (d := .map []) rfl (fun κ' hw hle hid => ⟨#[], 0, by rw [hw]; simp, by simp [MapRel]⟩)
  refine ⟨_, .map (some κ.w.heap.size), ?_, g1, g2, ?_⟩
  · simp only [Instr.makeMap, newObj, Sem.run_bind, Sem.run, Result.andThen_ok, pure, Ctx.name]
  · simp only [VRel]
    intro c hc
    rw [g3] at hc; cases hc; rfl
end Go.Proofs.Hz
