/- Stores into own blocks. -/
import Derived.Test.YtjnokbkabekkkaaGreatHzHeap
set_option linter.all false
namespace Go.Proofs.Hz
open Go

def splice (arr : Array Value) (o : Nat) (us : List Value) : Array Value := (arr.toList.take o ++ us ++ arr.toList.drop (o + us.length)).toArray
def aput (cs : List AV) (o : Nat) (vs : List AV) : List AV := cs.take o ++ vs ++ cs.drop (o + vs.length)
theorem splice_size {arr : Array Value} {o : Nat} {us : List Value} (h : o + us.length ≤ arr.size) : (splice arr o us).size = arr.size := by
  simp [splice]; omega
theorem splice_get {arr : Array Value} {o : Nat} {us : List Value} (h : o + us.length ≤ arr.size) (i : Nat) :
    (splice arr o us)[i]? = if i < o then arr[i]? else if i < o + us.length then us[i - o]? else arr[i]? := by
  simp only [splice, List.getElem?_toArray]
  have hl : (List.take o arr.toList).length = o := by simp; omega
  split
  · rename_i h1
    rw [List.append_assoc, List.getElem?_append_left (by omega), List.getElem?_take, if_pos h1]; simp
  · rename_i h1
    split
    · rename_i h2
      rw [List.append_assoc, List.getElem?_append_right (by omega), List.getElem?_append_left (by omega), hl]
    · rename_i h2
      rw [List.getElem?_append_right (by simp; omega)]
      simp only [List.getElem?_drop, List.length_append, hl]
      rw [show o + us.length + (i - (o + us.length)) = i by omega]
      simp
theorem aput_get {cs : List AV} {o : Nat} {vs : List AV} (h : o + vs.length ≤ cs.length) (i : Nat) :
    (aput cs o vs)[i]? = if i < o then cs[i]? else if i < o + vs.length then vs[i - o]? else cs[i]? := by
  simp only [aput]
  have hl : (List.take o cs).length = o := by simp; omega
  split
  · rename_i h1
    rw [List.append_assoc, List.getElem?_append_left (by omega), List.getElem?_take, if_pos h1]
  · rename_i h1
    split
    · rename_i h2
      rw [List.append_assoc, List.getElem?_append_right (by omega), List.getElem?_append_left (by omega), hl]
    · rename_i h2
      rw [List.getElem?_append_right (by simp; omega)]
      simp only [List.getElem?_drop, List.length_append, hl]
      rw [show o + vs.length + (i - (o + vs.length)) = i by omega]
def wput (w : World) (c : Nat) (arr : Array Value) (elem : TypeId) : World := { w with heap := w.heap.setIfInBounds c (.cells arr elem (0, 0)) }
theorem setCell_eq {w : World} {c o : Nat} {arr : Array Value} {elem : TypeId} {v : Value} (h : w.heap[c]? = some (.cells arr elem (0, 0))) :
    w.setCell ⟨c, o, none⟩ v = wput w c (arr.setIfInBounds o v) elem := by
  simp only [World.setCell, wput, Option.isSome_none, Bool.false_eq_true, if_false]
  congr 1
  apply Array.ext_getElem?
  intro i
  rw [Array.getElem?_modify, Array.getElem?_setIfInBounds]
  split
  · rename_i e; subst e
    obtain ⟨h1, h2⟩ := Array.getElem?_eq_some_iff.1 h
    simp [h1, h2]
  · rfl
theorem wput_get {w : World} {c : Nat} {arr : Array Value} {elem : TypeId} (h : c < w.heap.size) : (wput w c arr elem).heap[c]? = some (.cells arr elem (0, 0)) := by
  simp [wput, Array.getElem?_setIfInBounds, h]
theorem wput_ne {w : World} {c i : Nat} {arr : Array Value} {elem : TypeId} (h : i ≠ c) : (wput w c arr elem).heap[i]? = w.heap[i]? := by
  simp only [wput]; rw [Array.getElem?_setIfInBounds_ne (fun e => h e.symm)]
theorem wput_wput (w : World) (c : Nat) (a1 a2 : Array Value) (e1 e2 : TypeId) : wput (wput w c a1 e1) c a2 e2 = wput w c a2 e2 := by
  simp only [wput]
  congr 1
  apply Array.ext_getElem?
  intro i
  simp only [Array.getElem?_setIfInBounds, Array.size_setIfInBounds]
  split <;> simp_all
def oneCell : Value → Bool
  | .agg _ => false
  | .tuple _ => false
  | _ => true
theorem run_storeCells {P : Program} {c o : Nat} {elem : TypeId} : ∀ (us : List Value) (i : Nat) (w : World) (arr : Array Value), w.heap[c]? = some (.cells arr elem (0, 0)) → o + i + us.length ≤ arr.size →
    (∀ u ∈ us, oneCell u = true) → (storeCells ⟨c, o, none⟩ us i).run P w = .ok () (wput w c (splice arr (o + i) us) elem)
  | [], i, w, arr, hw, hl, _ => by
    have e1 : splice arr (o + i) [] = arr := by
      apply Array.ext_getElem?; intro j
      rw [splice_get (by simpa using hl)]
      split <;> simp
      intro h1; omega
    have e2 : wput w c arr elem = w := by
      simp only [wput]
      have : w.heap.setIfInBounds c (.cells arr elem (0, 0)) = w.heap := by
        apply Array.ext_getElem?; intro j
        rw [Array.getElem?_setIfInBounds]
        split
        · rename_i e; subst e
          obtain ⟨h1, h2⟩ := Array.getElem?_eq_some_iff.1 hw
          simp [h1, h2]
        · rfl
      rw [this]
    rw [e1, e2]; rfl
  | u :: us, i, w, arr, hw, hl, hc => by
    have hcl : c < w.heap.size := (Array.getElem?_eq_some_iff.1 hw).1
    simp only [List.length_cons] at hl
    have hcell : w.cell? ⟨c, o + i, none⟩ = some arr[o + i] := by
      simp only [World.cell?, hw, Option.isSome_none, Bool.false_eq_true, if_false]
      exact Array.getElem?_eq_getElem (by omega)
    have hfr : w.frozen? ⟨c, o + i, none⟩ = false := by simp [World.frozen?, hw]
    have hst : (store ⟨c, o + i, none⟩ u).run P w = .ok () (wput w c (arr.setIfInBounds (o + i) u) elem) := by
      have hu := hc u (by simp)
      rw [← setCell_eq hw]
      simp only [store]
      cases u <;> first | (simp [oneCell] at hu; done) | simp [Sem.run, hcell, hfr]
    simp only [storeCells, Sem.run_bind, addr_add, hst, Result.andThen_ok]
    rw [run_storeCells us (i + 1) _ (arr.setIfInBounds (o + i) u) (wput_get hcl) (by simp; omega) (fun x hx => hc x (by simp [hx])), wput_wput]
    congr 2
    apply Array.ext_getElem?; intro j
    rw [splice_get (by simp; omega), splice_get (by simp; omega)]
    simp only [List.length_cons]
    rw [Array.getElem?_setIfInBounds]
    by_cases h1 : j < o + i
    · rw [if_pos (show j < o + (i + 1) by omega), if_pos h1, if_neg (show ¬ (o + i = j) by omega)]
    · by_cases h2 : j = o + i
      · subst h2
        rw [if_pos (show o + i < o + (i + 1) by omega), if_pos rfl, if_neg h1, if_pos (show o + i < arr.size by omega), if_pos (show o + i < o + i + (us.length + 1) by omega)]
        simp
      · rw [if_neg (show ¬ j < o + (i + 1) by omega), if_neg h1]
        by_cases h3 : j < o + (i + 1) + us.length
        · rw [if_pos h3, if_pos (show j < o + i + (us.length + 1) by omega), show j - (o + i) = (j - (o + (i + 1))) + 1 by omega]; simp
        · rw [if_neg h3, if_neg (show ¬ j < o + i + (us.length + 1) by omega), if_neg (show ¬ (o + i = j) by omega)]
/-- An own block gets other cells. -/
theorem set_cells {κ : Ctx} {N : Nat} {ρ : Env} {σ : H} {a : Act} (hs : SRel κ N ρ σ a) {b c : Nat} {cs cs' : List AV} {arr arr' : Array Value} {elem : TypeId} (hb : σ.get b = some (.cells cs)) (hO : κ.O b = some c)
    (hw : κ.w.heap[c]? = some (.cells arr elem (0, 0))) (hsz : arr.size ≤ arr'.size)
    (hC : ∀ κ', κ'.w = wput κ.w c arr' elem → κ.le κ' → (∀ m, Ids κ κ' m) → CellsRel κ' cs' c 0) :
    let κ' : Ctx := { κ with w := wput κ.w c arr' elem }
    Step κ κ' ∧ SRel κ' N ρ (σ.set b (.cells cs')) a := by
  intro κ'
  have hcl : c < κ.w.heap.size := (Array.getElem?_eq_some_iff.1 hw).1
  have hsize : κ'.w.heap.size = κ.w.heap.size := by simp [κ', wput]
  have step : Step κ κ' := by
    refine ⟨rfl, by omega, fun i hi hn => wput_ne fun e => hn b (e ▸ hO), fun i => ?_, fun b' c' h => .inl ⟨b', h⟩, rfl, rfl, rfl, fun _ _ => .inr rfl⟩
    by_cases e : i = c
    · subst e
      simp only [bsize, hw, κ', wput_get hcl]; exact hsz
    · simp only [bsize, κ', wput_ne e]; exact Nat.le_refl _
  have ids : ∀ m, Ids κ κ' m := fun m b' _ => .inr rfl
  refine ⟨step, ⟨hs.size, hs.defers, fun t v hv => ?_, ?_⟩⟩
  · obtain ⟨u, h1, h2⟩ := hs.env t v hv
    exact ⟨u, h1, VRel.le step.le v u (ids _) h2⟩
  · refine ⟨fun b' d' hd' => ?_, fun b' c' hc' => ?_, hs.heap.inj, fun i hi => by have := hs.heap.xlt i hi; omega⟩
    · by_cases e : b' = b
      · subst e
        rw [H.get_set_same] at hd'; cases hd'
        exact ⟨c, hO, arr', elem, wput_get hcl, hC κ' rfl step.le ids⟩
      · rw [H.get_set_ne _ _ e] at hd'
        obtain ⟨c', g1, g2⟩ := hs.heap.blk b' d' hd'
        have hne : c' ≠ c := fun e' => e (hs.heap.inj b' b c (e' ▸ g1) hO)
        exact ⟨c', g1, BRel.le step.le (ids _) (wput_ne hne) g2⟩
    · obtain ⟨g1, g2, g3⟩ := hs.heap.dom b' c' hc'
      refine ⟨?_, by omega, g3⟩
      by_cases e : b' = b
      · subst e; simp [H.get_set_same]
      · rw [H.get_set_ne _ _ e]; exact g1
/-- A scalar by sight. -/
def solid (σ : H) : AV → Bool
  | .agg _ => false
  | .tup _ => false
  | .undef => false
  | .ref b _ => σ.live b
  | .rs b _ _ _ => σ.live b
  | .mref b => σ.live b
  | _ => true
theorem solid_one {κ : Ctx} {σ : H} (hh : HRel κ σ) {v : AV} {u : Value} (h : solid σ v = true) (hv : VRel κ v u) : oneCell u = true := by
  cases v <;> simp only [solid] at h <;> simp only [VRel] at hv <;> first
    | (cases h; done)
    | (subst hv; rfl)
    | (obtain ⟨cb, co, rfl, _⟩ := hv; rfl)
    | (obtain ⟨cb, co, a, cap, rfl, _⟩ := hv; rfl)
    | (obtain ⟨us, ws, rfl, _⟩ := hv; rfl)
    | (obtain ⟨us, rfl, _⟩ := hv; rfl)
    | (obtain ⟨c, hO⟩ := hh.live h
       first
       | (rw [hv c hO]; rfl)
       | (obtain ⟨a, cap, rfl, _⟩ := hv c hO; rfl))
def solids (σ : H) : List AV → Bool
  | [] => true
  | v :: vs => solid σ v && solids σ vs
theorem solids_one {κ : Ctx} {σ : H} (hh : HRel κ σ) : ∀ {vs : List AV} {us : List Value}, solids σ vs = true → VRels κ vs us → ∀ u ∈ us, oneCell u = true
  | [], us, _, h => by simp only [VRels] at h; subst h; simp
  | v :: vs, us, h, hv => by
    simp only [solids, Bool.and_eq_true] at h
    simp only [VRels] at hv
    obtain ⟨u, us', rfl, h1, h2⟩ := hv
    intro x hx
    rcases List.mem_cons.1 hx with rfl | hx
    · exact solid_one hh h.1 h1
    · exact solids_one hh h.2 h2 x hx
theorem CellsRel.of_get {κ : Ctx} {c : Nat} : ∀ {vs : List AV} {o : Nat}, (∀ i v, vs[i]? = some v → ∃ u, κ.w.cell? ⟨c, o + i, none⟩ = some u ∧ VRel κ v u) → CellsRel κ vs c o
  | [], _, _ => by simp [CellsRel]
  | v :: vs, o, h => by
    simp only [CellsRel]
    refine ⟨by simpa using h 0 v (by simp), CellsRel.of_get fun i v hv => ?_⟩
    have := h (i + 1) v (by simpa using hv)
    rwa [show o + (i + 1) = o + 1 + i by omega] at this
theorem CellsRel.size {κ : Ctx} {cs : List AV} {c : Nat} {arr : Array Value} {elem : TypeId} {fr : Nat × Nat} (hw : κ.w.heap[c]? = some (.cells arr elem fr)) (h : CellsRel κ cs c 0) : cs.length ≤ arr.size := by
  cases hl : cs.length with
  | zero => omega
  | succ n =>
    obtain ⟨u, h1, _⟩ := CellsRel.get (i := n) h (List.getElem?_eq_getElem (by omega))
    simp only [World.cell?, hw, Option.isSome_none, Bool.false_eq_true, if_false] at h1
    have := (Array.getElem?_eq_some_iff.1 h1).1
    omega
/-- n cells of block b from off on are written. -/
def astore (n : Nat) (σ : H) (p v : AV) : Option H :=
  match p with
  | .ref b off => match σ.get b with
    | some (.cells cs) => match acells σ v with
      | some vs => if vs.length = n ∧ off + n ≤ cs.length ∧ solids σ vs = true then some (σ.set b (.cells (aput cs off vs))) else none
      | none => none
    | _ => none
  | _ => none
theorem run_store {P : Program} {κ : Ctx} {N : Nat} {ρ : Env} {σ σ' : H} {a : Act} {t : TypeId} {g : Bool} {n : Nat} {p v : AV} {up uv : Value} (ht : tyL P t = some (g, n)) (hs : SRel κ N ρ σ a)
    (hp : VRel κ p up) (hv : VRel κ v uv) (h : astore n σ p v = some σ') :
    ∃ κ', (Instr.storeAt t up uv).run P κ.w = .ok () κ'.w ∧ Step κ κ' ∧ SRel κ' N ρ σ' a := by
  unfold astore at h
  split at h
  · rename_i b off
    split at h
    · rename_i cs hb
      split at h
      · rename_i vs hvs
        split at h
        · rename_i hc
          obtain ⟨h1, h2, h3⟩ := hc
          cases h
          obtain ⟨c, hO, arr, elem, hw, hC⟩ := hs.heap.blk b _ hb
          have hcl : c < κ.w.heap.size := (Array.getElem?_eq_some_iff.1 hw).1
          simp only [VRel] at hp
          have := hp c hO; subst this
          have hr := acells_spec hs.heap hv hvs
          have hlen := VRels.length hr
          have hsz := CellsRel.size hw hC
          have harr : off + uv.cells.toList.length ≤ arr.size := by omega
          obtain ⟨g1, g2⟩ := set_cells hs (cs' := aput cs off vs) (arr' := splice arr off uv.cells.toList) hb hO hw (by rw [splice_size harr]; exact Nat.le_refl _) (by
            intro κ' hw' hle hid
            refine CellsRel.of_get fun i x hx => ?_
            have hcell : κ'.w.cell? ⟨c, 0 + i, none⟩ = (splice arr off uv.cells.toList)[i]? := by
              simp only [World.cell?, hw', wput_get hcl, Option.isSome_none, Bool.false_eq_true, if_false, Nat.zero_add]
            rw [hcell, splice_get harr, hlen]
            rw [aput_get (by omega)] at hx
            split at hx
            · rename_i q1
              obtain ⟨u, k1, k2⟩ := CellsRel.get hC hx
              simp only [World.cell?, hw, Option.isSome_none, Bool.false_eq_true, if_false, Nat.zero_add] at k1
              exact ⟨u, by rw [if_pos q1]; exact k1, VRel.le hle _ _ (hid _) k2⟩
            · rename_i q1
              rw [if_neg q1]
              split at hx
              · rename_i q2
                obtain ⟨u, k1, k2⟩ := VRels.get hr hx
                exact ⟨u, by rw [if_pos q2]; exact k1, VRel.le hle _ _ (hid _) k2⟩
              · rename_i q2
                rw [if_neg q2]
                obtain ⟨u, k1, k2⟩ := CellsRel.get hC hx
                simp only [World.cell?, hw, Option.isSome_none, Bool.false_eq_true, if_false, Nat.zero_add] at k1
                exact ⟨u, k1, VRel.le hle _ _ (hid _) k2⟩)
          refine ⟨_, ?_, g1, g2⟩
          have hst := run_storeCells (P := P) uv.cells.toList 0 κ.w arr hw (by omega) (solids_one hs.heap h3 hr)
          have hcs : uv.cells.size = n := by rw [← Array.length_toList]; omega
          simp only [Instr.storeAt, Instr.sureAddr, storeVar, Sem.run_bind, pure, Sem.run, Result.andThen_ok, run_sizeOf ht, hcs]
          simpa using hst
        · cases h
      · cases h
    · cases h
  · cases h
end Go.Proofs.Hz
