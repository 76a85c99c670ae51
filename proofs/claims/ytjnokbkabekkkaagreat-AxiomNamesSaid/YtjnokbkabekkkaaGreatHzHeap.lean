/- New blocks, stores. -/
import Derived.Test.YtjnokbkabekkkaaGreatHzOp4
set_option linter.all false
namespace Go.Proofs.Hz
open Go

theorem CellsRel.of_VRels {κ : Ctx} {c : Nat} : ∀ {vs : List AV} {us : List Value} {o : Nat}, VRels κ vs us → (∀ i u, us[i]? = some u → κ.w.cell? ⟨c, o + i, none⟩ = some u) → CellsRel κ vs c o
  | [], _, _, _, _ => by simp [CellsRel]
  | v :: vs, us, o, h, hc => by
    simp only [VRels] at h
    obtain ⟨u, us', rfl, h1, h2⟩ := h
    simp only [CellsRel]
    refine ⟨⟨u, by simpa using hc 0 u (by simp), h1⟩, CellsRel.of_VRels h2 fun i u hu => ?_⟩
    have := hc (i + 1) u (by simpa using hu)
    rwa [show o + (i + 1) = o + 1 + i by omega] at this
theorem MapRel.le {κ κ' : Ctx} (h : κ.le κ') : ∀ (es : List (AV × AV)) (us : List MapEntry), Ids κ κ' (fun b => mapMen b es) → MapRel κ es us → MapRel κ' es us
  | [], _, _, hv => by simpa [MapRel] using hv
  | (k, v) :: es, us, hi, hv => by
    simp only [MapRel] at hv ⊢
    obtain ⟨e, us', rfl, h1, h2, h3⟩ := hv
    exact ⟨e, us', rfl, VRel.le h k _ (fun b hb => hi b (by simp [mapMen, hb])) h1, VRel.le h v _ (fun b hb => hi b (by simp [mapMen, hb])) h2,
      MapRel.le h es us' (fun b hb => hi b (by simp [mapMen, hb])) h3⟩
theorem BRel.le {κ κ' : Ctx} (h : κ.le κ') {c : Nat} {d : Blk} (hi : Ids κ κ' (fun b => d.men b)) (hc : κ'.w.heap[c]? = κ.w.heap[c]?) (hv : BRel κ c d) : BRel κ' c d := by
  cases d with
  | cells cs =>
    obtain ⟨arr, elem, h1, h2⟩ := hv
    exact ⟨arr, elem, hc.trans h1, CellsRel.le h cs c 0 hc hi h2⟩
  | map es =>
    obtain ⟨ents, clock, h1, h2⟩ := hv
    exact ⟨ents, clock, hc.trans h1, MapRel.le h es _ hi h2⟩
/-- Another place gets a name. -/
def Ctx.name (κ : Ctx) (w : World) (b c : Nat) : Ctx := { w := w, O := fun b' => if b' = b then some c else κ.O b', X := κ.X }
/-- b is no name yet. -/
structure Fresh (b : Nat) (ρ : Env) (σ : H) : Prop where
  get : σ.get b = none
  men : σ.men b = false
  env : ρ.men b = false
  unp : pinned b = false
theorem HRel.none {κ : Ctx} {σ : H} (h : HRel κ σ) {b : Nat} (hb : σ.get b = none) : κ.O b = none := by
  cases hO : κ.O b with
  | none => rfl
  | some c => have := (h.dom b c hO).1; simp [hb] at this
/-- A new block. -/
theorem new_block {κ : Ctx} {N : Nat} {ρ : Env} {σ : H} {a : Act} (hs : SRel κ N ρ σ a) {b : Nat} (hf : Fresh b ρ σ) (o : Obj) {d : Blk} (hd : d.men b = false)
    (hB : ∀ κ', κ'.w = { κ.w with heap := κ.w.heap.push o } → κ.le κ' → Ids κ κ' (fun b => d.men b) → BRel κ' κ.w.heap.size d) :
    let κ' := κ.name { κ.w with heap := κ.w.heap.push o } b κ.w.heap.size
    Step κ κ' ∧ SRel κ' N ρ ((b, d) :: σ) a ∧ κ'.O b = some κ.w.heap.size := by
  intro κ'
  have hsize : κ'.w.heap.size = κ.w.heap.size + 1 := by simp [κ', Ctx.name]
  have hkeep : ∀ c, c < κ.w.heap.size → κ'.w.heap[c]? = κ.w.heap[c]? := fun c hc => by
    simp only [κ', Ctx.name]
    rw [Array.getElem?_push, if_neg (by omega)]
  have hnone := hs.heap.none hf.get
  have step : Step κ κ' := by
    refine ⟨rfl, by omega, fun c hc _ => hkeep c hc, fun c => ?_, fun b' c hc => ?_, rfl, rfl, rfl, fun b' hb' => ?_⟩
    · unfold bsize
      by_cases hc : c < κ.w.heap.size
      · rw [hkeep c hc]; exact Nat.le_refl _
      · rw [Array.getElem?_eq_none (by omega)]; exact Nat.zero_le _
    · simp only [κ', Ctx.name] at hc
      split at hc
      · cases hc; exact .inr (Nat.le_refl _)
      · exact .inl ⟨b', hc⟩
    · right
      simp only [κ', Ctx.name]
      rw [if_neg (by rintro rfl; rw [hf.unp] at hb'; cases hb')]
  have ids : ∀ m : Nat → Bool, m b = false → Ids κ κ' m := fun m hm b' hb' => by
    right
    simp only [κ', Ctx.name]
    rw [if_neg (by intro e; subst e; simp [hm] at hb')]
  refine ⟨step, ⟨hs.size, hs.defers, fun t v hv => ?_, ?_⟩, by simp [κ', Ctx.name]⟩
  · obtain ⟨u, h1, h2⟩ := hs.env t v hv
    exact ⟨u, h1, VRel.le step.le v u (ids _ (Env.men_get hf.env hv)) h2⟩
  · refine ⟨fun b' d' hd' => ?_, fun b' c hc => ?_, fun b1 b2 c h1 h2 => ?_, fun c hc => by have := hs.heap.xlt c hc; omega⟩
    · simp only [H.get] at hd'
      split at hd'
      · rename_i e; subst e; cases hd'
        exact ⟨_, by simp [κ', Ctx.name], hB κ' rfl step.le (ids _ hd)⟩
      · rename_i e
        obtain ⟨c, g1, g2⟩ := hs.heap.blk b' d' hd'
        refine ⟨c, by simp only [κ', Ctx.name]; rw [if_neg e]; exact g1, BRel.le step.le (ids _ (H.men_get hf.men hd')) (hkeep c (hs.heap.dom b' c g1).2.1) g2⟩
    · simp only [κ', Ctx.name] at hc
      split at hc
      · rename_i e; subst e; cases hc
        refine ⟨by simp [H.get], by omega, fun hx => ?_⟩
        have := hs.heap.xlt _ hx; omega
      · rename_i e
        obtain ⟨g1, g2, g3⟩ := hs.heap.dom b' c hc
        exact ⟨by simp [H.get, e, g1], by omega, g3⟩
    · simp only [κ', Ctx.name] at h1 h2
      split at h1 <;> split at h2
      · rename_i e1 e2; rw [e1, e2]
      · cases h1; have := (hs.heap.dom _ _ h2).2.1; omega
      · cases h2; have := (hs.heap.dom _ _ h1).2.1; omega
      · exact hs.heap.inj _ _ _ h1 h2
theorem new_cells {κ : Ctx} {N : Nat} {ρ : Env} {σ : H} {a : Act} (hs : SRel κ N ρ σ a) {b : Nat} (hf : Fresh b ρ σ) (arr : Array Value) (elem : TypeId) {cs : List AV} {us : List Value} (hm : AV.mens b cs = false)
    (hr : VRels κ cs us) (hp : ∀ (i : Nat) (u : Value), us[i]? = some u → arr[i]? = some u) :
    let κ' := κ.name { κ.w with heap := κ.w.heap.push (.cells arr elem) } b κ.w.heap.size
    Step κ κ' ∧ SRel κ' N ρ ((b, .cells cs) :: σ) a ∧ κ'.O b = some κ.w.heap.size := by
  refine new_block hs hf (.cells arr elem) (d := .cells cs) hm ?_
  intro κ' hw hle hid
  refine ⟨arr, elem, by rw [hw]; simp, CellsRel.of_VRels (us := us) (VRels.le hle cs us hid hr) fun i u hu => ?_⟩
  rw [hw]
  simp only [World.cell?, Array.getElem?_push_size, Option.isSome_none, Bool.false_eq_true, if_false, Nat.zero_add]
  exact hp i u hu
end Go.Proofs.Hz
