/- Calls that are given own memory. -/
import Derived.Test.YtjnokbkabekkkaaGreatHzWeak
set_option linter.all false
namespace Go.Proofs.Hz
open Go

mutual
/-- Other names; what has none is forgotten. -/
def AV.ren (g : Nat → Option Nat) : AV → AV
  | .agg cs => .agg (AV.rens g cs)
  | .tup cs => .tup (AV.rens g cs)
  | .ref b off => match g b with | some b' => .ref b' off | none => .undef
  | .rs b off n k => match g b with | some b' => .rs b' off n k | none => .undef
  | .mref b => match g b with | some b' => .mref b' | none => .undef
  | .func f first caps => .func f (AV.rens g first) (AV.rens g caps)
  | .iface t v => .iface t (AV.ren g v)
  | .undef => .undef
  | .bool b => .bool b
  | .int k n => .int k n
  | .str s => .str s
  | .nilp => .nilp
  | .nils => .nils
  | .nilf => .nilf
  | .nili => .nili
  | .view cs off => .view cs off
  | .sl nn k es => .sl nn k es
def AV.rens (g : Nat → Option Nat) : List AV → List AV
  | [] => []
  | v :: vs => AV.ren g v :: AV.rens g vs
end
def renMap (g : Nat → Option Nat) : List (AV × AV) → List (AV × AV)
  | [] => []
  | (k, v) :: es => (k.ren g, v.ren g) :: renMap g es
def Blk.ren (g : Nat → Option Nat) : Blk → Blk
  | .cells cs => .cells (AV.rens g cs)
  | .map es => .map (renMap g es)
def RIds (g : Nat → Option Nat) (κ κ' : Ctx) (m : Nat → Bool) : Prop := ∀ b b', m b = true → g b = some b' → κ'.O b' = none ∨ κ'.O b' = κ.O b
mutual
theorem VRel.ren {κ κ' : Ctx} {g : Nat → Option Nat} (h : κ.le κ') : ∀ (v : AV) (u : Value), RIds g κ κ' (fun b => v.men b) → VRel κ v u → VRel κ' (v.ren g) u
  | .undef, _, _, _ => by simp [AV.ren, VRel]
  | .bool _, _, _, hv => by simpa [AV.ren, VRel] using hv
  | .int _ _, _, _, hv => by simpa [AV.ren, VRel] using hv
  | .str _, _, _, hv => by simpa [AV.ren, VRel] using hv
  | .nilp, _, _, hv => by simpa [AV.ren, VRel] using hv
  | .nils, _, _, hv => by simpa [AV.ren, VRel] using hv
  | .nilf, _, _, hv => by simpa [AV.ren, VRel] using hv
  | .nili, _, _, hv => by simpa [AV.ren, VRel] using hv
  | .agg cs, u, hi, hv => by
    simp only [AV.ren, VRel] at hv ⊢
    obtain ⟨us, rfl, hv⟩ := hv
    exact ⟨us, rfl, VRels.ren h cs _ hi hv⟩
  | .tup cs, u, hi, hv => by
    simp only [AV.ren, VRel] at hv ⊢
    obtain ⟨us, rfl, hv⟩ := hv
    exact ⟨us, rfl, VRels.ren h cs _ hi hv⟩
  | .view cs off, u, _, hv => by
    simp only [AV.ren]
    exact VRel.le h _ u (fun b hb => by simp [AV.men] at hb) hv
  | .sl nn k es, u, _, hv => by
    simp only [AV.ren]
    exact VRel.le h _ u (fun b hb => by simp [AV.men] at hb) hv
  | .ref b off, u, hi, hv => by
    simp only [AV.ren]
    cases hg : g b with
    | none => simp [VRel]
    | some b' =>
      simp only [VRel] at hv ⊢
      intro c hc
      rcases hi b b' (by simp [AV.men]) hg with e | e
      · rw [e] at hc; cases hc
      · exact hv c (e ▸ hc)
  | .rs b off n k, u, hi, hv => by
    simp only [AV.ren]
    cases hg : g b with
    | none => simp [VRel]
    | some b' =>
      simp only [VRel] at hv ⊢
      intro c hc
      rcases hi b b' (by simp [AV.men]) hg with e | e
      · rw [e] at hc; cases hc
      · obtain ⟨a, cap, h1, h2, h3⟩ := hv c (e ▸ hc)
        exact ⟨a, cap, h1, h2, h3.imp id fun ⟨h4, h5⟩ => ⟨h4, Nat.le_trans h5 (h.bs c)⟩⟩
  | .mref b, u, hi, hv => by
    simp only [AV.ren]
    cases hg : g b with
    | none => simp [VRel]
    | some b' =>
      simp only [VRel] at hv ⊢
      intro c hc
      rcases hi b b' (by simp [AV.men]) hg with e | e
      · rw [e] at hc; cases hc
      · exact hv c (e ▸ hc)
  | .func f first caps, u, hi, hv => by
    simp only [AV.ren, VRel] at hv ⊢
    obtain ⟨us, ws, rfl, h1, h2⟩ := hv
    exact ⟨us, ws, rfl, VRels.ren h first _ (fun b b' hb => hi b b' (by simp [AV.men, hb])) h1, VRels.ren h caps _ (fun b b' hb => hi b b' (by simp [AV.men, hb])) h2⟩
  | .iface t x, u, hi, hv => by
    simp only [AV.ren, VRel] at hv ⊢
    obtain ⟨u, rfl, hv⟩ := hv
    exact ⟨u, rfl, VRel.ren h x u (fun b b' hb => hi b b' (by simp [AV.men, hb])) hv⟩
theorem VRels.ren {κ κ' : Ctx} {g : Nat → Option Nat} (h : κ.le κ') : ∀ (vs : List AV) (us : List Value), RIds g κ κ' (fun b => AV.mens b vs) → VRels κ vs us → VRels κ' (AV.rens g vs) us
  | [], _, _, hv => by simpa [AV.rens, VRels] using hv
  | v :: vs, us, hi, hv => by
    simp only [AV.rens, VRels] at hv ⊢
    obtain ⟨u, us', rfl, h1, h2⟩ := hv
    exact ⟨u, us', rfl, VRel.ren h v u (fun b b' hb => hi b b' (by simp [AV.mens, hb])) h1, VRels.ren h vs us' (fun b b' hb => hi b b' (by simp [AV.mens, hb])) h2⟩
end
theorem CellsRel.ren {κ κ' : Ctx} {g : Nat → Option Nat} (h : κ.le κ') : ∀ (vs : List AV) (cb co : Nat), κ'.w.heap[cb]? = κ.w.heap[cb]? → RIds g κ κ' (fun b => AV.mens b vs) → CellsRel κ vs cb co → CellsRel κ' (AV.rens g vs) cb co
  | [], _, _, _, _, _ => by simp [AV.rens, CellsRel]
  | v :: vs, cb, co, hb, hi, hv => by
    simp only [AV.rens, CellsRel] at hv ⊢
    obtain ⟨⟨u, h1, h2⟩, h3⟩ := hv
    exact ⟨⟨u, by rw [cell_same hb]; exact h1, VRel.ren h v u (fun b b' hb => hi b b' (by simp [AV.mens, hb])) h2⟩, CellsRel.ren h vs cb (co + 1) hb (fun b b' hb => hi b b' (by simp [AV.mens, hb])) h3⟩
theorem MapRel.ren {κ κ' : Ctx} {g : Nat → Option Nat} (h : κ.le κ') : ∀ (es : List (AV × AV)) (l : List MapEntry), RIds g κ κ' (fun b => mapMen b es) → MapRel κ es l → MapRel κ' (renMap g es) l
  | [], _, _, hv => by simpa [renMap, MapRel] using hv
  | (k, v) :: es, l, hi, hv => by
    simp only [renMap, MapRel] at hv ⊢
    obtain ⟨e, es', rfl, h1, h2, h3⟩ := hv
    exact ⟨e, es', rfl, VRel.ren h k _ (fun b b' hb => hi b b' (by simp [mapMen, hb])) h1, VRel.ren h v _ (fun b b' hb => hi b b' (by simp [mapMen, hb])) h2, MapRel.ren h es es' (fun b b' hb => hi b b' (by simp [mapMen, hb])) h3⟩
theorem BRel.ren {κ κ' : Ctx} {g : Nat → Option Nat} (h : κ.le κ') {c : Nat} {d : Blk} (hc : κ'.w.heap[c]? = κ.w.heap[c]?) (hi : RIds g κ κ' (fun b => d.men b)) (hv : BRel κ c d) : BRel κ' c (d.ren g) := by
  cases d with
  | cells cs =>
    obtain ⟨arr, elem, h1, h2⟩ := hv
    exact ⟨arr, elem, hc.trans h1, CellsRel.ren h cs c 0 hc hi h2⟩
  | map es =>
    obtain ⟨ents, clock, h1, h2⟩ := hv
    exact ⟨ents, clock, hc.trans h1, MapRel.ren h es _ hi h2⟩

/-- The caller's name of the callee's name p; and back. -/
def look : List (Nat × Nat) → Nat → Option Nat
  | [], _ => none
  | (p, b) :: l, q => if q = p then some b else look l q
def kool : List (Nat × Nat) → Nat → Option Nat
  | [], _ => none
  | (p, b) :: l, c => if c = b then some p else kool l c
/-- Nothing is named twice. -/
def uniq : List (Nat × Nat) → Bool
  | [] => true
  | (p, b) :: l => (look l p).isNone && (kool l b).isNone && uniq l
theorem look_kool : ∀ {l : List (Nat × Nat)} {p b : Nat}, uniq l = true → look l p = some b → kool l b = some p
  | [], _, _, _, h => by simp [look] at h
  | (q, c) :: l, p, b, hu, h => by
    simp only [uniq, Bool.and_eq_true, Option.isNone_iff_eq_none] at hu
    simp only [look] at h
    simp only [kool]
    split at h
    · rename_i e; cases h; rw [if_pos rfl, e]
    · have := look_kool hu.2 h
      split
      · rename_i e; subst e; rw [hu.1.2] at this; cases this
      · exact this
theorem kool_look : ∀ {l : List (Nat × Nat)} {p b : Nat}, uniq l = true → kool l b = some p → look l p = some b
  | [], _, _, _, h => by simp [kool] at h
  | (q, c) :: l, p, b, hu, h => by
    simp only [uniq, Bool.and_eq_true, Option.isNone_iff_eq_none] at hu
    simp only [kool] at h
    simp only [look]
    split at h
    · rename_i e; cases h; rw [if_pos rfl, e]
    · have := kool_look hu.2 h
      split
      · rename_i e; subst e; rw [hu.1.1] at this; cases this
      · exact this
theorem look_app (l l' : List (Nat × Nat)) (p : Nat) : look (l ++ l') p = (look l p).or (look l' p) := by
  induction l with
  | nil => simp [look]
  | cons x l ih => obtain ⟨q, c⟩ := x; simp only [List.cons_append, look]; split <;> simp [ih]
theorem kool_app (l l' : List (Nat × Nat)) (p : Nat) : kool (l ++ l') p = (kool l p).or (kool l' p) := by
  induction l with
  | nil => simp [kool]
  | cons x l ih => obtain ⟨q, c⟩ := x; simp only [List.cons_append, kool]; split <;> simp [ih]
/-- What the callee is given. -/
def passed (σ : H) (gs g0 : List (Nat × Nat)) : H :=
  match gs with
  | [] => []
  | (p, b) :: l => match σ.get b with
    | some d => (p, d.ren (kool g0)) :: passed σ l g0
    | none => passed σ l g0
theorem passed_get {σ : H} {g0 : List (Nat × Nat)} : ∀ {gs : List (Nat × Nat)} {p : Nat} {d : Blk}, uniq gs = true → ((passed σ gs g0).get p = some d ↔ ∃ b d0, look gs p = some b ∧ σ.get b = some d0 ∧ d = d0.ren (kool g0))
  | [], p, d, _ => by simp [passed, H.get, look]
  | (q, c) :: l, p, d, hu => by
    simp only [uniq, Bool.and_eq_true, Option.isNone_iff_eq_none] at hu
    simp only [passed, look]
    have ih := passed_get (σ := σ) (g0 := g0) (gs := l) (p := p) (d := d) hu.2
    split
    · rename_i d0 hd0
      simp only [H.get]
      split
      · rename_i e
        constructor
        · intro h; cases h; exact ⟨c, d0, rfl, hd0, rfl⟩
        · rintro ⟨b, d1, h1, h2, rfl⟩; cases h1; rw [hd0] at h2; cases h2; rfl
      · exact ih
    · rename_i hd0
      rw [ih]
      split
      · rename_i e; subst e
        constructor
        · rintro ⟨b, d1, h1, _⟩; rw [hu.1.1] at h1; cases h1
        · rintro ⟨b, d1, h1, h2, _⟩; cases h1; rw [hd0] at h2; cases h2
      · rfl
/-- What the caller is given back. -/
def backed (L : List (Nat × Nat)) : H → H
  | [] => []
  | (p, d) :: σ => match look L p with
    | some b => (b, d.ren (look L)) :: backed L σ
    | none => backed L σ
theorem backed_get {L : List (Nat × Nat)} (hu : uniq L = true) : ∀ {σ : H} {b : Nat} {d : Blk}, ((backed L σ).get b = some d ↔ ∃ p d0, look L p = some b ∧ σ.get p = some d0 ∧ d = d0.ren (look L))
  | [], b, d => by simp [backed, H.get]
  | (q, d1) :: σ, b, d => by
    have ih := backed_get hu (σ := σ) (b := b) (d := d)
    simp only [backed]
    split
    · rename_i c hc
      simp only [H.get]
      split
      · rename_i e; subst e
        constructor
        · intro h; cases h; exact ⟨q, d1, hc, by simp, rfl⟩
        · rintro ⟨p, d0, h1, h2, rfl⟩
          have : p = q := by
            have k1 := look_kool hu h1
            have k2 := look_kool hu hc
            rw [k1] at k2; cases k2; rfl
          subst this
          simp at h2; subst h2; rfl
      · rename_i e
        rw [ih]
        constructor
        · rintro ⟨p, d0, h1, h2, rfl⟩
          refine ⟨p, d0, h1, ?_, rfl⟩
          rw [if_neg (by rintro rfl; rw [hc] at h1; cases h1; exact e rfl)]; exact h2
        · rintro ⟨p, d0, h1, h2, rfl⟩
          rw [if_neg (by rintro rfl; rw [hc] at h1; cases h1; exact e rfl)] at h2
          exact ⟨p, d0, h1, h2, rfl⟩
    · rename_i hc
      rw [ih]
      simp only [H.get]
      constructor
      · rintro ⟨p, d0, h1, h2, rfl⟩
        refine ⟨p, d0, h1, ?_, rfl⟩
        rw [if_neg (by rintro rfl; rw [hc] at h1; cases h1)]; exact h2
      · rintro ⟨p, d0, h1, h2, rfl⟩
        rw [if_neg (by rintro rfl; rw [hc] at h1; cases h1)] at h2
        exact ⟨p, d0, h1, h2, rfl⟩
def H.dels (σ : H) : List (Nat × Nat) → H
  | [] => σ
  | (_, b) :: l => (σ.dels l).del b
theorem H.dels_get (σ : H) : ∀ (l : List (Nat × Nat)) (b : Nat), (σ.dels l).get b = if (kool l b).isSome then none else σ.get b
  | [], b => by simp [H.dels, kool]
  | (p, c) :: l, b => by
    have hk : kool ((p, c) :: l) b = if b = c then some p else kool l b := rfl
    rw [hk]
    simp only [H.dels]
    by_cases e : b = c
    · subst e; rw [H.get_del_same]; simp
    · rw [H.get_del_ne _ e, H.dels_get σ l b]; simp [e]
theorem H.app_get (σ σ' : H) (b : Nat) : H.get (σ ++ σ') b = (σ.get b).or (σ'.get b) := by
  induction σ with
  | nil => simp [H.get]
  | cons x σ ih => obtain ⟨c, d⟩ := x; simp only [List.cons_append, H.get]; split <;> simp [ih]
def allPinned : List (Nat × Nat) → Bool
  | [] => true
  | (p, _) :: l => pinned p && allPinned l
def allNew (ρ : Env) (σ : H) : List (Nat × Nat) → Bool
  | [] => true
  | (e, z) :: l => !pinned e && !pinned z && (σ.get z).isNone && !σ.men z && !ρ.men z && allNew ρ σ l
theorem allPinned_look : ∀ {l : List (Nat × Nat)} {p b : Nat}, allPinned l = true → kool l b = some p → pinned p = true
  | [], _, _, _, h => by simp [kool] at h
  | (q, c) :: l, p, b, hl, h => by
    simp only [allPinned, Bool.and_eq_true] at hl
    simp only [kool] at h
    split at h
    · cases h; exact hl.1
    · exact allPinned_look hl.2 h
theorem allNew_look {ρ : Env} {σ : H} : ∀ {l : List (Nat × Nat)} {e z : Nat}, allNew ρ σ l = true → kool l z = some e → pinned e = false ∧ pinned z = false ∧ σ.get z = none ∧ σ.men z = false ∧ ρ.men z = false
  | [], _, _, _, h => by simp [kool] at h
  | (q, c) :: l, p, b, hl, h => by
    simp only [allNew, Bool.and_eq_true, Bool.not_eq_true', Option.isNone_iff_eq_none] at hl
    simp only [kool] at h
    split at h
    · rename_i e; cases h; subst e; exact ⟨hl.1.1.1.1.1, hl.1.1.1.1.2, hl.1.1.1.2, hl.1.1.2, hl.1.2⟩
    · exact allNew_look hl.2 h

/-- A call that is given the blocks gs; new: the names of what it hands back. -/
theorem callB {P : Program} {κ : Ctx} {N : Nat} {ρ : Env} {σ : H} {a : Act} {f : FuncId} {args : List AV} {us : Array Value} {R : AV → H → Prop} (gs : List (Nat × Nat)) (hu : uniq gs = true) (hp : allPinned gs = true)
    (hc : CallS P f (AV.rens (kool gs) args) (passed σ gs gs) R) (hs : SRel κ N ρ σ a) (hv : VRels κ args us.toList) {T : Value → Ctx → Prop}
    (hT : ∀ v σ', R v σ' → ∃ new, uniq (gs ++ new) = true ∧ allNew ρ σ new = true ∧
      ∀ κ' u, Step κ κ' → SRel κ' N ρ (σ.dels gs ++ backed (gs ++ new) σ') a → VRel κ' (v.ren (look (gs ++ new))) u → T u κ') :
    Calls P f us κ.w fun e w' => ∃ κ' u, κ'.w = w' ∧ e = .returned u ∧ T u κ' := by
  let κc : Ctx := { w := κ.w, O := fun p => (look gs p).bind κ.O, X := fun c => κ.X c ∨ ∃ b, κ.O b = some c ∧ kool gs b = none }
  have hle : κ.le κc := by
    refine ⟨fun c ⟨h1, h2, h3⟩ => ⟨⟨h1, ?_, fun p hp => ?_⟩, rfl⟩, fun _ => Nat.le_refl _⟩
    · rintro (h | ⟨b, h, _⟩)
      · exact h2 h
      · exact h3 b h
    · simp only [κc, Option.bind_eq_some_iff] at hp
      obtain ⟨b, _, hb⟩ := hp
      exact h3 b hb
  have rids : ∀ m, RIds (kool gs) κ κc m := fun m b p _ hg => by
    right
    simp only [κc, kool_look hu hg, Option.bind_some]
  have hh : HRel κc (passed σ gs gs) := by
    refine ⟨fun p d hd => ?_, fun p c hO => ?_, fun p q c h1 h2 => ?_, fun c hX => ?_⟩
    · obtain ⟨b, d0, h1, h2, rfl⟩ := (passed_get hu).1 hd
      obtain ⟨c, h3, h4⟩ := hs.heap.blk b d0 h2
      exact ⟨c, by simp only [κc, h1, Option.bind_some, h3], BRel.ren hle rfl (rids _) h4⟩
    · simp only [κc, Option.bind_eq_some_iff] at hO
      obtain ⟨b, h1, h2⟩ := hO
      obtain ⟨g1, g2, g3⟩ := hs.heap.dom b c h2
      obtain ⟨d0, hd0⟩ := Option.isSome_iff_exists.1 g1
      refine ⟨by rw [(passed_get hu).2 ⟨b, d0, h1, hd0, rfl⟩]; rfl, g2, ?_⟩
      rintro (h | ⟨b', h, hk⟩)
      · exact g3 h
      · have := hs.heap.inj _ _ _ h h2
        subst this
        rw [look_kool hu h1] at hk; cases hk
    · simp only [κc, Option.bind_eq_some_iff] at h1 h2
      obtain ⟨b, h1, h3⟩ := h1
      obtain ⟨b', h2, h4⟩ := h2
      have := hs.heap.inj _ _ _ h3 h4
      subst this
      have k1 := look_kool hu h1
      rw [look_kool hu h2] at k1; cases k1; rfl
    · rcases hX with h | ⟨b, h, _⟩
      · exact hs.heap.xlt c h
      · exact (hs.heap.dom b c h).2.1
  refine (hc.2 κc us (VRels.ren hle _ _ (rids _) hv) hh).mono ?_
  rintro e w' ⟨κ1, v, u, σ', rfl, rfl, hst, hh1, hv1, hR⟩
  obtain ⟨new, huL, hnew, hT⟩ := hT v σ' hR
  have hX1 : ∀ c, κ1.X c ↔ (κ.X c ∨ ∃ b, κ.O b = some c ∧ kool gs b = none) := fun c => by rw [hst.X]
  let L := gs ++ new
  have eL : ∀ b, kool L b = (kool gs b).or (kool new b) := kool_app gs new
  let κ2 : Ctx := { w := κ1.w, O := fun b => match kool L b with | some p => κ1.O p | none => κ.O b, X := κ.X }
  -- what a name of the caller stands for
  have o2 : ∀ b c, κ2.O b = some c → (∃ p, kool gs b = some p ∧ κ1.O p = some c ∧ κ.O b = some c) ∨ (∃ p, kool gs b = none ∧ kool new b = some p ∧ κ1.O p = some c ∧ κ.O b = none) ∨ (kool L b = none ∧ κ.O b = some c) := fun b c h => by
    simp only [κ2] at h
    cases hk : kool L b with
    | none => rw [hk] at h; exact .inr (.inr ⟨rfl, h⟩)
    | some p =>
      rw [hk] at h
      simp only at h
      rw [eL] at hk
      cases hg : kool gs b with
      | some q =>
        rw [hg] at hk; simp only [Option.some_or, Option.some.injEq] at hk; subst hk
        refine .inl ⟨q, rfl, h, ?_⟩
        rcases hst.pin q (allPinned_look hp hg) with e | e
        · rw [e] at h; cases h
        · rw [e] at h
          simpa only [κc, kool_look hu hg, Option.bind_some] using h
      | none =>
        rw [hg] at hk; simp only [Option.none_or] at hk
        exact .inr (.inl ⟨p, rfl, hk, h, hs.heap.none (allNew_look hnew hk).2.2.1⟩)
  have same : ∀ c, c < κ.w.heap.size → (∀ b, kool gs b ≠ none → κ.O b ≠ some c) → κ1.w.heap[c]? = κ.w.heap[c]? := fun c hlt hn => by
    refine hst.keep c hlt fun p hp => ?_
    simp only [κc, Option.bind_eq_some_iff] at hp
    obtain ⟨b, h1, h2⟩ := hp
    exact hn b (by rw [look_kool hu h1]; simp) h2
  have cown : ∀ p c, κ1.O p = some c → (∃ b, kool gs b ≠ none ∧ κ.O b = some c) ∨ κ.w.heap.size ≤ c := fun p c h => by
    rcases hst.own p c h with ⟨q, hq⟩ | h
    · simp only [κc, Option.bind_eq_some_iff] at hq
      obtain ⟨b, h1, h2⟩ := hq
      exact .inl ⟨b, by rw [look_kool hu h1]; simp, h2⟩
    · exact .inr h
  have step : Step κ κ2 := by
    refine ⟨rfl, hst.size, fun c hlt hn => same c hlt fun b _ => hn b, hst.bs, fun b c h => ?_, hst.os, hst.tape, hst.output, fun b hb => ?_⟩
    · rcases o2 b c h with ⟨p, _, _, h⟩ | ⟨p, _, _, h, _⟩ | ⟨_, h⟩
      · exact .inl ⟨b, h⟩
      · rcases cown p c h with ⟨b', _, h⟩ | h
        · exact .inl ⟨b', h⟩
        · exact .inr h
      · exact .inl ⟨b, h⟩
    · cases h : κ2.O b with
      | none => exact .inl rfl
      | some c =>
        right
        rcases o2 b c h with ⟨p, _, _, h⟩ | ⟨p, _, h, _⟩ | ⟨_, h⟩
        · exact h.symm
        · rw [(allNew_look hnew h).2.1] at hb; cases hb
        · exact h.symm
  have ids : ∀ m : Nat → Bool, (∀ b, kool new b ≠ none → m b = false) → Ids κ κ2 m := fun m hm b hb => by
    cases h : κ2.O b with
    | none => exact .inl rfl
    | some c =>
      right
      rcases o2 b c h with ⟨p, _, _, h⟩ | ⟨p, _, h, _⟩ | ⟨_, h⟩
      · exact h.symm
      · rw [hm b (by rw [h]; simp)] at hb; cases hb
      · exact h.symm
  have hle12 : κ1.le κ2 := by
    refine ⟨fun c ⟨h1, h2, h3⟩ => ⟨⟨h1, fun hX => h2 ((hX1 c).2 (.inl hX)), fun b hb => ?_⟩, rfl⟩, fun _ => Nat.le_refl _⟩
    rcases o2 b c hb with ⟨p, _, h, _⟩ | ⟨p, _, _, h, _⟩ | ⟨hk, h⟩
    · exact h3 p h
    · exact h3 p h
    · refine h2 ((hX1 c).2 (.inr ⟨b, h, ?_⟩))
      rw [eL] at hk
      cases hg : kool gs b <;> simp_all
  have rids2 : ∀ m, RIds (look L) κ1 κ2 m := fun m p b _ hg => by
    right
    have hk : kool L b = some p := look_kool huL hg
    simp only [κ2]; rw [hk]
  have get2 : ∀ b d, H.get (σ.dels gs ++ backed L σ') b = some d → (kool gs b = none ∧ σ.get b = some d) ∨ ((backed L σ').get b = some d) := fun b d h => by
    rw [H.app_get, H.dels_get] at h
    cases hg : kool gs b with
    | some p => rw [hg] at h; simp at h; exact .inr h
    | none =>
      rw [hg] at h
      simp only [Option.isSome_none, Bool.false_eq_true, if_false] at h
      cases hσ : σ.get b with
      | some d' => rw [hσ] at h; simp at h; subst h; exact .inl ⟨rfl, rfl⟩
      | none => rw [hσ] at h; simp at h; exact .inr h
  have sr : SRel κ2 N ρ (σ.dels gs ++ backed L σ') a := by
    refine ⟨hs.size, hs.defers, fun t x hx => ?_, fun b d hd => ?_, fun b c hO => ?_, fun b b' c h1 h2 => ?_, fun c hX => Nat.lt_of_lt_of_le (hs.heap.xlt c hX) hst.size⟩
    · obtain ⟨y, g1, g2⟩ := hs.env t x hx
      refine ⟨y, g1, VRel.le step.le x y (ids _ fun b hb => ?_) g2⟩
      obtain ⟨p, hp⟩ := Option.ne_none_iff_exists'.1 hb
      exact Env.men_get (allNew_look hnew hp).2.2.2.2 hx
    · rcases get2 b d hd with ⟨hg, hσ⟩ | hb
      · obtain ⟨c, g1, g2⟩ := hs.heap.blk b d hσ
        have hkn : kool new b = none := by
          cases hk : kool new b with
          | none => rfl
          | some p => have := (allNew_look hnew hk).2.2.1; rw [hσ] at this; cases this
        have hO2 : κ2.O b = some c := by
          simp only [κ2]; rw [eL, hg, hkn]; exact g1
        refine ⟨c, hO2, BRel.le step.le (ids _ fun b' hb' => ?_) (same c (hs.heap.dom b c g1).2.1 fun b' hb' hO' => ?_) g2⟩
        · obtain ⟨p, hp⟩ := Option.ne_none_iff_exists'.1 hb'
          exact H.men_get (allNew_look hnew hp).2.2.2.1 hσ
        · have := hs.heap.inj _ _ _ hO' g1
          subst this; exact hb' hg
      · obtain ⟨p, d0, g1, g2, rfl⟩ := (backed_get huL).1 hb
        obtain ⟨c, k1, k2⟩ := hh1.blk p d0 g2
        have hk : kool L b = some p := look_kool huL g1
        exact ⟨c, by simp only [κ2]; rw [hk]; exact k1, BRel.ren hle12 rfl (rids2 _) k2⟩
    · have back : ∀ p, kool L b = some p → κ1.O p = some c → (H.get (σ.dels gs ++ backed L σ') b).isSome = true ∧ c < κ1.w.heap.size ∧ ¬ κ.X c := fun p hk h => by
        obtain ⟨g1, g2, g3⟩ := hh1.dom p c h
        obtain ⟨d0, hd0⟩ := Option.isSome_iff_exists.1 g1
        refine ⟨?_, g2, fun hX => g3 ((hX1 c).2 (.inl hX))⟩
        have hb := (backed_get huL).2 ⟨p, d0, kool_look huL hk, hd0, rfl⟩
        rw [H.app_get, hb]
        cases (σ.dels gs).get b <;> rfl
      rcases o2 b c hO with ⟨p, hk, h, _⟩ | ⟨p, hg, hk, h, _⟩ | ⟨hk, h⟩
      · exact back p (by rw [eL, hk]; rfl) h
      · exact back p (by rw [eL, hg, hk]; rfl) h
      · obtain ⟨g1, g2, g3⟩ := hs.heap.dom b c h
        refine ⟨?_, Nat.lt_of_lt_of_le g2 hst.size, g3⟩
        have hg : kool gs b = none := by rw [eL] at hk; cases hg : kool gs b <;> simp_all
        obtain ⟨d, hd⟩ := Option.isSome_iff_exists.1 g1
        rw [H.app_get, H.dels_get, hg, hd]; rfl
    · have npass : ∀ x p, κ.O x = some c → kool L x = none → κ1.O p = some c → False := fun x p hx hk h => by
        rcases cown p c h with ⟨y, hy, hO⟩ | hge
        · have := hs.heap.inj _ _ _ hO hx
          subst this
          rw [eL] at hk
          cases hg : kool gs y <;> simp_all
        · have := (hs.heap.dom x c hx).2.1; omega
      have hit : ∀ x, κ2.O x = some c → (∃ p, kool L x = some p ∧ κ1.O p = some c) ∨ (kool L x = none ∧ κ.O x = some c) := fun x h => by
        simp only [κ2] at h
        cases hk : kool L x with
        | none => rw [hk] at h; exact .inr ⟨rfl, h⟩
        | some p => rw [hk] at h; exact .inl ⟨p, rfl, h⟩
      rcases hit b h1 with ⟨p, k1, k2⟩ | ⟨k1, k2⟩ <;> rcases hit b' h2 with ⟨q, l1, l2⟩ | ⟨l1, l2⟩
      · have := hh1.inj _ _ _ k2 l2
        subst this
        have e1 := kool_look huL k1
        rw [kool_look huL l1] at e1; cases e1; rfl
      · exact (npass b' p l2 l1 k2).elim
      · exact (npass b q k2 k1 l2).elim
      · exact hs.heap.inj _ _ _ k2 l2
  exact ⟨κ2, u, rfl, rfl, hT κ2 u step sr (VRel.ren hle12 v u (rids2 _) hv1)⟩
end Go.Proofs.Hz
