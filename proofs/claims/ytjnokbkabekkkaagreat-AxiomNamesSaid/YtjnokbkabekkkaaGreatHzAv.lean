/- The abstract values of this proof, and how they stand to the machine's. -/
import Derived.Orders
import Derived.Below
set_option linter.all false
namespace Go.Proofs.Hz
open Go

/-- A value as this proof sees it: scalars as they are; memory that is only read as the tree that it holds ('view', 'sl'); memory that is written by a name ('ref', 'rs', 'mref'). -/
inductive AV where
  | undef
  | bool (b : Bool)
  | int (k : IntKind) (n : Int)
  | str (s : ByteArray)
  | nilp
  | nils
  | nilf
  | nili
  | agg (cs : List AV)
  | tup (cs : List AV)
  | view (cs : List AV) (off : Nat)
  | sl (nn : Bool) (k : Nat) (es : List (List AV))
  | ref (b off : Nat)
  | rs (b off n k : Nat)
  | mref (b : Nat)
  | func (f : FuncId) (first caps : List AV)
  | iface (t : TypeId) (v : AV)
  deriving Inhabited

/-- A world, where the named blocks lie, and which blocks are someone else's to write. -/
structure Ctx where
  w : World
  O : Nat → Option Nat
  X : Nat → Prop

/-- A block that nobody writes from here on. -/
def Ctx.free (κ : Ctx) (c : Nat) : Prop := c < κ.w.heap.size ∧ ¬ κ.X c ∧ ∀ b, κ.O b ≠ some c
/-- The same, the own blocks being someone else's. -/
def Ctx.pure (κ : Ctx) : Ctx := { w := κ.w, O := fun _ => none, X := fun c => κ.X c ∨ ∃ b, κ.O b = some c }

def bsize (w : World) (c : Nat) : Nat :=
  match w.heap[c]? with
  | some (.cells arr _ _) => arr.size
  | _ => 0

mutual
/-- No block is named in v. -/
def AV.noref : AV → Bool
  | .agg cs => AV.norefs cs
  | .tup cs => AV.norefs cs
  | .ref _ _ => false
  | .rs _ _ _ _ => false
  | .mref _ => false
  | .func _ first caps => AV.norefs first && AV.norefs caps
  | .iface _ v => AV.noref v
  | _ => true
def AV.norefs : List AV → Bool
  | [] => true
  | v :: vs => AV.noref v && AV.norefs vs
end
def allNoref : List (List AV) → Bool
  | [] => true
  | e :: es => AV.norefs e && allNoref es
mutual
/-- The machine's value is what the abstract one says. -/
def VRel : Ctx → AV → Value → Prop
  | _, .undef, _ => True
  | _, .bool b, v => v = .bool b
  | _, .int k n, v => v = .int k n
  | _, .str s, v => v = .string s
  | _, .nilp, v => v = .pointer none
  | _, .nils, v => v = .slice none 0 0
  | _, .nilf, v => v = .nilFunc
  | _, .nili, v => v = .nilIface
  | κ, .agg cs, v => ∃ us, v = .agg us ∧ VRels κ cs us.toList
  | κ, .tup cs, v => ∃ us, v = .tuple us ∧ VRels κ cs us.toList
  | κ, .view cs off, v => ∃ cb co, v = .pointer (some ⟨cb, co + off, none⟩) ∧ κ.free cb ∧ AV.norefs cs = true ∧ CellsRel κ.pure cs cb co
  | κ, .sl nn k es, v => ∃ cb co a cap, v = .slice a es.length cap ∧ es.length ≤ cap ∧ (nn = true → a.isSome = true) ∧
      (es.length ≠ 0 → a = some ⟨cb, co, none⟩ ∧ κ.free cb) ∧ (a = none → cap = 0) ∧ allNoref es = true ∧ ElemsRel κ.pure k es cb co
  | κ, .ref b off, v => ∀ c, κ.O b = some c → v = .pointer (some ⟨c, off, none⟩)
  | κ, .rs b off n k, v => ∀ c, κ.O b = some c → ∃ a cap, v = .slice (some a) n cap ∧ n ≤ cap ∧ (cap = 0 ∨ (a = ⟨c, off, none⟩ ∧ off + cap * k ≤ bsize κ.w c))
  | κ, .mref b, v => ∀ c, κ.O b = some c → v = .map (some c)
  | κ, .func f first caps, v => ∃ us ws, v = .func (.func f) us ws ∧ VRels κ first us.toList ∧ VRels κ caps ws.toList
  | κ, .iface t x, v => ∃ u, v = .iface t u ∧ VRel κ x u
def VRels : Ctx → List AV → List Value → Prop
  | _, [], us => us = []
  | κ, v :: rest, us => ∃ u us', us = u :: us' ∧ VRel κ v u ∧ VRels κ rest us'
def CellsRel : Ctx → List AV → Nat → Nat → Prop
  | _, [], _, _ => True
  | κ, v :: rest, cb, co => (∃ u, κ.w.cell? ⟨cb, co, none⟩ = some u ∧ VRel κ v u) ∧ CellsRel κ rest cb (co + 1)
def ElemsRel : Ctx → Nat → List (List AV) → Nat → Nat → Prop
  | _, _, [], _, _ => True
  | κ, k, e :: es, cb, co => e.length = k ∧ CellsRel κ e cb co ∧ ElemsRel κ k es cb (co + k)
end

mutual
/-- Is block b named in v (outside of what is only read)? -/
def AV.men (b : Nat) : AV → Bool
  | .agg cs => AV.mens b cs
  | .tup cs => AV.mens b cs
  | .ref b' _ => b == b'
  | .rs b' _ _ _ => b == b'
  | .mref b' => b == b'
  | .func _ first caps => AV.mens b first || AV.mens b caps
  | .iface _ v => AV.men b v
  | _ => false
def AV.mens (b : Nat) : List AV → Bool
  | [] => false
  | v :: vs => AV.men b v || AV.mens b vs
end
mutual
theorem AV.men_of_noref (b : Nat) : ∀ v : AV, v.noref = true → v.men b = false
  | .agg cs, h => AV.mens_of_norefs b cs h
  | .tup cs, h => AV.mens_of_norefs b cs h
  | .ref _ _, h => by simp [AV.noref] at h
  | .rs _ _ _ _, h => by simp [AV.noref] at h
  | .mref _, h => by simp [AV.noref] at h
  | .func _ f c, h => by
    simp only [AV.noref, Bool.and_eq_true] at h
    simp [AV.men, AV.mens_of_norefs b f h.1, AV.mens_of_norefs b c h.2]
  | .iface _ v, h => AV.men_of_noref b v h
  | .undef, _ | .bool _, _ | .int _ _, _ | .str _, _ | .nilp, _ | .nils, _ | .nilf, _ | .nili, _ | .view _ _, _ | .sl _ _ _, _ => rfl
theorem AV.mens_of_norefs (b : Nat) : ∀ vs : List AV, AV.norefs vs = true → AV.mens b vs = false
  | [], _ => rfl
  | v :: vs, h => by
    simp only [AV.norefs, Bool.and_eq_true] at h
    simp [AV.mens, AV.men_of_noref b v h.1, AV.mens_of_norefs b vs h.2]
end

/-- What is read stays as it is; no block loses cells. -/
structure Ctx.le (κ κ' : Ctx) : Prop where
  keep : ∀ c, κ.free c → κ'.free c ∧ κ'.w.heap[c]? = κ.w.heap[c]?
  bs : ∀ c, bsize κ.w c ≤ bsize κ'.w c
theorem Ctx.free_pure {κ : Ctx} {c : Nat} : κ.pure.free c ↔ κ.free c := by
  simp only [Ctx.free, Ctx.pure]
  constructor
  · rintro ⟨h1, h2, _⟩
    exact ⟨h1, fun h => h2 (.inl h), fun b h => h2 (.inr ⟨b, h⟩)⟩
  · rintro ⟨h1, h2, h3⟩
    exact ⟨h1, by rintro (h | ⟨b, h⟩) <;> first | exact h2 h | exact h3 b h, by simp⟩
theorem Ctx.le.pure {κ κ' : Ctx} (h : κ.le κ') : κ.pure.le κ'.pure :=
  ⟨fun c hc => by rw [Ctx.free_pure] at *; exact h.keep c hc, h.bs⟩
def Ids (κ κ' : Ctx) (m : Nat → Bool) : Prop := ∀ b, m b = true → κ'.O b = none ∨ κ'.O b = κ.O b
theorem ids_pure (κ κ' : Ctx) (m : Nat → Bool) : Ids κ.pure κ'.pure m := fun _ _ => .inl rfl
theorem cell_same {w w' : World} {c o : Nat} (h : w'.heap[c]? = w.heap[c]?) : w'.cell? ⟨c, o, none⟩ = w.cell? ⟨c, o, none⟩ := by
  simp only [World.cell?, h]
mutual
theorem VRel.le {κ κ' : Ctx} (h : κ.le κ') : ∀ (v : AV) (u : Value), Ids κ κ' (fun b => v.men b) → VRel κ v u → VRel κ' v u
  | .undef, _, _, _ => by simp [VRel]
  | .bool _, _, _, hv => by simpa [VRel] using hv
  | .int _ _, _, _, hv => by simpa [VRel] using hv
  | .str _, _, _, hv => by simpa [VRel] using hv
  | .nilp, _, _, hv => by simpa [VRel] using hv
  | .nils, _, _, hv => by simpa [VRel] using hv
  | .nilf, _, _, hv => by simpa [VRel] using hv
  | .nili, _, _, hv => by simpa [VRel] using hv
  | .agg cs, u, hi, hv => by
    simp only [VRel] at hv ⊢
    obtain ⟨us, rfl, hv⟩ := hv
    exact ⟨us, rfl, VRels.le h cs _ hi hv⟩
  | .tup cs, u, hi, hv => by
    simp only [VRel] at hv ⊢
    obtain ⟨us, rfl, hv⟩ := hv
    exact ⟨us, rfl, VRels.le h cs _ hi hv⟩
  | .view cs off, u, _, hv => by
    simp only [VRel] at hv ⊢
    obtain ⟨cb, co, rfl, hf, hn, hv⟩ := hv
    exact ⟨cb, co, rfl, (h.keep cb hf).1, hn, CellsRel.le h.pure cs cb co (h.keep cb hf).2 (ids_pure _ _ _) hv⟩
  | .sl nn k es, u, _, hv => by
    simp only [VRel] at hv ⊢
    obtain ⟨cb, co, a, cap, rfl, h1, h2, h3, h4, h5, hv⟩ := hv
    refine ⟨cb, co, a, cap, rfl, h1, h2, fun hn => ⟨(h3 hn).1, (h.keep cb (h3 hn).2).1⟩, h4, h5, ?_⟩
    cases es with
    | nil => simp [ElemsRel]
    | cons e es => exact ElemsRel.le h.pure k (e :: es) cb co (h.keep cb (h3 (by simp)).2).2 (fun _ => ids_pure _ _ _) hv
  | .ref b off, u, hi, hv => by
    simp only [VRel] at hv ⊢
    intro c hc
    rcases hi b (by simp [AV.men]) with e | e
    · rw [e] at hc; cases hc
    · exact hv c (e ▸ hc)
  | .rs b off n k, u, hi, hv => by
    simp only [VRel] at hv ⊢
    intro c hc
    rcases hi b (by simp [AV.men]) with e | e
    · rw [e] at hc; cases hc
    · obtain ⟨a, cap, h1, h2, h3⟩ := hv c (e ▸ hc)
      exact ⟨a, cap, h1, h2, h3.imp id fun ⟨h4, h5⟩ => ⟨h4, Nat.le_trans h5 (h.bs c)⟩⟩
  | .mref b, u, hi, hv => by
    simp only [VRel] at hv ⊢
    intro c hc
    rcases hi b (by simp [AV.men]) with e | e
    · rw [e] at hc; cases hc
    · exact hv c (e ▸ hc)
  | .func f first caps, u, hi, hv => by
    simp only [VRel] at hv ⊢
    obtain ⟨us, ws, rfl, h1, h2⟩ := hv
    exact ⟨us, ws, rfl, VRels.le h first _ (fun b hb => hi b (by simp [AV.men, hb])) h1, VRels.le h caps _ (fun b hb => hi b (by simp [AV.men, hb])) h2⟩
  | .iface t x, u, hi, hv => by
    simp only [VRel] at hv ⊢
    obtain ⟨u, rfl, hv⟩ := hv
    exact ⟨u, rfl, VRel.le h x u (fun b hb => hi b (by simp [AV.men, hb])) hv⟩
theorem VRels.le {κ κ' : Ctx} (h : κ.le κ') : ∀ (vs : List AV) (us : List Value), Ids κ κ' (fun b => AV.mens b vs) → VRels κ vs us → VRels κ' vs us
  | [], _, _, hv => by simpa [VRels] using hv
  | v :: vs, us, hi, hv => by
    simp only [VRels] at hv ⊢
    obtain ⟨u, us', rfl, h1, h2⟩ := hv
    exact ⟨u, us', rfl, VRel.le h v u (fun b hb => hi b (by simp [AV.mens, hb])) h1, VRels.le h vs us' (fun b hb => hi b (by simp [AV.mens, hb])) h2⟩
theorem CellsRel.le {κ κ' : Ctx} (h : κ.le κ') : ∀ (vs : List AV) (cb co : Nat), κ'.w.heap[cb]? = κ.w.heap[cb]? → Ids κ κ' (fun b => AV.mens b vs) → CellsRel κ vs cb co → CellsRel κ' vs cb co
  | [], _, _, _, _, _ => by simp [CellsRel]
  | v :: vs, cb, co, hb, hi, hv => by
    simp only [CellsRel] at hv ⊢
    obtain ⟨⟨u, h1, h2⟩, h3⟩ := hv
    exact ⟨⟨u, by rw [cell_same hb]; exact h1, VRel.le h v u (fun b hb => hi b (by simp [AV.mens, hb])) h2⟩, CellsRel.le h vs cb (co + 1) hb (fun b hb => hi b (by simp [AV.mens, hb])) h3⟩
theorem ElemsRel.le {κ κ' : Ctx} (h : κ.le κ') : ∀ (k : Nat) (es : List (List AV)) (cb co : Nat), κ'.w.heap[cb]? = κ.w.heap[cb]? → (∀ m, Ids κ κ' m) → ElemsRel κ k es cb co → ElemsRel κ' k es cb co
  | _, [], _, _, _, _, _ => by simp [ElemsRel]
  | k, e :: es, cb, co, hb, hi, hv => by
    simp only [ElemsRel] at hv ⊢
    exact ⟨hv.1, CellsRel.le h e cb co hb (hi _) hv.2.1, ElemsRel.le h k es cb (co + k) hb hi hv.2.2⟩
end

theorem Ctx.pure_le (κ : Ctx) : κ.pure.le κ := ⟨fun c hc => ⟨Ctx.free_pure.1 hc, rfl⟩, fun _ => Nat.le_refl _⟩
theorem Ctx.le_pure (κ : Ctx) : κ.le κ.pure := ⟨fun c hc => ⟨Ctx.free_pure.2 hc, rfl⟩, fun _ => Nat.le_refl _⟩
theorem ids_noref {κ κ' : Ctx} {v : AV} (h : v.noref = true) : Ids κ κ' (fun b => v.men b) := fun b hb => by
  have := AV.men_of_noref b v h; simp_all
theorem ids_norefs {κ κ' : Ctx} {vs : List AV} (h : AV.norefs vs = true) : Ids κ κ' (fun b => AV.mens b vs) := fun b hb => by
  have := AV.mens_of_norefs b vs h; simp_all
theorem VRel.unpure {κ : Ctx} {v : AV} {u : Value} (h : v.noref = true) (hv : VRel κ.pure v u) : VRel κ v u := VRel.le κ.pure_le v u (ids_noref h) hv
theorem VRels.unpure {κ : Ctx} {vs : List AV} {us : List Value} (h : AV.norefs vs = true) (hv : VRels κ.pure vs us) : VRels κ vs us := VRels.le κ.pure_le vs us (ids_norefs h) hv
theorem VRel.toPure {κ : Ctx} {v : AV} {u : Value} (hv : VRel κ v u) : VRel κ.pure v u := VRel.le κ.le_pure v u (fun _ _ => .inl rfl) hv
theorem VRels.toPure {κ : Ctx} {vs : List AV} {us : List Value} (hv : VRels κ vs us) : VRels κ.pure vs us := VRels.le κ.le_pure vs us (fun _ _ => .inl rfl) hv
theorem CellsRel.get {κ : Ctx} : ∀ {cs : List AV} {cb co i : Nat} {v : AV}, CellsRel κ cs cb co → cs[i]? = some v → ∃ u, κ.w.cell? ⟨cb, co + i, none⟩ = some u ∧ VRel κ v u
  | [], _, _, _, _, _, h => by simp at h
  | c :: cs, cb, co, 0, v, hv, h => by
    simp only [CellsRel] at hv
    simp at h
    subst h
    exact hv.1
  | c :: cs, cb, co, i + 1, v, hv, h => by
    simp only [CellsRel] at hv
    simp at h
    have := CellsRel.get hv.2 h
    rwa [show co + 1 + i = co + (i + 1) by omega] at this
theorem norefs_get : ∀ {cs : List AV} {i : Nat} {v : AV}, AV.norefs cs = true → cs[i]? = some v → v.noref = true
  | [], _, _, _, h => by simp at h
  | c :: cs, 0, v, hn, h => by
    simp only [AV.norefs, Bool.and_eq_true] at hn
    simp at h
    subst h
    exact hn.1
  | c :: cs, i + 1, v, hn, h => by
    simp only [AV.norefs, Bool.and_eq_true] at hn
    simp at h
    exact norefs_get hn.2 h
theorem norefs_drop : ∀ (n : Nat) {cs : List AV}, AV.norefs cs = true → AV.norefs (cs.drop n) = true
  | 0, _, h => by simpa using h
  | n + 1, [], h => by simpa using h
  | n + 1, c :: cs, h => by
    simp only [AV.norefs, Bool.and_eq_true] at h
    simpa using norefs_drop n h.2
theorem norefs_take : ∀ (n : Nat) {cs : List AV}, AV.norefs cs = true → AV.norefs (cs.take n) = true
  | 0, _, h => by simp [AV.norefs]
  | n + 1, [], h => by simpa using h
  | n + 1, c :: cs, h => by
    simp only [AV.norefs, Bool.and_eq_true] at h
    simp [AV.norefs, h.1, norefs_take n h.2]
theorem CellsRel.drop {κ : Ctx} : ∀ (n : Nat) {cs : List AV} {cb co : Nat}, CellsRel κ cs cb co → CellsRel κ (cs.drop n) cb (co + n)
  | 0, _, _, _, h => by simpa using h
  | n + 1, [], _, _, h => by simp [CellsRel]
  | n + 1, c :: cs, cb, co, h => by
    simp only [CellsRel] at h
    have := CellsRel.drop n h.2
    rw [show co + 1 + n = co + (n + 1) by omega] at this
    simpa using this
theorem CellsRel.take {κ : Ctx} : ∀ (n : Nat) {cs : List AV} {cb co : Nat}, CellsRel κ cs cb co → CellsRel κ (cs.take n) cb co
  | 0, _, _, _, h => by simp [CellsRel]
  | n + 1, [], _, _, h => by simp [CellsRel]
  | n + 1, c :: cs, cb, co, h => by
    simp only [CellsRel] at h
    simp only [List.take_succ_cons, CellsRel]
    exact ⟨h.1, CellsRel.take n h.2⟩
theorem ElemsRel.get {κ : Ctx} {k : Nat} : ∀ {es : List (List AV)} {cb co i : Nat} {e : List AV}, ElemsRel κ k es cb co → es[i]? = some e → e.length = k ∧ CellsRel κ e cb (co + i * k)
  | [], _, _, _, _, _, h => by simp at h
  | c :: cs, cb, co, 0, v, hv, h => by
    simp only [ElemsRel] at hv
    simp at h
    subst h
    simpa using ⟨hv.1, hv.2.1⟩
  | c :: cs, cb, co, i + 1, v, hv, h => by
    simp only [ElemsRel] at hv
    simp at h
    have := ElemsRel.get hv.2.2 h
    rwa [show co + k + i * k = co + (i + 1) * k by rw [Nat.succ_mul]; omega] at this
theorem ElemsRel.drop {κ : Ctx} {k : Nat} : ∀ (n : Nat) {es : List (List AV)} {cb co : Nat}, ElemsRel κ k es cb co → ElemsRel κ k (es.drop n) cb (co + n * k)
  | 0, _, _, _, h => by simpa using h
  | n + 1, [], _, _, h => by simp [ElemsRel]
  | n + 1, c :: cs, cb, co, h => by
    simp only [ElemsRel] at h
    have := ElemsRel.drop n h.2.2
    rw [show co + k + n * k = co + (n + 1) * k by rw [Nat.succ_mul]; omega] at this
    simpa using this
theorem ElemsRel.take {κ : Ctx} {k : Nat} : ∀ (n : Nat) {es : List (List AV)} {cb co : Nat}, ElemsRel κ k es cb co → ElemsRel κ k (es.take n) cb co
  | 0, _, _, _, h => by simp [ElemsRel]
  | n + 1, [], _, _, h => by simp [ElemsRel]
  | n + 1, c :: cs, cb, co, h => by
    simp only [ElemsRel] at h
    simp only [List.take_succ_cons, ElemsRel]
    exact ⟨h.1, h.2.1, ElemsRel.take n h.2.2⟩
theorem allNoref_get : ∀ {es : List (List AV)} {i : Nat} {e : List AV}, allNoref es = true → es[i]? = some e → AV.norefs e = true
  | [], _, _, _, h => by simp at h
  | c :: cs, 0, v, hn, h => by
    simp only [allNoref, Bool.and_eq_true] at hn
    simp at h
    subst h
    exact hn.1
  | c :: cs, i + 1, v, hn, h => by
    simp only [allNoref, Bool.and_eq_true] at hn
    simp at h
    exact allNoref_get hn.2 h
theorem allNoref_drop : ∀ (n : Nat) {es : List (List AV)}, allNoref es = true → allNoref (es.drop n) = true
  | 0, _, h => by simpa using h
  | n + 1, [], h => by simpa using h
  | n + 1, c :: cs, h => by
    simp only [allNoref, Bool.and_eq_true] at h
    simpa using allNoref_drop n h.2
theorem allNoref_take : ∀ (n : Nat) {es : List (List AV)}, allNoref es = true → allNoref (es.take n) = true
  | 0, _, h => by simp [allNoref]
  | n + 1, [], h => by simpa using h
  | n + 1, c :: cs, h => by
    simp only [allNoref, Bool.and_eq_true] at h
    simp [allNoref, h.1, allNoref_take n h.2]
theorem VRels.length {κ : Ctx} : ∀ {vs : List AV} {us : List Value}, VRels κ vs us → us.length = vs.length
  | [], us, h => by simp only [VRels] at h; simp [h]
  | v :: vs, us, h => by
    simp only [VRels] at h
    obtain ⟨u, us', rfl, _, h2⟩ := h
    simp [VRels.length h2]
theorem VRels.get {κ : Ctx} : ∀ {vs : List AV} {us : List Value} {i : Nat} {v : AV}, VRels κ vs us → vs[i]? = some v → ∃ u, us[i]? = some u ∧ VRel κ v u
  | [], _, _, _, _, h => by simp at h
  | c :: cs, us, i, v, hv, h => by
    simp only [VRels] at hv
    obtain ⟨u, us', rfl, h1, h2⟩ := hv
    cases i with
    | zero => simp at h; subst h; exact ⟨u, by simp, h1⟩
    | succ i => simp at h; simpa using VRels.get h2 h
theorem VRels.append {κ : Ctx} : ∀ {vs ws : List AV} {us zs : List Value}, VRels κ vs us → VRels κ ws zs → VRels κ (vs ++ ws) (us ++ zs)
  | [], ws, us, zs, h, k => by simp only [VRels] at h; subst h; simpa using k
  | v :: vs, ws, us, zs, h, k => by
    simp only [VRels] at h
    obtain ⟨u, us', rfl, h1, h2⟩ := h
    simp only [List.cons_append, VRels]
    exact ⟨u, us' ++ zs, rfl, h1, VRels.append h2 k⟩
end Go.Proofs.Hz
