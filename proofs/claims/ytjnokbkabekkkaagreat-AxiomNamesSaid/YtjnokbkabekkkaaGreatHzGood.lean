/- What the arguments of a law are, as trees. -/
import Derived.Test.YtjnokbkabekkkaaGreatHzCall
import Derived.Deep.Slices
import Derived.Carry
import Derived.ChangeOld
import Derived.WideShapes
set_option linter.all false
namespace Go.Proofs.Hz
open Go Go.ChangeShapes Go.WideShapes Go.RowKit

mutual
/-- The cells of a value of type t, as trees. -/
inductive Good (P : Program) : TypeId → List AV → Prop
  | bool {t : TypeId} (b : Bool) : P.underlying t = some .bool → Good P t [.bool b]
  | int {t : TypeId} {k : IntKind} (n : Int) : P.underlying t = some (.int k) → (Lit.int k n).wf = true → Good P t [.int k n]
  | str {t : TypeId} (s : ByteArray) : P.underlying t = some .string → s.size ≤ maxLen → Good P t [.str s]
  | slice {t e : TypeId} (es : List (List AV)) : P.underlying t = some (.slice e) → es.length ≤ maxLen → (∀ x, x ∈ es → Good P e x) → Good P t [.sl false (P.cellsOf e) es]
  | struct {t : TypeId} {fs : Array Field} {cs : List AV} : P.underlying t = some (.struct fs) → GoodFs P fs.toList cs → Good P t cs
inductive GoodFs (P : Program) : List Field → List AV → Prop
  | nil : GoodFs P [] []
  | cons {f : Field} {fs : List Field} {a b : List AV} : Good P f.type a → GoodFs P fs b → GoodFs P (f :: fs) (a ++ b)
end
section
variable {P : Program}
theorem Good.bool_inv {t : TypeId} {cs : List AV} (h : Good P t cs) (ht : P.underlying t = some .bool) : ∃ b, cs = [.bool b] := by
  cases h with
  | bool b _ => exact ⟨b, rfl⟩
  | int _ h _ => rw [ht] at h; cases h
  | str _ h _ => rw [ht] at h; cases h
  | slice _ h _ _ => rw [ht] at h; cases h
  | struct h _ => rw [ht] at h; cases h
theorem Good.int_inv {t : TypeId} {k : IntKind} {cs : List AV} (h : Good P t cs) (ht : P.underlying t = some (.int k)) : ∃ n, cs = [.int k n] ∧ (Lit.int k n).wf = true := by
  cases h with
  | bool b h => rw [ht] at h; cases h
  | int n h hw => rw [ht] at h; cases h; exact ⟨n, rfl, hw⟩
  | str _ h _ => rw [ht] at h; cases h
  | slice _ h _ _ => rw [ht] at h; cases h
  | struct h _ => rw [ht] at h; cases h
theorem Good.str_inv {t : TypeId} {cs : List AV} (h : Good P t cs) (ht : P.underlying t = some .string) : ∃ s, cs = [.str s] ∧ s.size ≤ maxLen := by
  cases h with
  | bool b h => rw [ht] at h; cases h
  | int n h hw => rw [ht] at h; cases h
  | str s _ hs => exact ⟨s, rfl, hs⟩
  | slice _ h _ _ => rw [ht] at h; cases h
  | struct h _ => rw [ht] at h; cases h
theorem Good.slice_inv {t e : TypeId} {cs : List AV} (h : Good P t cs) (ht : P.underlying t = some (.slice e)) : ∃ es, cs = [.sl false (P.cellsOf e) es] ∧ es.length ≤ maxLen ∧ ∀ x, x ∈ es → Good P e x := by
  cases h with
  | bool b h => rw [ht] at h; cases h
  | int n h hw => rw [ht] at h; cases h
  | str _ h _ => rw [ht] at h; cases h
  | slice es h hl he => rw [ht] at h; cases h; exact ⟨es, rfl, hl, he⟩
  | struct h _ => rw [ht] at h; cases h
theorem Good.struct_inv {t : TypeId} {fs : Array Field} {cs : List AV} (h : Good P t cs) (ht : P.underlying t = some (.struct fs)) : GoodFs P fs.toList cs := by
  cases h with
  | bool b h => rw [ht] at h; cases h
  | int n h hw => rw [ht] at h; cases h
  | str _ h _ => rw [ht] at h; cases h
  | slice _ h _ _ => rw [ht] at h; cases h
  | struct h hf => rw [ht] at h; cases h; exact hf
theorem GoodFs.nil_inv {cs : List AV} (h : GoodFs P [] cs) : cs = [] := by cases h; rfl
theorem GoodFs.cons_inv {f : Field} {fs : List Field} {cs : List AV} (h : GoodFs P (f :: fs) cs) : ∃ a b, cs = a ++ b ∧ Good P f.type a ∧ GoodFs P fs b := by
  cases h with
  | cons h1 h2 => exact ⟨_, _, rfl, h1, h2⟩
/-- A row, each element of which is some f y, is a row of ys. -/
theorem row_of {α β : Type} {f : β → α} {q : β → Prop} : ∀ {es : List α}, (∀ x, x ∈ es → ∃ y, x = f y ∧ q y) → ∃ ys : List β, es = ys.map f ∧ ∀ y, y ∈ ys → q y
  | [], _ => ⟨[], rfl, fun _ h => by cases h⟩
  | e :: es, h => by
    obtain ⟨y, h1, h2⟩ := h e (by simp)
    obtain ⟨ys, h3, h4⟩ := row_of (es := es) (f := f) (q := q) (fun x hx => h x (List.mem_cons_of_mem _ hx))
    refine ⟨y :: ys, by simp [h1, h3], fun z hz => ?_⟩
    rcases List.mem_cons.1 hz with e | e
    · subst e; exact h2
    · exact h4 z e
end
/-- The fields lie side by side from o on, up to m. -/
def tiles (P : Program) : List Field → Nat → Nat → Bool
  | [], o, m => o == m
  | f :: fs, o, m => f.offset == o && tiles P fs (o + P.cellsOf f.type) m
/-- Types of plain data. -/
def plainT (P : Program) : Nat → TypeId → Bool
  | 0, _ => false
  | n + 1, t => match P.underlying t with
    | some .bool => true
    | some (.int _) => true
    | some .string => true
    | some (.slice e) => decide (0 < P.cellsOf e) && plainT P n e
    | some (.struct fs) => tiles P fs.toList 0 (P.cellsOf t) && fs.toList.all fun f => plainT P n f.type
    | _ => false
/-- The world alone: no own blocks, none of others. -/
def bare (W : World) : Ctx := ⟨W, fun _ => none, fun _ => False⟩
theorem bare_free {W : World} {c : Nat} (h : c < W.heap.size) : (bare W).free c := ⟨h, fun h => h, fun b hb => by cases hb⟩
theorem cells_mk {κ : Ctx} {cb : Nat} : ∀ {avs : List AV} {cs : List Value} {co : Nat}, VRels κ avs cs → (∀ j, j < cs.length → κ.w.cell? ⟨cb, co + j, none⟩ = cs[j]?) → CellsRel κ avs cb co
  | [], _, _, _, _ => by simp [CellsRel]
  | a :: avs, cs, co, h, hc => by
    simp only [VRels] at h
    obtain ⟨u, us, rfl, h1, h2⟩ := h
    simp only [CellsRel]
    refine ⟨⟨u, by simpa using hc 0 (by simp), h1⟩, cells_mk h2 fun j hj => ?_⟩
    have := hc (j + 1) (by simp; omega)
    rw [show co + 1 + j = co + (j + 1) by omega, this]
    simp
theorem elems_mk {κ : Ctx} {cb k : Nat} : ∀ (n : Nat) (F : Nat → List AV) (co : Nat), (∀ i, i < n → (F i).length = k ∧ CellsRel κ (F i) cb (co + i * k)) → ElemsRel κ k ((List.range n).map F) cb co
  | 0, _, _, _ => by simp [ElemsRel]
  | n + 1, F, co, h => by
    rw [List.range_succ_eq_map, List.map_cons, List.map_map]
    simp only [ElemsRel]
    have h0 := h 0 (by omega)
    refine ⟨h0.1, by simpa using h0.2, elems_mk n (F ∘ Nat.succ) (co + k) fun i hi => ?_⟩
    have := h (i + 1) (by omega)
    rw [show co + k + i * k = co + (i + 1) * k by rw [Nat.succ_mul]; omega]
    exact this
theorem allNoref_of : ∀ {es : List (List AV)}, (∀ x, x ∈ es → AV.norefs x = true) → allNoref es = true
  | [], _ => rfl
  | e :: es, h => by simp [allNoref, h e (by simp), allNoref_of (es := es) (fun x hx => h x (List.mem_cons_of_mem _ hx))]
theorem norefs_app : ∀ {a b : List AV}, AV.norefs a = true → AV.norefs b = true → AV.norefs (a ++ b) = true
  | [], _, _, h => h
  | x :: a, b, h, k => by
    simp only [AV.norefs, Bool.and_eq_true] at h
    simp [AV.norefs, h.1, norefs_app h.2 k]
section
variable {P : Program} {H : Type} {enc : TypeId × Value → H} {W : World} {held : Bool}
theorem goodFs_of {n k : Nat} (ih : ∀ (t : TypeId) (cs : List Value) (x : DataW H × List MemPlace), plainT P k t = true → DataW.trod enc P W 0 (fun _ => true) held n t cs = some x → ∃ avs, Good P t avs ∧ AV.norefs avs = true ∧ VRels (bare W) avs cs) {cs : List Value} :
    ∀ (fs : List Field) (o : Nat) (xs : List (DataW H × List MemPlace)), tiles P fs o cs.length = true → (fs.all fun f => plainT P k f.type) = true → xs.length = fs.length →
      (∀ (i : Nat) (f : Field), fs[i]? = some f → DataW.trod enc P W 0 (fun _ => true) held n f.type ((cs.drop f.offset).take (P.cellsOf f.type)) = xs[i]?) →
      ∃ avs, GoodFs P fs avs ∧ AV.norefs avs = true ∧ VRels (bare W) avs (cs.drop o)
  | [], o, xs, ht, _, _, _ => by
    simp only [tiles, beq_iff_eq] at ht
    refine ⟨[], .nil, rfl, ?_⟩
    rw [ht, List.drop_length]
    rfl
  | f :: fs, o, [], _, _, hl, _ => by simp at hl
  | f :: fs, o, x :: xs, ht, hp, hl, hx => by
    simp only [tiles, Bool.and_eq_true, beq_iff_eq] at ht
    simp only [List.all_cons, Bool.and_eq_true] at hp
    obtain ⟨a, g1, g2, g3⟩ := ih f.type _ x hp.1 (by simpa using hx 0 f (by simp))
    obtain ⟨b, h1, h2, h3⟩ := goodFs_of ih fs (o + P.cellsOf f.type) xs ht.2 hp.2 (by simpa using hl) (fun i g hg => by simpa using hx (i + 1) g (by simpa using hg))
    refine ⟨a ++ b, .cons g1 h1, norefs_app g2 h2, ?_⟩
    have e : cs.drop o = (cs.drop f.offset).take (P.cellsOf f.type) ++ cs.drop (o + P.cellsOf f.type) := by
      rw [ht.1, ← List.drop_drop, List.take_append_drop]
    rw [e]
    exact VRels.append g3 h3
theorem good_of_trod : ∀ (m : Nat) (fuel : Nat) (t : TypeId) (cs : List Value) (x : DataW H × List MemPlace), plainT P m t = true → DataW.trod enc P W 0 (fun _ => true) held fuel t cs = some x →
    ∃ avs, Good P t avs ∧ AV.norefs avs = true ∧ VRels (bare W) avs cs
  | 0, _, _, _, _, hp, _ => by simp [plainT] at hp
  | m + 1, fuel, t, cs, x, hp, h => by
    have hlt := DataW.trod_lt _ _ _ _ h
    unfold plainT at hp
    split at hp
    · rename_i hu
      obtain ⟨b, rfl, _⟩ := DataW.trod_bool hu h
      exact ⟨[.bool b], .bool b hu, rfl, by simp [VRels, VRel]⟩
    · rename_i k hu
      obtain ⟨n, rfl, _, hw⟩ := DataW.trod_int hu h
      exact ⟨[.int k n], .int n hu hw, rfl, by simp [VRels, VRel]⟩
    · rename_i hu
      obtain ⟨s, rfl, _, hs⟩ := DataW.trod_string hu h
      exact ⟨[.str s], .str s hu hs, rfl, by simp [VRels, VRel]⟩
    · rename_i e hu
      simp only [Bool.and_eq_true, decide_eq_true_eq] at hp
      obtain ⟨hk, hpe⟩ := hp
      rcases Go.Deep.open_slice hu h with ⟨rfl, _⟩ | ⟨a, len, cap, m', n, D, Pl, rfl, hb, hl, hm, hm', rfl, hx⟩
      · exact ⟨[.sl false (P.cellsOf e) []], .slice [] hu (by simp) (by simp), rfl, by
          simp only [VRels]
          exact ⟨_, [], rfl, ⟨0, 0, none, 0, rfl, by simp, by simp, by simp, by simp, rfl, by simp [ElemsRel]⟩, rfl⟩⟩
      · simp only [if_true] at hm'
        obtain ⟨E, hE⟩ := Go.Deep.choose_lt (α := List AV) (n := len) (p := fun i avs => Good P e avs ∧ AV.norefs avs = true ∧ ∃ cs', W.cells? 0 (a.add (i * P.cellsOf e)) (P.cellsOf e) = some cs' ∧ VRels (bare W) avs cs') (fun i hi => by
          obtain ⟨cs', h1, h2⟩ := hx i (by omega)
          obtain ⟨avs, g1, g2, g3⟩ := good_of_trod m n e cs' _ hpe h2
          exact ⟨avs, g1, g2, cs', h1, g3⟩)
        have mem : ∀ x, x ∈ (List.range len).map E → ∃ i, i < len ∧ x = E i := fun x hx => by
          obtain ⟨i, h1, h2⟩ := List.mem_map.1 hx
          exact ⟨i, by simpa using h1, h2.symm⟩
        have hno : allNoref ((List.range len).map E) = true := allNoref_of fun x hx => by
          obtain ⟨i, h1, rfl⟩ := mem x hx
          exact (hE i h1).2.1
        refine ⟨[.sl false (P.cellsOf e) ((List.range len).map E)], .slice _ hu (by simp; omega) (fun x hx => ?_), rfl, ?_⟩
        · obtain ⟨i, h1, rfl⟩ := mem x hx
          exact (hE i h1).1
        simp only [VRels]
        refine ⟨_, [], rfl, ?_, rfl⟩
        simp only [VRel, List.length_map, List.length_range]
        by_cases h0 : len = 0
        · subst h0
          exact ⟨0, 0, some a, cap, rfl, hl, by simp, by simp, by simp, hno, by simp [ElemsRel]⟩
        · have hspot : a.spot = none := by
            obtain ⟨_, _, cs', h1, _⟩ := hE 0 (by omega)
            obtain ⟨_, h2, h3⟩ := World.cells?_some h1
            have := h3 0 hk
            rw [List.getElem?_eq_getElem (by omega)] at this
            have := World.cell?_spot this
            simpa [Addr.add] using this
          obtain ⟨cb, co, spot⟩ := a
          subst hspot
          have add_eq : ∀ co i, (⟨cb, co, none⟩ : Addr).add i = ⟨cb, co + i, none⟩ := fun co i => by
            unfold Addr.add
            split
            · rename_i hi; subst hi; rfl
            · rfl
          have hcb : cb < W.heap.size := hlt (.cell cb (co + 0)) (by
            refine List.mem_append_left _ ?_
            simp only [MemPlace.row, List.mem_map, List.mem_range]
            exact ⟨0, Nat.mul_pos (by omega) hk, rfl⟩)
          refine ⟨cb, co, some ⟨cb, co, none⟩, cap, rfl, hl, by simp, fun _ => ⟨rfl, bare_free hcb⟩, by simp, hno, elems_mk len E co fun i hi => ?_⟩
          obtain ⟨_, _, cs', h1, h2⟩ := hE i hi
          obtain ⟨_, h3, h4⟩ := World.cells?_some h1
          refine ⟨by rw [← VRels.length h2, h3], cells_mk h2.toPure fun j hj => ?_⟩
          have := h4 j (by omega)
          rw [add_eq, add_eq] at this
          exact this
    · rename_i fs hu
      simp only [Bool.and_eq_true] at hp
      obtain ⟨xs, n, rfl, rfl, hcs, hl, hx⟩ := DataW.trod_struct hu h
      obtain ⟨avs, h1, h2, h3⟩ := goodFs_of (fun t cs x => good_of_trod m n t cs x) fs.toList 0 xs (by rw [hcs]; exact hp.1) hp.2 (by simpa using hl) (fun i f hf => hx i f (by simpa using hf))
      exact ⟨avs, .struct hu h1, h2, by simpa using h3⟩
    · cases hp
/-- An argument of type t, as a tree. -/
def GoodV (P : Program) (t : TypeId) (a : AV) : Prop := match P.underlying t with
  | some (.struct _) => ∃ cs, a = .agg cs ∧ Good P t cs
  | _ => Good P t [a]
def GoodAs (P : Program) : List TypeId → List AV → Prop
  | [], as => as = []
  | t :: ts, as => ∃ a as', as = a :: as' ∧ GoodV P t a ∧ GoodAs P ts as'
theorem goodV_of {m base : Nat} {t : TypeId} {v : Value} {d : DataW H} {p : List MemPlace} (hp : plainT P m t = true) (ho : Value.okWide P W .any base t v) (h : DataW.Trod enc P W 0 (fun _ => true) held t v d p) :
    ∃ a, GoodV P t a ∧ VRel (bare W) a v := by
  obtain ⟨fuel, h⟩ := h
  obtain ⟨avs, h1, h2, h3⟩ := good_of_trod m fuel t _ _ hp h
  cases m with
  | zero => simp [plainT] at hp
  | succ m =>
  unfold plainT at hp
  split at hp
  · rename_i hu
    obtain ⟨b, rfl⟩ := okWide_bool hu ho
    obtain ⟨c, rfl⟩ := h1.bool_inv hu
    simp only [Value.cells, VRels] at h3
    obtain ⟨u, us, e, h4, _⟩ := h3
    simp at e
    obtain ⟨rfl, rfl⟩ := e
    exact ⟨_, by simp only [GoodV, hu]; exact h1, h4⟩
  · rename_i k hu
    obtain ⟨b, rfl⟩ := okWide_int hu ho
    obtain ⟨c, rfl, _⟩ := h1.int_inv hu
    simp only [Value.cells, VRels] at h3
    obtain ⟨u, us, e, h4, _⟩ := h3
    simp at e
    obtain ⟨rfl, rfl⟩ := e
    exact ⟨_, by simp only [GoodV, hu]; exact h1, h4⟩
  · rename_i hu
    obtain ⟨b, rfl⟩ := okWide_string hu ho
    obtain ⟨c, rfl, _⟩ := h1.str_inv hu
    simp only [Value.cells, VRels] at h3
    obtain ⟨u, us, e, h4, _⟩ := h3
    simp at e
    obtain ⟨rfl, rfl⟩ := e
    exact ⟨_, by simp only [GoodV, hu]; exact h1, h4⟩
  · rename_i e hu
    obtain ⟨a, len, cap, rfl⟩ := okWide_slice hu ho
    obtain ⟨es, rfl, _⟩ := h1.slice_inv hu
    simp only [Value.cells, VRels] at h3
    obtain ⟨u, us, e, h4, _⟩ := h3
    simp at e
    obtain ⟨rfl, rfl⟩ := e
    exact ⟨_, by simp only [GoodV, hu]; exact h1, h4⟩
  · rename_i fs hu
    obtain ⟨us, rfl, _⟩ := okWide_struct hu ho
    exact ⟨.agg avs, by simp only [GoodV, hu]; exact ⟨avs, rfl, h1⟩, by simp only [VRel]; exact ⟨us, rfl, by simpa [Value.cells] using h3⟩⟩
  · cases hp
theorem goodAs_of {m base : Nat} : ∀ (ts : List TypeId) (vs : List Value) (ds : List (DataW H)) (ps : List MemPlace), (ts.all fun t => plainT P m t) = true →
    (∀ (j : Nat) t v, ts[j]? = some t → vs[j]? = some v → Value.okWide P W .any base t v) → DataW.TrodAll enc P W 0 (fun _ => true) held ts vs ds ps → ∃ as, GoodAs P ts as ∧ VRels (bare W) as vs
  | [], vs, ds, ps, _, _, h => by
    obtain ⟨rfl, _, _⟩ := trodAll_nil h
    exact ⟨[], rfl, rfl⟩
  | t :: ts, vs, ds, ps, hp, ho, h => by
    obtain ⟨v, vs', d, ds', p, q, rfl, rfl, rfl, h1, h2⟩ := trodAll_cons h
    simp only [List.all_cons, Bool.and_eq_true] at hp
    obtain ⟨a, g1, g2⟩ := goodV_of hp.1 (ho 0 t v (by simp) (by simp)) h1
    obtain ⟨as, g3, g4⟩ := goodAs_of ts vs' ds' q hp.2 (fun j t v h1 h2 => ho (j + 1) t v (by simpa using h1) (by simpa using h2)) h2
    exact ⟨a :: as, ⟨a, as, rfl, g1, g3⟩, by simp only [VRels]; exact ⟨v, vs', rfl, g2, g4⟩⟩
theorem trodAll_below (hl : laidOutB P = true) {W' : World} (hb : Below W.heap.size W W') : ∀ (ts : List TypeId) (vs : List Value) (ds : List (DataW H)) (ps : List MemPlace), (ts.all fun t => P.readableRec t && decide (t < P.types.size)) = true →
    DataW.TrodAll enc P W 0 (fun _ => true) true ts vs ds ps → DataW.TrodAll enc P W' 0 (fun b => decide (b < W.heap.size)) true ts vs ds ps
  | [], vs, ds, ps, _, h => by
    obtain ⟨rfl, rfl, rfl⟩ := trodAll_nil h
    rfl
  | t :: ts, vs, ds, ps, hp, h => by
    obtain ⟨v, vs', d, ds', p, q, rfl, rfl, rfl, h1, h2⟩ := trodAll_cons h
    simp only [List.all_cons, Bool.and_eq_true, decide_eq_true_eq] at hp
    refine ⟨p, q, Below.trod hl hp.1.1 hp.1.2 h1 hb ?_, trodAll_below hl hb ts vs' ds' q hp.2 h2, rfl⟩
    obtain ⟨fuel, h1⟩ := h1
    exact DataW.trod_lt _ _ _ _ h1
end
/-- The types of a struct's fields. -/
def fieldTs (P : Program) (t : TypeId) : Option (List TypeId) := match P.underlying t with
  | some (.struct fs) => some (fs.toList.map (·.type))
  | _ => none
def GoodTs (P : Program) : List TypeId → List AV → Prop
  | [], cs => cs = []
  | t :: ts, cs => ∃ a b, cs = a ++ b ∧ Good P t a ∧ GoodTs P ts b
theorem GoodFs.types {P : Program} : ∀ {fs : List Field} {cs : List AV}, GoodFs P fs cs → GoodTs P (fs.map (·.type)) cs
  | [], _, h => h.nil_inv
  | _ :: _, _, h => by
    obtain ⟨a, b, rfl, h1, h2⟩ := h.cons_inv
    exact ⟨a, b, rfl, h1, h2.types⟩
theorem Good.fields {P : Program} {t : TypeId} {ts : List TypeId} {cs : List AV} (h : Good P t cs) (hf : fieldTs P t = some ts) : GoodTs P ts cs := by
  unfold fieldTs at hf
  split at hf
  · rename_i fs hu
    cases hf
    exact (h.struct_inv hu).types
  · cases hf
theorem GoodV.struct {P : Program} {t : TypeId} {ts : List TypeId} {a : AV} (h : GoodV P t a) (hf : fieldTs P t = some ts) : ∃ cs, a = .agg cs ∧ GoodTs P ts cs := by
  have hf' := hf
  unfold fieldTs at hf
  unfold GoodV at h
  split at hf
  · rename_i fs hu
    rw [hu] at h
    obtain ⟨cs, h1, h2⟩ := h
    exact ⟨cs, h1, h2.fields hf'⟩
  · cases hf
theorem GoodV.one {P : Program} {t : TypeId} {a : AV} (h : GoodV P t a) (hf : fieldTs P t = none) : Good P t [a] := by
  unfold fieldTs at hf
  unfold GoodV at h
  split at hf
  · cases hf
  · rename_i hn
    split at h
    · rename_i fs hu
      exact (hn fs hu).elim
    · exact h
/-- A function of trees, called from outside. -/
theorem PureF.top {P : Program} {f : FuncId} {as : List AV} {v : AV} (h : PureF P f as v) {us : Array Value} {W : World} (hv : VRels (bare W) as us.toList) :
    Calls P f us W fun e w' => ∃ u, e = .returned u ∧ Below W.heap.size W w' ∧ VRel (bare w').pure v u := by
  refine (h.2.2 (bare W) us hv ⟨fun b d hd => (by simp [H.get] at hd), fun b c hc => (by cases hc), fun b b' c hc => (by cases hc), fun c hc => hc.elim⟩).mono ?_
  rintro e w' ⟨κ', v', u, σ', rfl, rfl, hs, hh, hr, rfl⟩
  refine ⟨u, rfl, ⟨hs.os, hs.tape, hs.output, hs.size, fun k hk => hs.keep k hk fun b hb => by cases hb⟩, ?_⟩
  refine VRel.le (κ := κ') (κ' := (bare κ'.w).pure) ⟨fun c hc => ⟨?_, rfl⟩, fun _ => Nat.le_refl _⟩ v' u (ids_noref h.1) hr
  obtain ⟨h1, h2, h3⟩ := hc
  exact Ctx.free_pure.2 ⟨h1, fun h => h, fun b hb => (by cases hb)⟩
end Go.Proofs.Hz
