/- append. -/
import Derived.Test.YtjnokbkabekkkaaGreatHzMake
import Derived.Laws.AppendOwn
set_option linter.all false
namespace Go.Proofs.Hz
open Go

/-- A block is forgotten. -/
theorem drop_block {κ : Ctx} {N : Nat} {ρ : Env} {σ : H} {a : Act} (hs : SRel κ N ρ σ a) (b : Nat) :
    let κ' : Ctx := { κ with O := fun x => if x = b then none else κ.O x }
    Step κ κ' ∧ SRel κ' N ρ (σ.del b) a := by
  intro κ'
  have own : ∀ x c, κ'.O x = some c → κ.O x = some c ∧ x ≠ b := fun x c h => by
    simp only [κ'] at h
    split at h
    · cases h
    · rename_i e; exact ⟨h, e⟩
  have step : Step κ κ' := ⟨rfl, Nat.le_refl _, fun _ _ _ => rfl, fun _ => Nat.le_refl _, fun x c h => .inl ⟨x, (own x c h).1⟩, rfl, rfl, rfl, fun x _ => by
    simp only [κ']
    by_cases e : x = b
    · left; rw [if_pos e]
    · right; rw [if_neg e]⟩
  have ids : ∀ m, Ids κ κ' m := fun m x _ => by
    simp only [κ']
    by_cases e : x = b
    · left; rw [if_pos e]
    · right; rw [if_neg e]
  refine ⟨step, hs.size, hs.defers, fun t v hv => ?_, ?_⟩
  · obtain ⟨u, h1, h2⟩ := hs.env t v hv
    exact ⟨u, h1, VRel.le step.le v u (ids _) h2⟩
  · refine ⟨fun x d hd => ?_, fun x c h => ?_, fun x y c h1 h2 => hs.heap.inj x y c (own x c h1).1 (own y c h2).1, hs.heap.xlt⟩
    · by_cases e : x = b
      · subst e; rw [H.get_del_same] at hd; cases hd
      · rw [H.get_del_ne _ e] at hd
        obtain ⟨c, g1, g2⟩ := hs.heap.blk x d hd
        exact ⟨c, by simp only [κ']; rw [if_neg e]; exact g1, BRel.le step.le (ids _) rfl g2⟩
    · obtain ⟨h1, h2⟩ := own x c h
      obtain ⟨g1, g2, g3⟩ := hs.heap.dom x c h1
      exact ⟨by rw [H.get_del_ne _ h2]; exact g1, g2, g3⟩
/-- A block gets another name. -/
theorem rename_block {κ : Ctx} {N : Nat} {ρ : Env} {σ : H} {a : Act} (hs : SRel κ N ρ σ a) {b b2 c : Nat} {d : Blk} (hd : σ.get b = some d) (hO : κ.O b = some c) (hf : Fresh b2 ρ σ) :
    let κ' : Ctx := { κ with O := fun x => if x = b2 then some c else if x = b then none else κ.O x }
    Step κ κ' ∧ SRel κ' N ρ ((b2, d) :: σ.del b) a ∧ κ'.O b2 = some c := by
  intro κ'
  have hne : b2 ≠ b := fun e => by subst e; rw [hf.get] at hd; cases hd
  have own : ∀ x c', κ'.O x = some c' → (x = b2 ∧ c' = c) ∨ (κ.O x = some c' ∧ x ≠ b ∧ x ≠ b2) := fun x c' h => by
    simp only [κ'] at h
    split at h
    · rename_i e; cases h; exact .inl ⟨e, rfl⟩
    · rename_i e
      split at h
      · cases h
      · rename_i e2; exact .inr ⟨h, e2, e⟩
  have step : Step κ κ' := ⟨rfl, Nat.le_refl _, fun _ _ _ => rfl, fun _ => Nat.le_refl _, fun x c' h => by
    rcases own x c' h with ⟨_, rfl⟩ | ⟨h1, _⟩
    · exact .inl ⟨b, hO⟩
    · exact .inl ⟨x, h1⟩, rfl, rfl, rfl, fun x hx => by
    simp only [κ']
    rw [if_neg (by rintro rfl; rw [hf.unp] at hx; cases hx)]
    by_cases e : x = b
    · left; rw [if_pos e]
    · right; rw [if_neg e]⟩
  have ids : ∀ m : Nat → Bool, m b2 = false → Ids κ κ' m := fun m hm x hx => by
    have hx2 : x ≠ b2 := by intro e; subst e; simp [hm] at hx
    simp only [κ']
    rw [if_neg hx2]
    by_cases e : x = b
    · left; rw [if_pos e]
    · right; rw [if_neg e]
  refine ⟨step, ⟨hs.size, hs.defers, fun t v hv => ?_, ?_⟩, by simp [κ']⟩
  · obtain ⟨u, h1, h2⟩ := hs.env t v hv
    exact ⟨u, h1, VRel.le step.le v u (ids _ (Env.men_get hf.env hv)) h2⟩
  · refine ⟨fun x d' hd' => ?_, fun x c' h => ?_, fun x y c' h1 h2 => ?_, hs.heap.xlt⟩
    · simp only [H.get] at hd'
      split at hd'
      · rename_i e; subst e; cases hd'
        obtain ⟨c', g1, g2⟩ := hs.heap.blk b _ hd
        rw [hO] at g1; cases g1
        exact ⟨c, by simp [κ'], BRel.le step.le (ids _ (H.men_get hf.men hd)) rfl g2⟩
      · rename_i e
        by_cases e2 : x = b
        · subst e2; rw [H.get_del_same] at hd'; cases hd'
        · rw [H.get_del_ne _ e2] at hd'
          obtain ⟨c', g1, g2⟩ := hs.heap.blk x d' hd'
          exact ⟨c', by simp only [κ']; rw [if_neg e, if_neg e2]; exact g1, BRel.le step.le (ids _ (H.men_get hf.men hd')) rfl g2⟩
    · rcases own x c' h with ⟨rfl, rfl⟩ | ⟨h1, h2, h3⟩
      · obtain ⟨g1, g2, g3⟩ := hs.heap.dom b _ hO
        exact ⟨by simp [H.get], g2, g3⟩
      · obtain ⟨g1, g2, g3⟩ := hs.heap.dom x c' h1
        exact ⟨by simp only [H.get]; rw [if_neg h3, H.get_del_ne _ h2]; exact g1, g2, g3⟩
    · rcases own x c' h1 with ⟨rfl, rfl⟩ | ⟨k1, k2, k3⟩ <;> rcases own y c' h2 with ⟨rfl, e⟩ | ⟨l1, l2, l3⟩
      · rfl
      · exact absurd (hs.heap.inj y b _ l1 hO) l2
      · subst e; exact absurd (hs.heap.inj x b _ k1 hO) k2
      · exact hs.heap.inj x y c' k1 l1
theorem drew_step {κ : Ctx} {N : Nat} {ρ : Env} {σ : H} {a : Act} (hs : SRel κ N ρ σ a) :
    Step κ { κ with w := κ.w.drew } ∧ SRel { κ with w := κ.w.drew } N ρ σ a := by
  have step : Step κ { κ with w := κ.w.drew } := ⟨rfl, Nat.le_refl _, fun _ _ _ => rfl, fun _ => Nat.le_refl _, fun b c h => .inl ⟨b, h⟩, rfl, rfl, rfl, fun _ _ => .inr rfl⟩
  have ids : ∀ m, Ids κ { κ with w := κ.w.drew } m := fun m x _ => .inr rfl
  refine ⟨step, hs.size, hs.defers, fun t v hv => ?_, ?_⟩
  · obtain ⟨u, h1, h2⟩ := hs.env t v hv
    exact ⟨u, h1, VRel.le step.le v u (ids _) h2⟩
  · exact ⟨fun x d hd => by
      obtain ⟨c, g1, g2⟩ := hs.heap.blk x d hd
      exact ⟨c, g1, BRel.le step.le (ids _) rfl g2⟩, hs.heap.dom, hs.heap.inj, hs.heap.xlt⟩

/-- A slice type's element: its cells and bytes. -/
def apL (P : Program) (t : TypeId) : Option (Nat × Nat) :=
  match P.underlying t with
  | some (.slice e) => match P.info? e with
    | some i => match i.zero with
      | some z => if z.cells.size = i.size ∧ 0 < i.size then some (i.size, i.bytes) else none
      | none => none
    | none => none
  | _ => none
theorem apL_spec {P : Program} {t : TypeId} {k by_ : Nat} (h : apL P t = some (k, by_)) :
    ∃ e i z, P.underlying t = some (.slice e) ∧ P.info? e = some i ∧ i.zero = some z ∧ z.cells.size = i.size ∧ 0 < i.size ∧ i.size = k ∧ i.bytes = by_ := by
  unfold apL at h
  split at h
  · rename_i e he
    split at h
    · rename_i i hi
      split at h
      · rename_i z hz
        split at h
        · rename_i hc
          simp only [Option.some.injEq, Prod.mk.injEq] at h
          exact ⟨e, i, z, he, hi, hz, hc.1, hc.2, h.1, h.2⟩
        · cases h
      · cases h
    · cases h
  · cases h
/-- The elements of a slice, as cells. -/
def aelems (k : Nat) (σ : H) : AV → Option (Nat × List AV)
  | .sl _ k' es => if k' = k then some (es.length, es.flatten) else none
  | .rs b off n k' => if k' = k then match σ.get b with
    | some (.cells cs) => if off + n * k ≤ cs.length then some (n, (cs.drop off).take (n * k)) else none
    | _ => none else none
  | .nils => some (0, [])
  | _ => none
theorem elems_flatten {κ : Ctx} {k : Nat} : ∀ {es : List (List AV)} {cb co : Nat}, ElemsRel κ k es cb co → CellsRel κ es.flatten cb co ∧ es.flatten.length = es.length * k
  | [], _, _, _ => by simp [CellsRel]
  | e :: es, cb, co, h => by
    simp only [ElemsRel] at h
    obtain ⟨h1, h2, h3⟩ := h
    obtain ⟨g1, g2⟩ := elems_flatten h3
    refine ⟨?_, by simp [h1, g2, Nat.add_mul, Nat.add_comm]⟩
    refine CellsRel.of_get fun i v hv => ?_
    simp only [List.flatten_cons] at hv
    by_cases hi : i < k
    · rw [List.getElem?_append_left (by omega)] at hv
      exact CellsRel.get h2 hv
    · rw [List.getElem?_append_right (by omega), h1] at hv
      obtain ⟨u, k1, k2⟩ := CellsRel.get g1 hv
      rw [show co + k + (i - k) = co + i by omega] at k1
      exact ⟨u, k1, k2⟩
theorem CellsRel.vals {κ : Ctx} : ∀ {cs : List AV} {cb co : Nat}, CellsRel κ cs cb co → ∃ us, VRels κ cs us ∧ (∀ (j : Nat) (u : Value), us[j]? = some u → κ.w.cell? ⟨cb, co + j, none⟩ = some u)
  | [], _, _, _ => ⟨[], by simp [VRels], by simp⟩
  | c :: cs, cb, co, h => by
    simp only [CellsRel] at h
    obtain ⟨⟨u, h1, h2⟩, h3⟩ := h
    obtain ⟨us, g1, g2⟩ := CellsRel.vals h3
    refine ⟨u :: us, by simp only [VRels]; exact ⟨u, us, rfl, h2, g1⟩, fun j x hx => ?_⟩
    cases j with
    | zero => simp at hx; subst hx; exact h1
    | succ j =>
      simp at hx
      have := g2 j x hx
      rwa [show co + 1 + j = co + (j + 1) by omega] at this
theorem norefs_append : ∀ {xs ys : List AV}, AV.norefs xs = true → AV.norefs ys = true → AV.norefs (xs ++ ys) = true
  | [], _, _, h => h
  | x :: xs, ys, h, k => by
    simp only [AV.norefs, Bool.and_eq_true] at h
    simp [AV.norefs, h.1, norefs_append h.2 k]
theorem norefs_flatten : ∀ {es : List (List AV)}, allNoref es = true → AV.norefs es.flatten = true
  | [], _ => rfl
  | e :: es, h => by
    simp only [allNoref, Bool.and_eq_true] at h
    exact norefs_append h.1 (norefs_flatten h.2)
theorem aelems_spec {κ : Ctx} {σ : H} (hh : HRel κ σ) {k m : Nat} {x : AV} {u : Value} {cs : List AV} (hx : VRel κ x u) (h : aelems k σ x = some (m, cs)) :
    ∃ xa cap us, u = .slice xa m cap ∧ VRels κ cs us ∧ us.length = m * k ∧ (m ≠ 0 → ∃ cb co, xa = some ⟨cb, co, none⟩ ∧ ∀ (j : Nat) (y : Value), us[j]? = some y → κ.w.cell? ⟨cb, co + j, none⟩ = some y) := by
  unfold aelems at h
  split at h
  · rename_i nn k' es
    split at h
    · rename_i e; subst e
      simp only [Option.some.injEq, Prod.mk.injEq] at h
      obtain ⟨rfl, rfl⟩ := h
      simp only [VRel] at hx
      obtain ⟨cb, co, a, cap, rfl, g1, g2, g3, g4, g5, g6⟩ := hx
      obtain ⟨q1, q2⟩ := elems_flatten g6
      obtain ⟨us, r1, r2⟩ := CellsRel.vals q1
      exact ⟨a, cap, us, rfl, VRels.unpure (norefs_flatten g5) r1, by rw [VRels.length r1, q2], fun hm => ⟨cb, co, (g3 hm).1, r2⟩⟩
    · cases h
  · rename_i b off n k'
    split at h
    · rename_i e; subst e
      split at h
      · rename_i cs' hb
        split at h
        · rename_i hle
          simp only [Option.some.injEq, Prod.mk.injEq] at h
          obtain ⟨rfl, rfl⟩ := h
          obtain ⟨c, hO, arr, elem, hw, hC⟩ := hh.blk b _ hb
          simp only [VRel] at hx
          obtain ⟨a, cap, rfl, g1, g2⟩ := hx c hO
          obtain ⟨us, r1, r2⟩ := CellsRel.vals (CellsRel.take (n * k') (CellsRel.drop off hC))
          refine ⟨some a, cap, us, rfl, r1, by rw [VRels.length r1]; simp; omega, fun hm => ?_⟩
          obtain ⟨rfl, _⟩ := g2.resolve_left (by omega)
          exact ⟨c, off, rfl, fun j y hy => by have := r2 j y hy; rwa [Nat.zero_add] at this⟩
        · cases h
      · cases h
    · cases h
  · simp only [Option.some.injEq, Prod.mk.injEq] at h
    obtain ⟨rfl, rfl⟩ := h
    simp only [VRel] at hx; subst hx
    exact ⟨none, 0, [], rfl, by simp [VRels], by simp, by simp⟩
  · cases h
theorem run_append_zero {P : Program} {w : World} {t ty e : TypeId} {i : TypeInfo} (ht : P.underlying t = some (.slice e)) (hi : P.info? e = some i) (s : Option Addr) (n cap : Nat) (hn : n ≤ cap) (xa : Option Addr) (c : Nat) :
    (Builtin.append_ #[t, t] ty #[.slice s n cap, .slice xa 0 c]).run P w = .ok (.slice s n cap) w := by
  cases s <;> cases xa <;> simp [Builtin.append_, run_underlying ht, sizeOf, typeInfo, hi, Builtin.lenOf, Builtin.firstCells, loadCells, loadCellsFrom, hn, storeCells]

theorem run_append_room' {P : Program} {w : World} {t ty e elem : TypeId} {i : TypeInfo} (ht : P.underlying t = some (.slice e)) (hi : P.info? e = some i)
    {g sLen sCap : Nat} {cur : Array Value} (hg : w.heap[g]? = some (.cells cur elem (0, 0)))
    {a : Addr} {m c : Nat} {news : List Value} (hl : news.length = m * i.size) (hnews : ∀ (j : Nat) (u : Value), news[j]? = some u → w.cell? (a.add j) = some u) (h1 : ∀ u ∈ news, u.oneCell' = true)
    (hroom : sLen + m ≤ sCap) (hfit : sLen * i.size + news.length ≤ cur.size) :
    (Builtin.append_ #[t, t] ty #[.slice (some ⟨g, 0, none⟩) sLen sCap, .slice (some a) m c]).run P w =
      .ok (.slice (some ⟨g, 0, none⟩) (sLen + m) sCap) (wput w g (splice cur (sLen * i.size) news) elem) := by
  have hf := run_firstCells_some (P := P) w i.size m a m c news hl hnews
  have hst := run_storeCells (P := P) (o := sLen * i.size) news 0 w cur hg (by simpa using hfit) (fun u hu => by have := h1 u hu; cases u <;> first | rfl | simp [Value.oneCell'] at this)
  simp only [Nat.add_zero] at hst
  simp [Builtin.append_, run_underlying ht, sizeOf, typeInfo, hi, Builtin.lenOf, hroom, hf, addr_add, hst]
/-- append(s, x...), the new slice's block under the name b2. -/
def aappend (k by_ : Nat) (σ : H) (s x : AV) (b2 : Nat) : Option (AV × H) :=
  match aelems k σ x with
  | none => none
  | some (m, news) => if solids σ news = true then
    match s with
    | .nils => if m = 0 then some (.nils, σ) else if m * by_ ≤ 140737488355328 ∧ m < 9223372036854775807 then some (.rs b2 0 m k, (b2, .cells news) :: σ) else none
    | .rs b 0 n k' => if k' = k then match σ.get b with
      | some (.cells cs) => if cs.length = n * k ∧ (n + m) * by_ ≤ 140737488355328 ∧ n + m < 9223372036854775807 then some (.rs b2 0 (n + m) k, (b2, .cells (cs ++ news)) :: σ.del b) else none
      | _ => none else none
    | _ => none
    else none
theorem mens_append (b : Nat) : ∀ (l1 l2 : List AV), AV.mens b (l1 ++ l2) = (AV.mens b l1 || AV.mens b l2)
  | [], l2 => by simp [AV.mens]
  | y :: l1, l2 => by simp [AV.mens, mens_append b l1 l2, Bool.or_assoc]
theorem H.men_set {σ : H} {b b2 : Nat} {d : Blk} (h : σ.men b2 = false) (hd : d.men b2 = false) : (σ.set b d).men b2 = false := by
  induction σ with
  | nil => simp [H.set, H.men, hd]
  | cons p σ ih =>
    obtain ⟨b', d'⟩ := p
    simp only [H.men, Bool.or_eq_false_iff] at h
    simp only [H.set]
    split
    · simp [H.men, hd, h.2]
    · simp [H.men, h.1, ih h.2]
theorem H.del_set (σ : H) (b : Nat) (d : Blk) : (σ.set b d).del b = σ.del b := by
  induction σ with
  | nil => simp [H.set, H.del]
  | cons p σ ih =>
    obtain ⟨b', d'⟩ := p
    simp only [H.set]
    split
    · rename_i e; subst e; simp [H.del]
    · rename_i e; simp [H.del, e, ih]
theorem oneCell_eq (u : Value) : u.oneCell' = oneCell u := by cases u <;> rfl
theorem run_aappend {P : Program} {κ : Ctx} {N : Nat} {ρ : Env} {σ σ' : H} {a : Act} {t ty : TypeId} {k by_ b2 : Nat} {s x v : AV} {us ux : Value} (ht : apL P t = some (k, by_)) (hs : SRel κ N ρ σ a)
    (h1 : VRel κ s us) (h2 : VRel κ x ux) (hf : Fresh b2 ρ σ) (h : aappend k by_ σ s x b2 = some (v, σ')) :
    ∃ κ' y, (Builtin.append_ #[t, t] ty #[us, ux]).run P κ.w = .ok y κ'.w ∧ VRel κ' v y ∧ Step κ κ' ∧ SRel κ' N ρ σ' a := by
  obtain ⟨e, i, z, hu, hi, hz, hzs, hpos, rfl, rfl⟩ := apL_spec ht
  unfold aappend at h
  split at h
  · cases h
  · rename_i m news hx
    split at h
    · rename_i hsol
      obtain ⟨xa, xc, nv, rfl, hnv, hnl, hcell⟩ := aelems_spec hs.heap h2 hx
      have hone : ∀ u ∈ nv, u.oneCell' = true := fun u hu => by rw [oneCell_eq]; exact solids_one hs.heap hsol hnv u hu
      have hnews : m ≠ 0 → ∃ ad, xa = some ad ∧ ∀ (j : Nat) (u : Value), nv[j]? = some u → κ.w.cell? (ad.add j) = some u := fun hm => by
        obtain ⟨cb, co, rfl, g⟩ := hcell hm
        exact ⟨_, rfl, fun j u hu => by rw [addr_add]; exact g j u hu⟩
      have menN : AV.mens b2 news = false := by
        unfold aelems at hx
        split at hx
        · split at hx
          · simp only [Option.some.injEq, Prod.mk.injEq] at hx
            obtain ⟨_, rfl⟩ := hx
            simp only [VRel] at h2
            obtain ⟨cb, co, a', cap', _, _, _, _, _, g5, _⟩ := h2
            exact AV.mens_of_norefs _ _ (norefs_flatten g5)
          · cases hx
        · rename_i b off n k'
          split at hx
          · split at hx
            · rename_i cs' hb
              split at hx
              · simp only [Option.some.injEq, Prod.mk.injEq] at hx
                obtain ⟨_, rfl⟩ := hx
                have := H.men_get hf.men hb
                simp only [Blk.men] at this
                have sub : ∀ (l1 l2 : List AV), AV.mens b2 (l1 ++ l2) = false → AV.mens b2 l1 = false ∧ AV.mens b2 l2 = false := by
                  intro l1 l2
                  induction l1 with
                  | nil => intro h; exact ⟨rfl, h⟩
                  | cons y l1 ih =>
                    intro h
                    simp only [List.cons_append, AV.mens, Bool.or_eq_false_iff] at h ⊢
                    obtain ⟨q1, q2⟩ := ih h.2
                    exact ⟨⟨h.1, q1⟩, q2⟩
                rw [← List.take_append_drop off cs'] at this
                have t2 := (sub _ _ this).2
                rw [← List.take_append_drop (n * i.size) (List.drop off cs')] at t2
                exact (sub _ _ t2).1
              · cases hx
            · cases hx
          · cases hx
        · simp only [Option.some.injEq, Prod.mk.injEq] at hx
          obtain ⟨_, rfl⟩ := hx; rfl
        · cases hx
      split at h
      · -- nil
        simp only [VRel] at h1; subst h1
        split at h
        · rename_i hm; subst hm
          simp only [Option.some.injEq, Prod.mk.injEq] at h
          obtain ⟨rfl, rfl⟩ := h
          exact ⟨κ, _, run_append_zero hu hi none 0 0 (Nat.le_refl _) xa xc, by simp [VRel], .refl _, hs⟩
        · rename_i hm
          split at h
          · rename_i hb
            simp only [Option.some.injEq, Prod.mk.injEq] at h
            obtain ⟨rfl, rfl⟩ := h
            obtain ⟨ad, rfl, hn⟩ := hnews hm
            have hr := run_append_nil (P := P) κ.w t ty e i z hu hi hz ad m xc nv hnl hn (by omega) (by omega) (by omega)
            obtain ⟨d1, d2⟩ := drew_step hs
            obtain ⟨g1, g2, g3⟩ := new_cells d2 hf (nv.toArray ++ Builtin.zeroCells z.cells (grownCap κ.w m 0 e - m)) e menN
              (VRels.le d1.le _ _ (fun _ _ => .inr rfl) hnv) (fun j u hu => by
                rw [Array.getElem?_append_left (by simpa using (List.getElem?_eq_some_iff.1 hu).1)]; simpa using hu)
            refine ⟨_, _, hr, ?_, d1.trans g1, g2⟩
            simp only [VRel]
            intro c hc
            rw [g3] at hc; cases hc
            have hge := grownCap_ge κ.w m 0 e
            refine ⟨_, _, rfl, hge, .inr ⟨rfl, ?_⟩⟩
            simp only [bsize, Ctx.name, Array.getElem?_push_size]
            simp [Builtin.zeroCells, hnl, hzs, Nat.sub_mul]
            have : m * i.size ≤ grownCap κ.w m 0 e * i.size := Nat.mul_le_mul_right _ hge
            have e1 : κ.w.drew.heap.size = κ.w.heap.size := rfl
            omega
          · cases h
      · rename_i b n k'
        split at h
        · rename_i ek; subst ek
          split at h
          · rename_i cs hb
            split at h
            · rename_i hc
              obtain ⟨c1, c2, c3⟩ := hc
              simp only [Option.some.injEq, Prod.mk.injEq] at h
              obtain ⟨rfl, rfl⟩ := h
              obtain ⟨c, hO, arr, elem, hw, hC⟩ := hs.heap.blk b _ hb
              have hcl : c < κ.w.heap.size := (Array.getElem?_eq_some_iff.1 hw).1
              simp only [VRel] at h1
              obtain ⟨sa, cap, rfl, q1, q2⟩ := h1 c hO
              by_cases hm : m = 0
              · subst hm
                have hnil : nv = [] := List.eq_nil_of_length_eq_zero (by simpa using hnl)
                subst hnil
                have : news = [] := by have := VRels.length hnv; simpa using this.symm
                subst this
                obtain ⟨g1, g2, g3⟩ := rename_block hs hb hO hf
                refine ⟨{ κ with O := fun x => if x = b2 then some c else if x = b then none else κ.O x }, _, run_append_zero hu hi (some sa) n cap q1 xa xc, ?_, g1, by simpa using g2⟩
                simp only [VRel]
                intro c' hc'
                simp only [if_true, Option.some.injEq] at hc'; subst hc'
                exact ⟨sa, cap, rfl, q1, q2⟩
              · obtain ⟨ad, rfl, hn⟩ := hnews hm
                by_cases hroom : n + m ≤ cap
                · obtain ⟨rfl, q3⟩ := q2.resolve_left (by omega)
                  have hbs : bsize κ.w c = arr.size := by simp [bsize, hw]
                  have hmul : (n + m) * i.size ≤ cap * i.size := Nat.mul_le_mul_right _ hroom
                  rw [Nat.add_mul] at hmul
                  have hfit : n * i.size + nv.length ≤ arr.size := by omega
                  have hnvl := VRels.length hnv
                  have hr := run_append_room' (P := P) (ty := ty) (c := xc) hu hi hw hnl hn hone hroom hfit
                  have hsz := CellsRel.size hw hC
                  obtain ⟨g1, g2⟩ := set_cells hs (cs' := cs ++ news) (arr' := splice arr (n * i.size) nv) hb hO hw (by rw [splice_size hfit]; exact Nat.le_refl _) (by
                    intro κ' hw' hle hid
                    refine CellsRel.of_get fun j x hx => ?_
                    have hce : κ'.w.cell? ⟨c, 0 + j, none⟩ = (splice arr (n * i.size) nv)[j]? := by
                      simp only [World.cell?, hw', wput_get hcl, Option.isSome_none, Bool.false_eq_true, if_false, Nat.zero_add]
                    rw [hce, splice_get hfit]
                    by_cases hj : j < cs.length
                    · rw [List.getElem?_append_left hj] at hx
                      rw [if_pos (by omega)]
                      obtain ⟨u, k1, k2⟩ := CellsRel.get hC hx
                      simp only [World.cell?, hw, Option.isSome_none, Bool.false_eq_true, if_false, Nat.zero_add] at k1
                      exact ⟨u, k1, VRel.le hle _ _ (hid _) k2⟩
                    · rw [List.getElem?_append_right (by omega)] at hx
                      have := (List.getElem?_eq_some_iff.1 hx).1
                      rw [if_neg (by omega), if_pos (by omega), ← c1]
                      obtain ⟨u, k1, k2⟩ := VRels.get hnv hx
                      exact ⟨u, k1, VRel.le hle _ _ (hid _) k2⟩)
                  have hmen : AV.mens b2 (cs ++ news) = false := by
                    rw [mens_append, menN, Bool.or_false]
                    exact H.men_get hf.men hb
                  have hne : b2 ≠ b := fun e0 => by subst e0; rw [hf.get] at hb; cases hb
                  obtain ⟨k1, k2, k3⟩ := rename_block g2 (H.get_set_same _ _ _) hO (b2 := b2) ⟨by rw [H.get_set_ne _ _ hne]; exact hf.get, H.men_set hf.men hmen, hf.env, hf.unp⟩
                  rw [H.del_set] at k2
                  refine ⟨{ κ with w := wput κ.w c (splice arr (n * i.size) nv) elem, O := fun x => if x = b2 then some c else if x = b then none else κ.O x }, _, hr, ?_, g1.trans k1, k2⟩
                  simp only [VRel]
                  intro c' hc'
                  simp only [if_true, Option.some.injEq] at hc'; subst hc'
                  refine ⟨_, cap, rfl, hroom, .inr ⟨rfl, ?_⟩⟩
                  simp only [bsize, wput_get hcl, splice_size hfit]
                  omega
                · have hcv := CellsRel.vals hC
                  obtain ⟨ov, o1, o2⟩ := hcv
                  have hol := VRels.length o1
                  have hr := run_append_grow (P := P) κ.w t ty e i z hu hi hz sa n cap ov (by omega) (fun j u hj => by
                    have hn0 : n ≠ 0 := by
                      intro e0; subst e0
                      have := (List.getElem?_eq_some_iff.1 hj).1
                      omega
                    obtain ⟨rfl, _⟩ := q2.resolve_left (by omega)
                    rw [addr_add]; exact o2 j u hj) ad m xc nv hnl hn (by omega) (by omega) (growslice_fits (by omega) c2)
                  obtain ⟨d1, d2⟩ := drew_step hs
                  have hvr : VRels { κ with w := κ.w.drew } (cs ++ news) (ov ++ nv) := VRels.le d1.le _ _ (fun _ _ => .inr rfl) (VRels.append o1 hnv)
                  have hmen : AV.mens b2 (cs ++ news) = false := by
                    rw [mens_append, menN, Bool.or_false]
                    exact H.men_get hf.men hb
                  obtain ⟨g1, g2, g3⟩ := new_cells d2 hf (ov.toArray ++ nv.toArray ++ Builtin.zeroCells z.cells (grownCap κ.w (n + m) cap e - (n + m))) e hmen hvr (fun j u hu => by
                      rw [Array.getElem?_append_left (by have := (List.getElem?_eq_some_iff.1 hu).1; simpa using this)]
                      simpa using hu)
                  obtain ⟨k1, k2⟩ := drop_block g2 b
                  have hne : b2 ≠ b := fun e0 => by subst e0; rw [hf.get] at hb; cases hb
                  refine ⟨_, _, hr, ?_, (d1.trans g1).trans k1, ?_⟩
                  · simp only [VRel]
                    intro c' hc'
                    rw [if_neg hne, g3] at hc'; cases hc'
                    have hge := grownCap_ge κ.w (n + m) cap e
                    refine ⟨_, _, rfl, hge, .inr ⟨rfl, ?_⟩⟩
                    simp only [bsize, Ctx.name, Array.getElem?_push_size]
                    simp [Builtin.zeroCells, hnl, hzs, Nat.sub_mul]
                    have : (n + m) * i.size ≤ grownCap κ.w (n + m) cap e * i.size := Nat.mul_le_mul_right _ hge
                    have e1 : κ.w.drew.heap.size = κ.w.heap.size := rfl
                    have hnm : (n + m) * i.size = n * i.size + m * i.size := Nat.add_mul _ _ _
                    omega
                  · have : H.del ((b2, Blk.cells (cs ++ news)) :: σ) b = (b2, Blk.cells (cs ++ news)) :: σ.del b := by
                      simp only [H.del]; rw [if_neg (fun e0 => hne e0.symm)]
                    rw [this] at k2
                    exact k2
            · cases h
          · cases h
        · cases h
      · cases h
    · cases h
end Go.Proofs.Hz
