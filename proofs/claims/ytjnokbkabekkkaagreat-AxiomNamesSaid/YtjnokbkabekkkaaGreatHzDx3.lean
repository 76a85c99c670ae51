/- Regions that draw their order and make memory: one run in the order of the text stands for all. -/
import Derived.Test.YtjnokbkabekkkaaGreatHzDx2
set_option linter.all false
namespace Go.Proofs.Hz
open Go

/-- What an operation did: the values that it named, what it yields, which blocks it turned into what, which names are new. -/
structure Rec where
  ms : List AV
  rd : List AV
  v : AV
  ts : List (Nat × Option Blk)
  nw : List Nat
def soils (d : Nat) (r : Rec) : Bool := r.v.men d || r.ts.any fun t => t.1 == d || (match t.2 with | some b => b.men d | none => false)
def hit (st : Nat → Bool) (b : Nat) (r : Rec) : Bool := AV.mens b r.rd || (AV.mens b r.ms && !st b) || (tget r.ts b).isSome
def clash (st : Nat → Bool) (ri rj : Rec) : Bool := ri.ts.any (fun t => hit st t.1 rj) || rj.ts.any (fun t => hit st t.1 ri)
def pairOkx (st : Nat → Bool) (all : Array Oper) (bs : List (List Nat)) (i j : Nat) (x y : Oper) (ri rj : Rec) : Bool :=
  rj.nw.all (fun d => !soils d ri) &&
  (ahead bs i j ||
    ((match x.dst with | some d => !(slotsOf all y).contains d | none => true) && (match y.dst with | some d => !(slotsOf all x).contains d | none => true) &&
      !clash st ri rj && ri.nw.all (fun d => !soils d rj)))
/-- What the operation o does, from (ρ, σ). -/
structure XStep (P : Program) (N : Nat) (all : Array Oper) (o : Oper) (ρ : Env) (σ : H) (r : Rec) : Prop where
  dst : dstOk N o = true
  ms : r.ms = o.op.operands.toList.map ρ.ev
  rd : r.rd = rdOf ρ o.op
  act : (guardOf ρ all o = some false ∧ r.v = .tup [] ∧ r.ts = []) ∨
    (guardOf ρ all o = some true ∧ ((opv P ρ σ o.op = some r.v ∧ r.ts = []) ∨ (PCall P ρ o.op r.v ∧ r.ts = []) ∨
      (aopd P ρ σ o = some (r.v, r.ts) ∧ (isNew o = true → ∀ d, o.dst = some d → d ∈ r.nw)) ∨
      (∃ v0 ts0, aopd P ρ σ o = some (v0, ts0) ∧ frz v0 ts0 = some r.v ∧ r.ts = [] ∧ ∀ b d, (b, d) ∈ ts0 → o.dst = some b ∧ b ∈ r.nw) ∧ isNew o = true))
theorem tget_isSome {ts : List (Nat × Option Blk)} {b : Nat} (h : (tget ts b).isSome = true) : ∃ o, (b, o) ∈ ts ∧ tget ts b = some o := by
  induction ts with
  | nil => simp [tget] at h
  | cons x ts ih =>
    obtain ⟨c, o⟩ := x
    simp only [tget] at h ⊢
    split at h
    · rename_i e; subst e; exact ⟨o, by simp, by simp⟩
    · rename_i e
      obtain ⟨o', h1, h2⟩ := ih h
      exact ⟨o', by simp [h1], by simp [e, h2]⟩
theorem tget_none_of_soils {d : Nat} {r : Rec} (h : soils d r = false) : tget r.ts d = none := by
  cases ht : tget r.ts d with
  | none => rfl
  | some o =>
    obtain ⟨o', h1, _⟩ := tget_isSome (ts := r.ts) (b := d) (by rw [ht]; rfl)
    simp only [soils, Bool.or_eq_false_iff, List.any_eq_false] at h
    have := h.2 _ h1
    simp at this
theorem blk_of_soils {d b : Nat} {r : Rec} {k : Blk} (h : soils d r = false) (hb : tget r.ts b = some (some k)) : k.men d = false := by
  obtain ⟨o', h1, h2⟩ := tget_isSome (ts := r.ts) (b := b) (by rw [hb]; rfl)
  rw [h2] at hb; cases hb
  simp only [soils, Bool.or_eq_false_iff, List.any_eq_false] at h
  have := h.2 _ h1
  simp only [Bool.or_eq_true, not_or, Bool.not_eq_true] at this
  exact this.2
theorem val_of_soils {d : Nat} {r : Rec} (h : soils d r = false) : r.v.men d = false := by
  simp only [soils, Bool.or_eq_false_iff] at h; exact h.1
theorem clash_spec {st : Nat → Bool} {ri rj : Rec} (h : clash st ri rj = false) {b : Nat} : ((tget ri.ts b).isSome = true → hit st b rj = false) ∧ ((tget rj.ts b).isSome = true → hit st b ri = false) := by
  simp only [clash, Bool.or_eq_false_iff, List.any_eq_false, Bool.not_eq_true] at h
  refine ⟨fun hb => ?_, fun hb => ?_⟩
  · obtain ⟨o, h1, _⟩ := tget_isSome hb
    exact h.1 _ h1
  · obtain ⟨o, h1, _⟩ := tget_isSome hb
    exact h.2 _ h1
theorem hit_ts {st : Nat → Bool} {b : Nat} {r : Rec} (h : hit st b r = false) : tget r.ts b = none := by
  simp only [hit, Bool.or_eq_false_iff, Option.isSome_eq_false_iff, Option.isNone_iff_eq_none] at h
  exact h.2
theorem hit_rd {st : Nat → Bool} {b : Nat} {r : Rec} (h : hit st b r = false) : AV.mens b r.rd = false := by
  simp only [hit, Bool.or_eq_false_iff] at h; exact h.1.1
theorem hit_ms {st : Nat → Bool} {b : Nat} {r : Rec} (h : hit st b r = false) (hs : st b = false) : AV.mens b r.ms = false := by
  simp only [hit, Bool.or_eq_false_iff, hs, Bool.not_false, Bool.and_true] at h; exact h.1.2
theorem H.men_del {d : Nat} (b : Nat) : ∀ {σ : H}, σ.men d = false → (σ.del b).men d = false
  | [], h => h
  | (c, k) :: σ, h => by
    simp only [H.men, Bool.or_eq_false_iff] at h
    simp only [H.del]
    split
    · exact H.men_del b h.2
    · simp only [H.men, Bool.or_eq_false_iff]; exact ⟨h.1, H.men_del b h.2⟩
theorem upds_men {d : Nat} {σ : H} (h : σ.men d = false) : ∀ ts : List (Nat × Option Blk), (∀ b k, (b, some k) ∈ ts → k.men d = false) → (upds σ ts).men d = false
  | [], _ => h
  | (b, o) :: ts, ht => by
    have ih := upds_men h ts fun b k hb => ht b k (by simp [hb])
    simp only [upds]
    cases o with
    | none => exact H.men_del b ih
    | some k => exact H.men_set ih (ht b k (by simp))
section
variable {P : Program} {N : Nat} {all : Array Oper} {R : Nat → Env} {G : Nat → H} {C : Nat → Rec}
/-- The heap when just these are done. -/
def heapX (G0 : H) (C : Nat → Rec) (s : Nat → Bool) : Nat → H
  | 0 => G0
  | j + 1 => if s j then upds (heapX G0 C s j) (C j).ts else heapX G0 C s j
theorem heapX_late {G0 : H} {s : Nat → Bool} {j b : Nat} : ∀ n, j ≤ n → (∀ i, j ≤ i → i < n → s i = true → tget (C i).ts b = none) → (heapX G0 C s n).get b = (heapX G0 C s j).get b := by
  intro n hn
  induction n with
  | zero => intro _; have : j = 0 := by omega
            subst this; rfl
  | succ n ih =>
    intro h
    by_cases e : j = n + 1
    · subst e; rfl
    · simp only [heapX]
      split
      · rename_i hs
        rw [upds_get, h n (by omega) (by omega) hs]
        exact ih (by omega) fun i h1 h2 => h i h1 (by omega)
      · exact ih (by omega) fun i h1 h2 => h i h1 (by omega)
theorem heapX_early {s : Nat → Bool} {b : Nat} (hG : ∀ j, j < all.size → G (j + 1) = upds (G j) (C j).ts) : ∀ j, j ≤ all.size → (∀ i, i < j → (tget (C i).ts b).isSome = true → s i = true) → (heapX (G 0) C s j).get b = (G j).get b := by
  intro j
  induction j with
  | zero => intro _ _; rfl
  | succ j ih =>
    intro hj h
    rw [hG j (by omega), upds_get]
    simp only [heapX]
    have ih' := ih (by omega) fun i hi => h i (by omega)
    split
    · rw [upds_get, ih']
    · rename_i hs
      cases ht : tget (C j).ts b with
      | none => exact ih'
      | some o => exact absurd (h j (by omega) (by rw [ht]; rfl)) hs
theorem heapX_men {G0 : H} {s : Nat → Bool} {d : Nat} (h0 : G0.men d = false) : ∀ n, (∀ i, i < n → s i = true → soils d (C i) = false) → (heapX G0 C s n).men d = false
  | 0, _ => h0
  | n + 1, h => by
    have ih := heapX_men (s := s) h0 n fun i hi => h i (by omega)
    simp only [heapX]
    split
    · rename_i hs
      refine upds_men ih _ fun b k hb => ?_
      have := h n (by omega) hs
      simp only [soils, Bool.or_eq_false_iff, List.any_eq_false] at this
      have := this.2 _ hb
      simp only [Bool.or_eq_true, not_or, Bool.not_eq_true] at this
      exact this.2
    · exact ih
theorem put_men {d : Nat} {ρ : Env} (t : Option Nat) {v : AV} (h : ρ.men d = false) (hv : v.men d = false) : (ρ.put t v).men d = false := by
  cases t with
  | none => exact h
  | some t => simp only [Env.put, Env.men, h, hv, Bool.or_self]
theorem envS_men {R0 : Env} {V : Nat → AV} {s : Nat → Bool} {d : Nat} (h0 : R0.men d = false) : ∀ n, (∀ i, i < n → s i = true → (V i).men d = false) → (envS all R0 V s n).men d = false
  | 0, _ => h0
  | n + 1, h => by
    have ih := envS_men (V := V) (s := s) h0 n fun i hi => h i (by omega)
    simp only [envS]
    split
    · rename_i hs; exact put_men _ ih (h n (by omega) hs)
    · exact ih
theorem heapX_live {G0 : H} {s : Nat → Bool} {b : Nat} (h0 : G0.live b = true) : ∀ n, (∀ i, i < n → ∀ o, tget (C i).ts b = some o → o.isSome = true) → (heapX G0 C s n).live b = true
  | 0, _ => h0
  | n + 1, h => by
    have ih := heapX_live (s := s) h0 n fun i hi => h i (by omega)
    simp only [heapX]
    split
    · unfold H.live at ih ⊢
      rw [upds_get]
      cases ht : tget (C n).ts b with
      | none => exact ih
      | some o => exact h n (by omega) o ht
    · exact ih
theorem heapG_live {G : Nat → H} {b m : Nat} (hG : ∀ j, j < m → G (j + 1) = upds (G j) (C j).ts) (h0 : (G 0).live b = true) : ∀ n, n ≤ m → (∀ i, i < n → ∀ o, tget (C i).ts b = some o → o.isSome = true) → (G n).live b = true
  | 0, _, _ => h0
  | n + 1, hn, h => by
    have ih := heapG_live hG h0 n (by omega) fun i hi => h i (by omega)
    rw [hG n (by omega)]
    unfold H.live at ih ⊢
    rw [upds_get]
    cases ht : tget (C n).ts b with
    | none => exact ih
    | some o => exact h n (by omega) o ht
theorem draw_mainx {stb : Nat → Bool} (hstb : ∀ b, stb b = true → (G 0).live b = true ∧ ∀ i, i < all.size → ∀ o, tget (C i).ts b = some o → o.isSome = true) (hed : edgesOk 0 all.toList = true) (pair : ∀ i j x y, all[i]? = some x → all[j]? = some y → i < j → pairOkx stb all (befores [] all.toList) i j x y (C i) (C j) = true)
    (fresh : ∀ j, j < all.size → ∀ d ∈ (C j).nw, Fresh d (R 0) (G 0))
    (steps : ∀ j o, all[j]? = some o → XStep P N all o (R j) (G j) (C j)) (hR : ∀ j o, all[j]? = some o → R (j + 1) = (R j).put o.dst (C j).v) (hG : ∀ j, j < all.size → G (j + 1) = upds (G j) (C j).ts)
    {Q' : Exit → Act → World → Prop} {κ0 : Ctx}
    (hQ : ∀ κ a, Step κ0 κ → SRel κ N (R all.size) (G all.size) a → Q' .normal a κ.w) :
    ∀ (fuel : Nat) (listed : Array Bool) (a : Act) (κ : Ctx), listed.size = all.size → cnt (fun i => listed.getD i false) all.size + fuel = all.size →
      (∀ i j, listed.getD j false = true → ahead (befores [] all.toList) i j = true → listed.getD i false = true) → Step κ0 κ →
      SRel κ N (envS all (R 0) (fun i => (C i).v) (fun i => listed.getD i false) all.size) (heapX (G 0) C (fun i => listed.getD i false) all.size) a → wpAny P .any all Q' fuel listed a κ.w := by
  -- all done
  have fin : ∀ (listed : Array Bool) (a : Act) (κ : Ctx), (∀ i, i < all.size → listed.getD i false = true) → Step κ0 κ →
      SRel κ N (envS all (R 0) (fun i => (C i).v) (fun i => listed.getD i false) all.size) (heapX (G 0) C (fun i => listed.getD i false) all.size) a → Q' .normal a κ.w := by
    intro listed a κ hall hst hs
    have hs2 := hs.getEq (σ' := G all.size) fun b => heapX_early hG all.size (Nat.le_refl _) fun i hi _ => hall i hi
    exact hQ κ a hst (hs2.sub fun t v hv => by rw [envS_early hR all.size (Nat.le_refl _) fun i hi _ => hall i hi]; exact hv)
  intro fuel
  induction fuel with
  | zero =>
    intro listed a κ hsz hc hcl hst hs
    have hall : ∀ i, i < all.size → listed.getD i false = true := fun i hi => cnt_all (s := fun i => listed.getD i false) all.size (by omega) i hi
    refine ⟨?_, fin listed a κ hall hst hs⟩
    rw [Region.ready, List.filter_eq_nil_iff]
    intro i hi
    have h1 := hall i (by simpa using hi)
    have h2 : listed.getD i true = true := by
      simp only [Array.getD_eq_getD_getElem?] at h1 ⊢
      cases h : listed[i]? <;> simp_all
    simp [h2]
  | succ fuel ih =>
    intro listed a κ hsz hc hcl hst hs
    refine ⟨fun hready => ?_, fun j hj => ?_⟩
    · refine fin listed a κ ?_ hst hs
      intro i
      induction i using Nat.strongRecOn with
      | _ i ihi =>
        intro hi
        cases hli : listed.getD i false with
        | true => rfl
        | false =>
          exfalso
          have ho : all[i]? = some all[i] := Array.getElem?_eq_getElem hi
          have hmem : i ∈ Region.ready .any all listed := by
            simp only [Region.ready, List.mem_filter, List.mem_range, Bool.and_eq_true, Bool.not_eq_true']
            refine ⟨hi, ?_, ?_⟩
            · simp only [Array.getD_eq_getD_getElem?] at hli ⊢
              have : listed[i]? = some listed[i] := Array.getElem?_eq_getElem (by omega)
              simp_all
            · simp only [ho, Option.map_some, Option.getD_some]
              rw [Array.all_eq_true']
              intro e he
              by_cases hb : Region.binds .any e = true
              · have hlt := edgesOk_get all.toList 0 i _ hed (by rw [Array.getElem?_toList]; exact ho) e (by simpa using he) hb
                have := ihi e.on (by omega) (by omega)
                simp [this]
              · simp [hb]
          rw [hready] at hmem
          simp at hmem
    · simp only [Region.ready, List.mem_filter, List.mem_range, Bool.and_eq_true, Bool.not_eq_true'] at hj
      obtain ⟨hjn, hjl, hje⟩ := hj
      have ho : all[j]? = some all[j] := Array.getElem?_eq_getElem hjn
      generalize all[j] = o at ho
      simp only [ho, Option.map_some, Option.getD_some] at hje
      have hjf : listed.getD j false = false := by
        simp only [Array.getD_eq_getD_getElem?] at hjl ⊢
        have : listed[j]? = some (listed[j]'(by omega)) := Array.getElem?_eq_getElem (by omega)
        simp_all
      have hpred : ∀ i, ahead (befores [] all.toList) i j = true → listed.getD i false = true := by
        intro i hi
        obtain ⟨e, he, hb, h⟩ := ahead_step (by simpa using ho) hi
        have hl : listed.getD e.on false = true := by
          have := (Array.all_eq_true'.1 hje) e (by simpa using he)
          simpa [hb] using this
        rcases h with rfl | h
        · exact hl
        · exact hcl i e.on hl h
      have st := steps j o ho
      -- an operation ahead in the text: done, or apart
      have before : ∀ i, i < j → listed.getD i false = true ∨ ((∀ d, (all[i]?).bind (·.dst) = some d → d ∉ slotsOf all o) ∧ clash stb (C i) (C j) = false) := by
        intro i hi
        have hoi : all[i]? = some all[i] := Array.getElem?_eq_getElem (by omega)
        have p := pair i j _ o hoi ho hi
        simp only [pairOkx, Bool.and_eq_true, Bool.or_eq_true, Bool.not_eq_true'] at p
        rcases p.2 with p | p
        · exact .inl (hpred i p)
        · refine .inr ⟨fun d hd hm => ?_, p.1.2⟩
          simp only [hoi, Option.bind_some] at hd
          have := p.1.1.1
          rw [hd] at this
          simp [hm] at this
      -- one behind it that is done: apart
      have behind : ∀ i, j < i → i < all.size → listed.getD i false = true → (∀ d, (all[i]?).bind (·.dst) = some d → d ∉ slotsOf all o) ∧ clash stb (C j) (C i) = false ∧ (∀ d ∈ (C j).nw, soils d (C i) = false) := by
        intro i hi hin hli
        have hoi : all[i]? = some all[i] := Array.getElem?_eq_getElem hin
        have p := pair j i o _ ho hoi hi
        simp only [pairOkx, Bool.and_eq_true, Bool.or_eq_true, Bool.not_eq_true', List.all_eq_true] at p
        rcases p.2 with p | p
        · have := hcl j i hli p
          rw [hjf] at this; cases this
        · refine ⟨fun d hd hm => ?_, p.1.2, fun d hd => by simpa using p.2 d hd⟩
          simp only [hoi, Option.bind_some] at hd
          have := p.1.1.2
          rw [hd] at this
          simp [hm] at this
      have hA : ∀ t ∈ slotsOf all o, (envS all (R 0) (fun i => (C i).v) (fun i => listed.getD i false) all.size).get t = (R j).get t := by
        intro t ht
        rw [envS_late all.size (Nat.le_of_lt hjn), envS_early hR j (Nat.le_of_lt hjn)]
        · intro i hi hd
          rcases before i hi with h | ⟨h, _⟩
          · exact h
          · exact absurd ht (h t hd)
        · intro i h1 h2 hsi hd
          by_cases e : i = j
          · subst e; rw [hjf] at hsi; cases hsi
          · exact (behind i (by omega) h2 hsi).1 t hd ht
      have hH : ∀ b, hit stb b (C j) = true → (heapX (G 0) C (fun i => listed.getD i false) all.size).get b = (G j).get b := by
        intro b hb
        rw [heapX_late all.size (Nat.le_of_lt hjn), heapX_early hG j (Nat.le_of_lt hjn)]
        · intro i hi ht
          rcases before i hi with h | ⟨_, h⟩
          · exact h
          · rw [(clash_spec h (b := b)).1 ht] at hb; cases hb
        · intro i h1 h2 hsi
          by_cases e : i = j
          · subst e; rw [hjf] at hsi; cases hsi
          · cases ht : tget (C i).ts b with
            | none => rfl
            | some x =>
              rw [(clash_spec (behind i (by omega) h2 hsi).2.1 (b := b)).2 (by rw [ht]; rfl)] at hb; cases hb
      have clean : ∀ d ∈ (C j).nw, ∀ i, i < all.size → listed.getD i false = true → soils d (C i) = false := by
        intro d hd i hin hli
        by_cases e : i < j
        · have hoi : all[i]? = some all[i] := Array.getElem?_eq_getElem (by omega)
          have p := pair i j _ o hoi ho e
          simp only [pairOkx, Bool.and_eq_true, List.all_eq_true] at p
          simpa using p.1 d hd
        · by_cases e2 : i = j
          · subst e2; rw [hjf] at hli; cases hli
          · exact (behind i (by omega) hin hli).2.2 d hd
      have hfresh : ∀ d ∈ (C j).nw, Fresh d (envS all (R 0) (fun i => (C i).v) (fun i => listed.getD i false) all.size) (heapX (G 0) C (fun i => listed.getD i false) all.size) := by
        intro d hd
        have f0 := fresh j hjn d hd
        refine ⟨?_, heapX_men f0.men _ (clean d hd), envS_men f0.env _ fun i hi hli => val_of_soils (clean d hd i hi hli), f0.unp⟩
        rw [heapX_late (j := 0) all.size (Nat.zero_le _) fun i _ hi hli => tget_none_of_soils (clean d hd i hi hli)]
        exact f0.get
      -- afterwards
      have hs' : ∀ i, (listed.setIfInBounds j true).getD i false = if i = j then true else listed.getD i false := by
        intro i
        simp only [Array.getD_eq_getD_getElem?, Array.getElem?_setIfInBounds]
        by_cases e : i = j
        · subst e; simp [hsz, hjn]
        · rw [if_neg (fun h => e h.symm), if_neg e]
      have next : ∀ (κ' : Ctx) (a' : Act), Step κ κ' → SRel κ' N ((envS all (R 0) (fun i => (C i).v) (fun i => listed.getD i false) all.size).put o.dst (C j).v) (upds (heapX (G 0) C (fun i => listed.getD i false) all.size) (C j).ts) a' →
          wpAny P .any all Q' fuel (listed.setIfInBounds j true) a' κ'.w := by
        intro κ' a' hst' hs1
        refine ih _ a' κ' (by simp [hsz]) ?_ ?_ (hst.trans hst') ?_
        · have := cnt_add (s := fun i => listed.getD i false) (s' := fun i => (listed.setIfInBounds j true).getD i false) (j := j) hjf (by simp [hs']) (fun i hi => by simp only [hs', if_neg hi]) all.size
          rw [this, if_pos hjn]; omega
        · intro i k hk hi
          rw [hs'] at hk ⊢
          split
          · rfl
          · split at hk
            · rename_i e; subst e; exact hpred i hi
            · exact hcl i k hk hi
        · refine (hs1.getEq fun b => ?_).sub fun t v hv => ?_
          · -- the heap
            rw [upds_get]
            have eqm : ∀ m, tget (C j).ts b = none ∨ m ≤ j → (heapX (G 0) C (fun i => (listed.setIfInBounds j true).getD i false) m).get b = (heapX (G 0) C (fun i => listed.getD i false) m).get b := by
              intro m hm
              induction m with
              | zero => rfl
              | succ m ihm =>
                have ihm' := ihm (hm.imp id fun h => by omega)
                simp only [heapX, hs']
                by_cases e : m = j
                · subst e
                  have ht : tget (C m).ts b = none := hm.resolve_right (by omega)
                  simp only [if_true, hjf, Bool.false_eq_true, if_false]
                  rw [upds_get, ht, Option.getD_none]
                  simpa only [hs'] using ihm'
                · simp only [if_neg e]
                  split
                  · rw [upds_get, upds_get]
                    congr 1
                    simpa only [hs'] using ihm'
                  · simpa only [hs'] using ihm'
            cases ht : tget (C j).ts b with
            | none => rw [Option.getD_none]; exact (eqm all.size (.inl ht)).symm
            | some x =>
              rw [Option.getD_some, heapX_late (j := j + 1) all.size (by omega)]
              · simp only [heapX, hs', if_true]
                rw [upds_get, ht, Option.getD_some]
              · intro i h1 h2 hsi
                rw [hs', if_neg (by omega)] at hsi
                have := (clash_spec (behind i (by omega) h2 hsi).2.1 (b := b)).1 (by rw [ht]; rfl)
                exact hit_ts this
          · rw [put_get]
            by_cases hd : o.dst = some t
            · rw [if_pos hd]
              rw [envS_late all.size (show j + 1 ≤ all.size by omega)] at hv
              · simp only [envS, hs', if_true, ho, Option.bind_some] at hv
                rw [put_get, if_pos hd] at hv
                exact hv
              · intro i h1 h2 hsi hdi
                rw [hs', if_neg (by omega)] at hsi
                exact (behind i (by omega) h2 hsi).1 t hdi (by simp [slotsOf, hd])
            · rw [if_neg hd]
              have : ∀ m, (envS all (R 0) (fun i => (C i).v) (fun i => (listed.setIfInBounds j true).getD i false) m).get t = (envS all (R 0) (fun i => (C i).v) (fun i => listed.getD i false) m).get t := by
                intro m
                induction m with
                | zero => rfl
                | succ m ihm =>
                  simp only [envS, hs']
                  by_cases e : m = j
                  · subst e
                    simp only [if_true, ho, Option.bind_some, hjf, Bool.false_eq_true, if_false]
                    rw [put_get, if_neg hd]
                    simpa only [hs'] using ihm
                  · simp only [if_neg e]
                    split
                    · rw [put_get, put_get]
                      split
                      · rfl
                      · simpa only [hs'] using ihm
                    · simpa only [hs'] using ihm
              rw [this] at hv
              exact hv
      -- the operation itself
      unfold wpOp
      simp only [ho]
      have hguard := guard_same (o := o) hA
      have hops := ops_same (o := o) hA
      have hev : o.op.operands.toList.map (envS all (R 0) (fun i => (C i).v) (fun i => listed.getD i false) all.size).ev = (C j).ms := by
        rw [st.ms]
        exact List.map_congr_left fun x hx => hops x (by simpa using hx)
      have hevR : rdOf (envS all (R 0) (fun i => (C i).v) (fun i => listed.getD i false) all.size) o.op = (C j).rd := by
        rw [st.rd]
        unfold rdOf
        split
        · rename_i t x hop; rw [hops x (by rw [hop]; simp [Op.operands])]
        · rename_i t x k c hop; rw [hops x (by rw [hop]; simp [Op.operands])]
        · rename_i t x y hop; rw [hops x (by rw [hop]; simp [Op.operands])]
        · rename_i args ts hop
          exact List.map_congr_left fun x hx => hops x (by rw [hop]; simp only [Op.operands, Call.operands, Array.mem_append]; exact .inr (by simpa using hx))
        · rfl
      have hlocR : ∀ b, AV.mens b (rdOf (envS all (R 0) (fun i => (C i).v) (fun i => listed.getD i false) all.size) o.op) = true → (heapX (G 0) C (fun i => listed.getD i false) all.size).get b = (G j).get b := by
        intro b hb
        rw [hevR] at hb
        exact hH b (by simp [hit, hb])
      have hloc : ∀ b, opMen (envS all (R 0) (fun i => (C i).v) (fun i => listed.getD i false) all.size) o.op b = true → (heapX (G 0) C (fun i => listed.getD i false) all.size).live b = (G j).live b := by
        intro b hb
        unfold opMen at hb
        rw [hev] at hb
        cases hsb : stb b with
        | false => exact live_loc (hH b (by simp [hit, hb, hsb]))
        | true =>
          obtain ⟨k1, k2⟩ := hstb b hsb
          rw [heapX_live k1 all.size k2, heapG_live hG k1 j (Nat.le_of_lt hjn) fun i hi => k2 i (by omega)]
      rcases st.act with ⟨hg, hv, hts⟩ | ⟨hg, hact⟩
      · rw [guardOf_spec hs (hguard.trans hg)]
        simp only [Bool.false_eq_true, if_false]
        refine next κ _ (.refl _) ?_
        rw [hv, hts]
        refine hs.put (dstOk_spec st.dst) ?_
        simp only [VRel, Go.undef]; exact ⟨#[], rfl, by simp [VRels]⟩
      · rw [guardOf_spec hs (hguard.trans hg)]
        simp only [if_true]
        refine .inl ?_
        rcases hact with ⟨hov, hts⟩ | ⟨hpc, hts⟩ | ⟨hao, hnw⟩ | ⟨⟨v0, ts0, hao, hfz, hts, hin⟩, hnew⟩
        · have h1 : opv P (envS all (R 0) (fun i => (C i).v) (fun i => listed.getD i false) all.size) (heapX (G 0) C (fun i => listed.getD i false) all.size) o.op = some (C j).v := by
            rw [opv_loc hloc hlocR, opv_same hops]; exact hov
          obtain ⟨u, r1, r2⟩ := opv_sound hs h1
          unfold Oper.wp
          rw [r1]
          refine next κ _ (.refl _) ?_
          rw [hts]
          exact hs.put (dstOk_spec st.dst) r2
        · obtain ⟨x, args, ts, f, first, caps, hop, hx, hp⟩ := pcall_same (fun z hz => (hops z hz).symm) hpc
          refine aop_call (K := fun ρ' σ' => ρ' = (envS all (R 0) (fun i => (C i).v) (fun i => listed.getD i false) all.size).put o.dst (C j).v ∧ σ' = heapX (G 0) C (fun i => listed.getD i false) all.size) hop hx hp st.dst ⟨rfl, rfl⟩ _ _ κ a hs ?_
          rintro κ' ρ' σ' a' k1 k2 ⟨rfl, rfl⟩
          refine next κ' a' k1 ?_
          rw [hts]
          exact k2
        · have h1 := aopd_same (P := P) (o := o) hops hloc hlocR
          rw [hao] at h1
          obtain ⟨κ', u, r1, r2, r3, r4⟩ := aopd_sound hs h1 (fun hn d hd => hfresh d (hnw hn d hd))
          unfold Oper.wp
          rcases r1 with r1 | ⟨r1, rfl⟩
          · rw [r1]; exact next κ' _ r2 (r3.put (dstOk_spec st.dst) r4)
          · rw [r1]; exact next κ' _ r2 (r3.put (dstOk_spec st.dst) r4)
        · have h1 := aopd_same (P := P) (o := o) hops hloc hlocR
          rw [hao] at h1
          have hnm : ∀ b d, (b, d) ∈ ts0 → (heapX (G 0) C (fun i => listed.getD i false) all.size).get b = none := fun b d hb => (hfresh b (hin b d hb).2).get
          have hdst : ∀ d, o.dst = some d → d ∈ (C j).nw := by
            intro d hd
            unfold frz at hfz
            split at hfz
            · have := hin _ _ (List.mem_singleton.2 rfl)
              rw [this.1] at hd; cases hd; exact this.2
            · have := hin _ _ (List.mem_singleton.2 rfl)
              rw [this.1] at hd; cases hd; exact this.2
            · cases hfz
          obtain ⟨κ', u, r1, r2, r3, r4⟩ := aopd_sound hs h1.symm.symm (fun hn d hd => hfresh d (hdst d hd))
          obtain ⟨κ2, q1, q2, q3, q4, _⟩ := frz_spec r3 r4 hfz hnm
          unfold Oper.wp
          rcases r1 with r1 | ⟨r1, rfl⟩
          · rw [r1, ← q1]; refine next κ2 _ (r2.trans q2) ?_
            rw [hts]; exact q3.put (dstOk_spec st.dst) q4
          · rw [r1, ← q1]; refine next κ2 _ (r2.trans q2) ?_
            rw [hts]; exact q3.put (dstOk_spec st.dst) q4
end
end Go.Proofs.Hz
