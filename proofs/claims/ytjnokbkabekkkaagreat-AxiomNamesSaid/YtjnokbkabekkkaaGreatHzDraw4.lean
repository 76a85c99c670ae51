/- Regions that draw their order: the theorem. -/
import Derived.Test.YtjnokbkabekkkaaGreatHzDraw3
set_option linter.all false
namespace Go.Proofs.Hz
open Go

def cnt (s : Nat → Bool) : Nat → Nat
  | 0 => 0
  | m + 1 => cnt s m + if s m then 1 else 0
theorem cnt_le (s : Nat → Bool) : ∀ m, cnt s m ≤ m
  | 0 => Nat.le_refl _
  | m + 1 => by have := cnt_le s m; simp only [cnt]; split <;> omega
theorem cnt_all {s : Nat → Bool} : ∀ m, cnt s m = m → ∀ i, i < m → s i = true
  | 0, _, i, hi => by omega
  | m + 1, h, i, hi => by
    have h1 := cnt_le s m
    simp only [cnt] at h
    split at h
    · rename_i hs
      by_cases e : i = m
      · subst e; exact hs
      · exact cnt_all m (by omega) i (by omega)
    · omega
theorem cnt_add {s s' : Nat → Bool} {j : Nat} (hj : s j = false) (hj' : s' j = true) (ho : ∀ i, i ≠ j → s' i = s i) : ∀ m, cnt s' m = cnt s m + if j < m then 1 else 0
  | 0 => by simp [cnt]
  | m + 1 => by
    simp only [cnt]
    rw [cnt_add hj hj' ho m]
    by_cases e : m = j
    · subst e
      simp [hj, hj']
    · rw [ho m e]
      by_cases h : j < m
      · rw [if_pos h, if_pos (show j < m + 1 by omega)]; omega
      · rw [if_neg h, if_neg (show ¬ j < m + 1 by omega)]; omega
theorem cnt_none {s : Nat → Bool} : ∀ m, (∀ i, i < m → s i = false) → cnt s m = 0
  | 0, _ => rfl
  | m + 1, h => by simp only [cnt]; rw [cnt_none m fun i hi => h i (by omega), h m (by omega)]; simp
section
variable {P : Program} {N : Nat} {all : Array Oper} {R : Nat → Env} {G : Nat → H} {V : Nat → AV}
theorem draw_main (hk : drawOk all = true) (steps : ∀ j o, all[j]? = some o → DStep P N all o (R j) (R (j + 1)) (G j) (G (j + 1)) (V j)) {Q' : Exit → Act → World → Prop} {κ0 : Ctx}
    (hQ : ∀ κ a, Step κ0 κ → SRel κ N (R all.size) (G all.size) a → Q' .normal a κ.w) :
    ∀ (fuel : Nat) (listed : Array Bool) (a : Act) (κ : Ctx), listed.size = all.size → cnt (fun i => listed.getD i false) all.size + fuel = all.size →
      (∀ i j, listed.getD j false = true → ahead (befores [] all.toList) i j = true → listed.getD i false = true) → Step κ0 κ →
      SRel κ N (envS all (R 0) V (fun i => listed.getD i false) all.size) (heapS all G (fun i => listed.getD i false) all.size) a → wpAny P .any all Q' fuel listed a κ.w := by
  simp only [drawOk, Bool.and_eq_true] at hk
  obtain ⟨hed, hpr⟩ := hk
  have hR : ∀ j o, all[j]? = some o → R (j + 1) = (R j).put o.dst (V j) := fun j o h => (steps j o h).env
  have hG : ∀ j o, all[j]? = some o → isStore o.op = false → G (j + 1) = G j := fun j o h hs => (steps j o h).same hs
  have hL : ∀ j b, j ≤ all.size → (G j).live b = (G 0).live b := by
    intro j b
    induction j with
    | zero => intro _; rfl
    | succ j ih =>
      intro hj
      rw [(steps j _ (Array.getElem?_eq_getElem (by omega))).live]
      exact ih (by omega)
  have pair : ∀ i j x y, all[i]? = some x → all[j]? = some y → i < j → pairOk all (befores [] all.toList) i j x y = true := fun i j x y hx hy hlt => by
    have := allPairs_get all.toList 0 i j x y hpr (by simpa using hx) (by simpa using hy) hlt
    simpa using this
  -- all done
  have fin : ∀ (listed : Array Bool) (a : Act) (κ : Ctx), (∀ i, i < all.size → listed.getD i false = true) → Step κ0 κ →
      SRel κ N (envS all (R 0) V (fun i => listed.getD i false) all.size) (heapS all G (fun i => listed.getD i false) all.size) a → Q' .normal a κ.w := by
    intro listed a κ hall hst hs
    have e2 : heapS all G (fun i => listed.getD i false) all.size = G all.size := heapS_early hG all.size (Nat.le_refl _) fun i hi _ => hall i hi
    rw [e2] at hs
    exact hQ κ a hst (hs.sub fun t v hv => by rw [envS_early hR all.size (Nat.le_refl _) fun i hi _ => hall i hi]; exact hv)
  intro fuel
  induction fuel with
  | zero =>
    intro listed a κ hsz hc hcl hst hs
    have hall : ∀ i, i < all.size → listed.getD i false = true := fun i hi => cnt_all (s := fun i => listed.getD i false) all.size (by omega) i hi
    refine ⟨?_, fin listed a κ hall hst hs⟩
    rw [Region.ready, List.filter_eq_nil_iff]
    intro i hi
    have h1 := hall i (by simpa using hi)
    have h2 : listed.getD i true = true := by
      simp only [Array.getD_eq_getD_getElem?] at h1 ⊢
      cases h : listed[i]? <;> simp_all
    simp [h2]
  | succ fuel ih =>
    intro listed a κ hsz hc hcl hst hs
    refine ⟨fun hready => ?_, fun j hj => ?_⟩
    · refine fin listed a κ ?_ hst hs
      intro i
      induction i using Nat.strongRecOn with
      | _ i ihi =>
        intro hi
        cases hli : listed.getD i false with
        | true => rfl
        | false =>
          exfalso
          have ho : all[i]? = some all[i] := Array.getElem?_eq_getElem hi
          have hmem : i ∈ Region.ready .any all listed := by
            simp only [Region.ready, List.mem_filter, List.mem_range, Bool.and_eq_true, Bool.not_eq_true']
            refine ⟨hi, ?_, ?_⟩
            · simp only [Array.getD_eq_getD_getElem?] at hli ⊢
              have : listed[i]? = some listed[i] := Array.getElem?_eq_getElem (by omega)
              simp_all
            · simp only [ho, Option.map_some, Option.getD_some]
              rw [Array.all_eq_true']
              intro e he
              by_cases hb : Region.binds .any e = true
              · have hlt := edgesOk_get all.toList 0 i _ hed (by rw [Array.getElem?_toList]; exact ho) e (by simpa using he) hb
                have := ihi e.on (by omega) (by omega)
                simp [this]
              · simp [hb]
          rw [hready] at hmem
          simp at hmem
    · simp only [Region.ready, List.mem_filter, List.mem_range, Bool.and_eq_true, Bool.not_eq_true'] at hj
      obtain ⟨hjn, hjl, hje⟩ := hj
      have ho : all[j]? = some all[j] := Array.getElem?_eq_getElem hjn
      generalize all[j] = o at ho
      simp only [ho, Option.map_some, Option.getD_some] at hje
      have hjf : listed.getD j false = false := by
        simp only [Array.getD_eq_getD_getElem?] at hjl ⊢
        have : listed[j]? = some (listed[j]'(by omega)) := Array.getElem?_eq_getElem (by omega)
        simp_all
      have hpred : ∀ i, ahead (befores [] all.toList) i j = true → listed.getD i false = true := by
        intro i hi
        obtain ⟨e, he, hb, h⟩ := ahead_step (by simpa using ho) hi
        have hl : listed.getD e.on false = true := by
          have := (Array.all_eq_true'.1 hje) e (by simpa using he)
          simpa [hb] using this
        rcases h with rfl | h
        · exact hl
        · exact hcl i e.on hl h
      have st := steps j o ho
      -- the slots that it names
      have hA : ∀ t ∈ slotsOf all o, (envS all (R 0) V (fun i => listed.getD i false) all.size).get t = (R j).get t := by
        intro t ht
        rw [envS_late all.size (Nat.le_of_lt hjn), envS_early hR j (Nat.le_of_lt hjn)]
        · intro i hi hd
          have hoi : all[i]? = some all[i] := Array.getElem?_eq_getElem (by omega)
          have p := pair i j _ o hoi ho hi
          simp only [hoi, Option.bind_some] at hd
          simp only [pairOk, Bool.or_eq_true] at p
          rcases p with p | p
          · exact hpred i p
          · simp [hd, ht] at p
        · intro i h1 h2 hsi hd
          by_cases e : i = j
          · subst e; simp [hjf] at hsi
          · have hoi : all[i]? = some all[i] := Array.getElem?_eq_getElem (by omega)
            have p := pair j i o _ ho hoi (by omega)
            simp only [hoi, Option.bind_some] at hd
            simp only [pairOk, Bool.or_eq_true] at p
            rcases p with p | p
            · have := hcl j i hsi p
              simp [hjf] at this
            · simp [hd, ht] at p
      have hH : isStore o.op = true ∨ isSens o.op = true → heapS all G (fun i => listed.getD i false) all.size = G j := by
        intro hss
        rw [heapS_late all.size (Nat.le_of_lt hjn), heapS_early hG j (Nat.le_of_lt hjn)]
        · intro i hi hd
          have hoi : all[i]? = some all[i] := Array.getElem?_eq_getElem (by omega)
          have p := pair i j _ o hoi ho hi
          simp only [hoi, Option.any_some] at hd
          simp only [pairOk, Bool.or_eq_true] at p
          rcases p with p | p
          · exact hpred i p
          · rcases hss with h | h <;> simp [hd, h] at p
        · intro i h1 h2 hsi
          by_cases e : i = j
          · subst e; simp [hjf] at hsi
          · have hoi : all[i]? = some all[i] := Array.getElem?_eq_getElem (by omega)
            have p := pair j i o _ ho hoi (by omega)
            simp only [hoi, Option.any_some]
            cases hd : isStore all[i].op with
            | false => rfl
            | true =>
              simp only [pairOk, Bool.or_eq_true] at p
              rcases p with p | p
              · have := hcl j i hsi p
                simp [hjf] at this
              · rcases hss with h | h <;> simp [hd, h] at p
      have hlive : ∀ b, (heapS all G (fun i => listed.getD i false) all.size).live b = (G j).live b := fun b => by
        rw [heapS_live hL b all.size (Nat.le_refl _), hL j b (Nat.le_of_lt hjn)]
      -- afterwards
      have hs' : ∀ i, (listed.setIfInBounds j true).getD i false = if i = j then true else listed.getD i false := by
        intro i
        simp only [Array.getD_eq_getD_getElem?, Array.getElem?_setIfInBounds]
        by_cases e : i = j
        · subst e; simp [hsz, hjn]
        · rw [if_neg (fun h => e h.symm), if_neg e]
      have next : ∀ (κ' : Ctx) (a' : Act), Step κ κ' → SRel κ' N ((envS all (R 0) V (fun i => listed.getD i false) all.size).put o.dst (V j)) (if isStore o.op then G (j + 1) else heapS all G (fun i => listed.getD i false) all.size) a' →
          wpAny P .any all Q' fuel (listed.setIfInBounds j true) a' κ'.w := by
        intro κ' a' hst' hs1
        refine ih _ a' κ' (by simp [hsz]) ?_ ?_ (hst.trans hst') ?_
        · have := cnt_add (s := fun i => listed.getD i false) (s' := fun i => (listed.setIfInBounds j true).getD i false) (j := j) hjf (by simp [hs']) (fun i hi => by simp only [hs', if_neg hi]) all.size
          rw [this, if_pos hjn]; omega
        · intro i k hk hi
          rw [hs'] at hk ⊢
          split
          · rfl
          · split at hk
            · rename_i e; subst e; exact hpred i hi
            · exact hcl i k hk hi
        · have eH : heapS all G (fun i => (listed.setIfInBounds j true).getD i false) all.size = if isStore o.op then G (j + 1) else heapS all G (fun i => listed.getD i false) all.size := by
            by_cases hso : isStore o.op = true
            · rw [if_pos hso, heapS_late all.size (show j + 1 ≤ all.size by omega)]
              · simp only [heapS, hs', if_true, ho, Option.any_some, hso, Bool.and_self]
              · intro i h1 h2 hsi
                have hne : i ≠ j := by omega
                simp only [hs', if_neg hne] at hsi
                have hoi : all[i]? = some all[i] := Array.getElem?_eq_getElem (by omega)
                have p := pair j i o _ ho hoi (by omega)
                simp only [hoi, Option.any_some]
                cases hd : isStore all[i].op with
                | false => rfl
                | true =>
                  simp only [pairOk, Bool.or_eq_true] at p
                  rcases p with p | p
                  · have := hcl j i hsi p
                    simp [hjf] at this
                  · simp [hd, hso] at p
            · rw [if_neg hso]
              have : ∀ m, heapS all G (fun i => (listed.setIfInBounds j true).getD i false) m = heapS all G (fun i => listed.getD i false) m := by
                intro m
                induction m with
                | zero => rfl
                | succ m ihm =>
                  simp only [heapS, hs']
                  by_cases e : m = j
                  · subst e
                    rw [Bool.not_eq_true] at hso
                    simp only [ho, Option.any_some, hso, Bool.and_false, Bool.false_eq_true, if_false]
                    simpa only [hs'] using ihm
                  · simp only [if_neg e]
                    split
                    · rfl
                    · simpa only [hs'] using ihm
              exact this _
          rw [eH]
          refine hs1.sub fun t v hv => ?_
          rw [put_get]
          by_cases hd : o.dst = some t
          · rw [if_pos hd]
            rw [envS_late all.size (show j + 1 ≤ all.size by omega)] at hv
            · simp only [envS, hs', if_true, ho, Option.bind_some] at hv
              rw [put_get, if_pos hd] at hv
              exact hv
            · intro i h1 h2 hsi hdi
              have hne : i ≠ j := by omega
              simp only [hs', if_neg hne] at hsi
              have hoi : all[i]? = some all[i] := Array.getElem?_eq_getElem (by omega)
              have p := pair j i o _ ho hoi (by omega)
              simp only [hoi, Option.bind_some] at hdi
              simp only [pairOk, Bool.or_eq_true] at p
              rcases p with p | p
              · have := hcl j i hsi p
                simp [hjf] at this
              · have : t ∈ slotsOf all o := by simp [slotsOf, hd]
                simp [hdi, this] at p
          · rw [if_neg hd]
            have : ∀ m, (envS all (R 0) V (fun i => (listed.setIfInBounds j true).getD i false) m).get t = (envS all (R 0) V (fun i => listed.getD i false) m).get t := by
              intro m
              induction m with
              | zero => rfl
              | succ m ihm =>
                simp only [envS, hs']
                by_cases e : m = j
                · subst e
                  simp only [if_true, ho, Option.bind_some, hjf, Bool.false_eq_true, if_false]
                  rw [put_get, if_neg hd]
                  simpa only [hs'] using ihm
                · simp only [if_neg e]
                  split
                  · rw [put_get, put_get]
                    split
                    · rfl
                    · simpa only [hs'] using ihm
                  · simpa only [hs'] using ihm
            rw [this] at hv
            exact hv
      -- the operation itself
      unfold wpOp
      simp only [ho]
      have hguard := guard_same (o := o) hA
      rcases st.act with ⟨hg, hv, hGe⟩ | ⟨hg, hact⟩
      · rw [guardOf_spec hs (hguard.trans hg)]
        simp only [Bool.false_eq_true, if_false]
        refine next κ _ (.refl _) ?_
        have : (if isStore o.op then G (j + 1) else heapS all G (fun i => listed.getD i false) all.size) = heapS all G (fun i => listed.getD i false) all.size := by
          split
          · rename_i hso; rw [hGe, hH (.inl hso)]
          · rfl
        rw [this, hv]
        refine hs.put (dstOk_spec st.dst) ?_
        simp only [VRel, Go.undef]; exact ⟨#[], rfl, by simp [VRels]⟩
      · rw [guardOf_spec hs (hguard.trans hg)]
        simp only [if_true]
        refine .inl ?_
        have hops := ops_same (o := o) hA
        rcases hact with ⟨hns, hov, hGe⟩ | ⟨hns, hnse, hpc, hGe⟩ | ⟨t, x, y, g, n, hop, hty, hst2, hv⟩
        · have h1 : opv P (envS all (R 0) V (fun i => listed.getD i false) all.size) (heapS all G (fun i => listed.getD i false) all.size) o.op = some (V j) := by
            rw [opv_same hops]
            cases hse : isSens o.op with
            | true => rw [hH (.inr hse)]; exact hov
            | false => rw [opv_live hlive hse]; exact hov
          obtain ⟨u, r1, r2⟩ := opv_sound hs h1
          unfold Oper.wp
          rw [r1]
          refine next κ _ (.refl _) ?_
          rw [if_neg (by simp [hns])]
          exact hs.put (dstOk_spec st.dst) r2
        · obtain ⟨x, args, ts, f, first, caps, hop, hx, hp⟩ := pcall_same (fun z hz => (hops z hz).symm) hpc
          refine aop_call (K := fun ρ' σ' => ρ' = (envS all (R 0) V (fun i => listed.getD i false) all.size).put o.dst (V j) ∧ σ' = heapS all G (fun i => listed.getD i false) all.size) hop hx hp st.dst ⟨rfl, rfl⟩ _ _ κ a hs ?_
          rintro κ' ρ' σ' a' k1 k2 ⟨rfl, rfl⟩
          refine next κ' a' k1 ?_
          rw [if_neg (by simp [hns])]
          exact k2
        · have hso : isStore o.op = true := by rw [hop]; rfl
          have hx : (envS all (R 0) V (fun i => listed.getD i false) all.size).ev x = (R j).ev x := hops x (by rw [hop]; simp [Op.operands])
          have hy : (envS all (R 0) V (fun i => listed.getD i false) all.size).ev y = (R j).ev y := hops y (by rw [hop]; simp [Op.operands])
          rw [← hx, ← hy, ← hH (.inl hso)] at hst2
          obtain ⟨κ', r1, r2, r3⟩ := run_store hty hs (hs.ev x) (hs.ev y) hst2
          unfold Oper.wp
          have : (execOp a.eval o).run P κ.w = .ok .skip κ'.w := by
            simp only [execOp, hop, Sem.run_bind, r1, Result.andThen_ok, pure, Sem.run]
          rw [this]
          refine next κ' _ r2 ?_
          rw [if_pos hso, hv]
          refine r3.put (dstOk_spec st.dst) ?_
          simp only [VRel, Go.undef]; exact ⟨#[], rfl, by simp [VRels]⟩
end
end Go.Proofs.Hz
