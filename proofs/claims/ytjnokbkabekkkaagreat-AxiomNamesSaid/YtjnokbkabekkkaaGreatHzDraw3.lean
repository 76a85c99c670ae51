/- Regions that draw their order: one run in the order of the text stands for all. -/
import Derived.Test.YtjnokbkabekkkaaGreatHzDraw2
set_option linter.all false
namespace Go.Proofs.Hz
open Go

/-! ### what stands ahead -/
def stepB (acc : List (List Nat)) (o : Oper) : List Nat := (o.after.toList.filterMap fun e => if Region.binds .any e then some e.on else none).foldl (fun s j => addAll s (j :: (acc[j]?).getD [])) []
theorem befores_len : ∀ (l : List Oper) (acc : List (List Nat)), (befores acc l).length = acc.length + l.length
  | [], acc => by simp [befores]
  | o :: l, acc => by simp only [befores]; rw [befores_len l]; simp; omega
theorem befores_old : ∀ (l : List Oper) (acc : List (List Nat)) (k : Nat), k < acc.length → (befores acc l)[k]? = acc[k]?
  | [], acc, k, _ => rfl
  | o :: l, acc, k, h => by
    simp only [befores]
    rw [befores_old l _ k (by simp; omega), List.getElem?_append_left h]
theorem befores_at : ∀ (l : List Oper) (acc : List (List Nat)) (j : Nat) (o : Oper), l[j]? = some o → (befores acc l)[acc.length + j]? = some (stepB ((befores acc l).take (acc.length + j)) o)
  | [], acc, j, o, h => by simp at h
  | x :: l, acc, 0, o, h => by
    simp at h; subst h
    simp only [befores, Nat.add_zero]
    rw [befores_old l _ _ (by simp)]
    have e : (befores (acc ++ [stepB acc x]) l).take acc.length = acc := by
      apply List.ext_getElem?
      intro i
      rw [List.getElem?_take]
      split
      · rename_i hi
        rw [befores_old l _ i (by simp; omega), List.getElem?_append_left hi]
      · rename_i hi
        rw [List.getElem?_eq_none (by omega)]
    show (acc ++ [stepB acc x])[acc.length]? = some (stepB ((befores (acc ++ [stepB acc x]) l).take acc.length) x)
    rw [e]
    simp
  | x :: l, acc, j + 1, o, h => by
    have := befores_at l (acc ++ [stepB acc x]) j o (by simpa using h)
    simp only [List.length_append, List.length_cons, List.length_nil] at this
    show (befores (acc ++ [stepB acc x]) l)[acc.length + (j + 1)]? = some (stepB ((befores (acc ++ [stepB acc x]) l).take (acc.length + (j + 1))) o)
    rw [show acc.length + (j + 1) = acc.length + (0 + 1) + j by omega]
    exact this
theorem mem_addAll {i : Nat} : ∀ (l s : List Nat), i ∈ addAll s l → i ∈ s ∨ i ∈ l
  | [], s, h => .inl h
  | x :: l, s, h => by
    simp only [addAll] at h
    rcases mem_addAll l _ h with h | h
    · split at h
      · exact .inl h
      · rcases List.mem_cons.1 h with h | h
        · exact .inr (by simp [h])
        · exact .inl h
    · exact .inr (by simp [h])
theorem mem_foldB (acc : List (List Nat)) (i : Nat) : ∀ (es : List Nat) (s : List Nat), i ∈ es.foldl (fun s j => addAll s (j :: (acc[j]?).getD [])) s → i ∈ s ∨ ∃ j ∈ es, i = j ∨ i ∈ (acc[j]?).getD []
  | [], s, h => .inl h
  | e :: es, s, h => by
    simp only [List.foldl_cons] at h
    rcases mem_foldB acc i es _ h with h | ⟨j, hj, h⟩
    · rcases mem_addAll _ _ h with h | h
      · exact .inl h
      · rcases List.mem_cons.1 h with h | h
        · exact .inr ⟨e, by simp, .inl h⟩
        · exact .inr ⟨e, by simp, .inr h⟩
    · exact .inr ⟨j, by simp [hj], h⟩
theorem ahead_step {all : Array Oper} {i j : Nat} {o : Oper} (hj : all.toList[j]? = some o) (h : ahead (befores [] all.toList) i j = true) :
    ∃ e, e ∈ o.after.toList ∧ Region.binds .any e = true ∧ (i = e.on ∨ ahead (befores [] all.toList) i e.on = true) := by
  unfold ahead at h
  have hb := befores_at all.toList [] j o hj
  simp only [List.length_nil, Nat.zero_add] at hb
  rw [hb] at h
  simp only [Option.getD_some, List.contains_iff_mem] at h
  rcases mem_foldB _ i _ _ h with h | ⟨k, hk, h⟩
  · simp at h
  · simp only [List.mem_filterMap] at hk
    obtain ⟨e, he, hek⟩ := hk
    split at hek
    · rename_i hbd
      cases hek
      refine ⟨e, he, hbd, h.imp id fun h => ?_⟩
      unfold ahead
      rw [List.getElem?_take] at h
      split at h
      · simpa using h
      · simp at h
    · cases hek
theorem pairsOk_get {all : Array Oper} {bs : List (List Nat)} {i : Nat} {x : Oper} : ∀ (l : List Oper) (j k : Nat) (y : Oper), pairsOk all bs i x j l = true → l[k]? = some y → pairOk all bs i (j + k) x y = true
  | [], j, k, y, _, h => by simp at h
  | z :: l, j, 0, y, h, hk => by
    simp at hk; subst hk
    simp only [pairsOk, Bool.and_eq_true] at h
    exact h.1
  | z :: l, j, k + 1, y, h, hk => by
    simp only [pairsOk, Bool.and_eq_true] at h
    have := pairsOk_get l (j + 1) k y h.2 (by simpa using hk)
    rwa [show j + 1 + k = j + (k + 1) by omega] at this
theorem allPairs_get {all : Array Oper} {bs : List (List Nat)} : ∀ (l : List Oper) (i a b : Nat) (x y : Oper), allPairs all bs i l = true → l[a]? = some x → l[b]? = some y → a < b → pairOk all bs (i + a) (i + b) x y = true
  | [], i, a, b, x, y, _, h, _, _ => by simp at h
  | z :: l, i, 0, b, x, y, h, ha, hb, hlt => by
    simp at ha; subst ha
    simp only [allPairs, Bool.and_eq_true] at h
    obtain ⟨b, rfl⟩ : ∃ c, b = c + 1 := ⟨b - 1, by omega⟩
    have := pairsOk_get l (i + 1) b y h.1 (by simpa using hb)
    rwa [show i + 1 + b = i + (b + 1) by omega] at this
  | z :: l, i, a + 1, b, x, y, h, ha, hb, hlt => by
    simp only [allPairs, Bool.and_eq_true] at h
    obtain ⟨b, rfl⟩ : ∃ c, b = c + 1 := ⟨b - 1, by omega⟩
    have := allPairs_get l (i + 1) a b x y h.2 (by simpa using ha) (by simpa using hb) (by omega)
    rwa [show i + 1 + a = i + (a + 1) by omega, show i + 1 + b = i + (b + 1) by omega] at this
theorem edgesOk_get : ∀ (l : List Oper) (i j : Nat) (o : Oper), edgesOk i l = true → l[j]? = some o → ∀ e ∈ o.after.toList, Region.binds .any e = true → e.on < i + j
  | [], i, j, o, _, h => by simp at h
  | x :: l, i, 0, o, h, hj => by
    simp at hj; subst hj
    simp only [edgesOk, Bool.and_eq_true, List.all_eq_true] at h
    intro e he hb
    have := h.1 e he
    simpa [hb] using this
  | x :: l, i, j + 1, o, h, hj => by
    simp only [edgesOk, Bool.and_eq_true] at h
    intro e he hb
    have := edgesOk_get l (i + 1) j o h.2 (by simpa using hj) e he hb
    omega

/-! ### the run in the order of the text -/
/-- What the j-th operation does. -/
structure DStep (P : Program) (N : Nat) (all : Array Oper) (o : Oper) (ρ ρ' : Env) (σ σ' : H) (v : AV) : Prop where
  dst : dstOk N o = true
  env : ρ' = ρ.put o.dst v
  act : (guardOf ρ all o = some false ∧ v = .tup [] ∧ σ' = σ) ∨
    (guardOf ρ all o = some true ∧ ((isStore o.op = false ∧ opv P ρ σ o.op = some v ∧ σ' = σ) ∨ (isStore o.op = false ∧ isSens o.op = false ∧ PCall P ρ o.op v ∧ σ' = σ) ∨
      (∃ t x y g n, o.op = .store t x y ∧ tyL P t = some (g, n) ∧ astore n σ (ρ.ev x) (ρ.ev y) = some σ' ∧ v = .tup [])))
theorem H.live_set {σ : H} {b b2 : Nat} {d d' : Blk} (h : σ.get b = some d) : (σ.set b d').live b2 = σ.live b2 := by
  unfold H.live
  by_cases e : b2 = b
  · subst e; rw [H.get_set_same, h]; rfl
  · rw [H.get_set_ne _ _ e]
theorem astore_live {n : Nat} {σ σ' : H} {p v : AV} (h : astore n σ p v = some σ') (b : Nat) : σ'.live b = σ.live b := by
  unfold astore at h
  split at h
  · split at h
    · rename_i cs hb
      split at h
      · split at h
        · cases h; exact H.live_set hb
        · cases h
      · cases h
    · cases h
  · cases h
theorem DStep.live {P : Program} {N : Nat} {all : Array Oper} {o : Oper} {ρ ρ' : Env} {σ σ' : H} {v : AV} (h : DStep P N all o ρ ρ' σ σ' v) (b : Nat) : σ'.live b = σ.live b := by
  rcases h.act with ⟨_, _, rfl⟩ | ⟨_, ⟨_, _, rfl⟩ | ⟨_, _, _, rfl⟩ | ⟨t, x, y, g, n, _, _, hst, _⟩⟩
  · rfl
  · rfl
  · rfl
  · exact astore_live hst b
theorem DStep.same {P : Program} {N : Nat} {all : Array Oper} {o : Oper} {ρ ρ' : Env} {σ σ' : H} {v : AV} (h : DStep P N all o ρ ρ' σ σ' v) (hs : isStore o.op = false) : σ' = σ := by
  rcases h.act with ⟨_, _, rfl⟩ | ⟨_, ⟨_, _, rfl⟩ | ⟨_, _, _, rfl⟩ | ⟨t, x, y, g, n, e, _, _, _⟩⟩
  · rfl
  · rfl
  · rfl
  · rw [e] at hs; simp [isStore] at hs
section
variable {P : Program} {N : Nat} {all : Array Oper} {R : Nat → Env} {G : Nat → H} {V : Nat → AV}
/-- The slots when just these are done. -/
def envS (all : Array Oper) (R0 : Env) (V : Nat → AV) (s : Nat → Bool) : Nat → Env
  | 0 => R0
  | j + 1 => if s j then (envS all R0 V s j).put ((all[j]?).bind (·.dst)) (V j) else envS all R0 V s j
/-- The heap when just these are done. -/
def heapS (all : Array Oper) (G : Nat → H) (s : Nat → Bool) : Nat → H
  | 0 => G 0
  | j + 1 => if s j && ((all[j]?).any fun o => isStore o.op) then G (j + 1) else heapS all G s j
theorem put_get {ρ : Env} {d : Option Nat} {v : AV} {t : Nat} : (ρ.put d v).get t = if d = some t then some v else ρ.get t := by
  cases d with
  | none => simp [Env.put]
  | some d =>
    simp only [Env.put, Env.get, Option.some.injEq]
    by_cases e : t = d
    · rw [if_pos e, if_pos e.symm]
    · rw [if_neg e, if_neg (fun h => e h.symm)]
theorem envS_late {R0 : Env} {s : Nat → Bool} {j t : Nat} : ∀ n, j ≤ n → (∀ i, j ≤ i → i < n → s i = true → (all[i]?).bind (·.dst) ≠ some t) → (envS all R0 V s n).get t = (envS all R0 V s j).get t := by
  intro n hn
  induction n with
  | zero => intro _; have : j = 0 := by omega
            subst this; rfl
  | succ n ih =>
    intro h
    by_cases e : j = n + 1
    · subst e; rfl
    · simp only [envS]
      split
      · rename_i hs
        rw [put_get, if_neg (h n (by omega) (by omega) hs)]
        exact ih (by omega) fun i h1 h2 => h i h1 (by omega)
      · exact ih (by omega) fun i h1 h2 => h i h1 (by omega)
theorem envS_early {s : Nat → Bool} (hR : ∀ j o, all[j]? = some o → R (j + 1) = (R j).put o.dst (V j)) {t : Nat} : ∀ j, j ≤ all.size → (∀ i, i < j → (all[i]?).bind (·.dst) = some t → s i = true) → (envS all (R 0) V s j).get t = (R j).get t := by
  intro j
  induction j with
  | zero => intro _ _; rfl
  | succ j ih =>
    intro hj h
    have ho : all[j]? = some all[j] := Array.getElem?_eq_getElem (by omega)
    rw [hR j _ ho, put_get]
    simp only [envS]
    split
    · rw [put_get]
      simp only [ho, Option.bind_some]
      rw [ih (by omega) fun i hi => h i (by omega)]
    · rename_i hs
      have hne : ¬ (all[j].dst = some t) := fun e => hs (h j (by omega) (by simp [ho, e]))
      rw [if_neg hne]
      exact ih (by omega) fun i hi => h i (by omega)
theorem heapS_late {s : Nat → Bool} {j : Nat} : ∀ n, j ≤ n → (∀ i, j ≤ i → i < n → s i = true → ((all[i]?).any fun o => isStore o.op) = false) → heapS all G s n = heapS all G s j := by
  intro n hn
  induction n with
  | zero => intro _; have : j = 0 := by omega
            subst this; rfl
  | succ n ih =>
    intro h
    by_cases e : j = n + 1
    · subst e; rfl
    · simp only [heapS]
      by_cases hs : s n = true
      · rw [h n (by omega) (by omega) hs, Bool.and_false, if_neg (by simp)]
        exact ih (by omega) fun i h1 h2 => h i h1 (by omega)
      · rw [Bool.not_eq_true] at hs
        rw [hs, Bool.false_and, if_neg (by simp)]
        exact ih (by omega) fun i h1 h2 => h i h1 (by omega)
theorem heapS_early {s : Nat → Bool} (hG : ∀ j o, all[j]? = some o → isStore o.op = false → G (j + 1) = G j) : ∀ j, j ≤ all.size → (∀ i, i < j → ((all[i]?).any fun o => isStore o.op) = true → s i = true) → heapS all G s j = G j := by
  intro j
  induction j with
  | zero => intro _ _; rfl
  | succ j ih =>
    intro hj h
    have ho : all[j]? = some all[j] := Array.getElem?_eq_getElem (by omega)
    simp only [heapS, ho, Option.any_some]
    by_cases hst : isStore all[j].op = true
    · rw [hst, h j (by omega) (by simp [ho, hst])]; simp
    · rw [Bool.not_eq_true] at hst
      rw [hst, Bool.and_false, if_neg (by simp), hG j _ ho hst]
      exact ih (by omega) fun i hi => h i (by omega)
theorem heapS_live {s : Nat → Bool} (hL : ∀ j b, j ≤ all.size → (G j).live b = (G 0).live b) (b : Nat) : ∀ n, n ≤ all.size → (heapS all G s n).live b = (G 0).live b := by
  intro n
  induction n with
  | zero => intro _; rfl
  | succ n ih =>
    intro hn
    simp only [heapS]
    split
    · exact hL _ b hn
    · exact ih (by omega)
end
end Go.Proofs.Hz
