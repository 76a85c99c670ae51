/- A run, computed: regions that draw their order; code. -/
import Derived.Test.YtjnokbkabekkkaaGreatHzEv
set_option linter.all false
namespace Go.Proofs.Hz
open Go

/-- What a call hands back, as memory that is only read. -/
def frV (v : AV) (σ : H) : Option AV :=
  match (freezeL 400 (reach σ 1000 v.names []).reverse [(0, v)] σ).1.get 0 with
  | some v' => if v'.noref = true then some v' else none
  | none => none
theorem pure_of_cf {P : Program} {cf : CF} (hcf : CFok P cf) {f : FuncId} {args : List AV} {v v' : AV} {σ' : H} (h : cf f args [] = some (v, σ')) (hv : frV v σ' = some v') : PureF P f args v' := by
  have this := hcf _ _ _ _ _ h
  unfold frV at hv
  split at hv
  · rename_i v2 hget
    split at hv
    · rename_i hn
      cases hv
      refine ⟨hn, this.1, fun κ us h1 h2 => (this.2 κ us h1 h2).mono ?_⟩
      rintro e w' ⟨κ', v0, u, σ2, rfl, rfl, g1, g2, g3, rfl, rfl⟩
      have hs : SRel κ' 1 [(0, v0)] σ2 { tmps := #[u], defers := [] } := by
        refine ⟨rfl, rfl, fun t v hv => ?_, g2⟩
        simp only [Env.get] at hv
        split at hv
        · rename_i e; subst e; cases hv; exact ⟨u, rfl, g3⟩
        · cases hv
      obtain ⟨κ2, q1, q2, q3⟩ := freezeL_rel 400 (reach σ2 1000 v0.names []).reverse hs
      obtain ⟨u2, q4, q5⟩ := q3.env 0 _ hget
      have : u2 = u := by simpa using q4.symm
      subst this
      refine ⟨κ2.only [], _, u2, [], by rw [← q1]; rfl, rfl, (g1.trans q2).trans ?_, ?_, VRel.le (κ2.only_le []) _ _ (κ2.only_ids [] _) q5, rfl⟩
      · exact ⟨rfl, Nat.le_refl _, fun _ _ _ => rfl, fun _ => Nat.le_refl _, fun x c h => by simp [Ctx.only] at h, rfl, rfl, rfl, fun x _ => by simp only [Ctx.only]; split <;> simp⟩
      · exact ⟨fun b d h => by simp [H.get] at h, fun b c h => by simp [Ctx.only] at h, fun b b' c h => by simp [Ctx.only] at h, q3.heap.xlt⟩
    · cases hv
  · cases hv
def hasCall0 (all : Array Oper) : Bool := all.any fun o => match o.op with
  | .call ⟨.value _, _, _⟩ => true
  | _ => false
def isTmp (d : Nat) : Operand → Bool
  | .tmp t => t == d
  | _ => false
/-- Is what slot d gets only seen? -/
def isFz (all : Array Oper) (d : Nat) : Bool := hasCall0 all && !(all.any fun o => match o.op with
  | .store _ x _ => isTmp d x
  | .call ⟨.builtin .append, args, _⟩ => args.any (isTmp d)
  | _ => false)
section
variable (P : Program) (cf : CF) (N : Nat)
def recOf (all : Array Oper) (ρ : Env) (σ : H) (o : Oper) : Option Rec :=
  let ms := o.op.operands.toList.map ρ.ev
  let rd := rdOf ρ o.op
  match guardOf ρ all o with
  | none => none
  | some false => some ⟨ms, rd, .tup [], [], []⟩
  | some true => match o.op with
    | .call ⟨.value x, args, ts⟩ => match ρ.ev x with
      | .func f first caps => match cf f (first ++ args.toList.map ρ.ev ++ caps) [] with
        | some (v, σ') => match frV v σ' with
          | some v' => some ⟨ms, rd, v', [], []⟩
          | none => none
        | none => none
      | _ => none
    | op => match opv P ρ σ op with
      | some v => some ⟨ms, rd, v, [], []⟩
      | none => match aopd P ρ σ o with
        | some (v, ts) => match o.dst with
          | some d => if isNew o && isFz all d then
              match frz v ts, ts with
              | some v', [(b, _)] => if b = d then some ⟨ms, rd, v', [], [d]⟩ else none
              | _, _ => none
              else some ⟨ms, rd, v, ts, [d]⟩
          | none => some ⟨ms, rd, v, ts, []⟩
        | none => none
def evX (all : Array Oper) : List Oper → Env → H → Option (List Rec × Env × H)
  | [], ρ, σ => some ([], ρ, σ)
  | o :: l, ρ, σ => if dstOk N o then
    match recOf P cf all ρ σ o with
    | some r => match evX all l (ρ.put o.dst r.v) (upds σ r.ts) with
      | some (rs, ρ', σ') => some (r :: rs, ρ', σ')
      | none => none
    | none => none
    else none
end
def prs (st : Nat → Bool) (all : Array Oper) (bs : List (List Nat)) (i : Nat) (x : Oper) (ri : Rec) : Nat → List Oper → List Rec → Bool
  | j, y :: l, rj :: rs => pairOkx st all bs i j x y ri rj && prs st all bs i x ri (j + 1) l rs
  | _, _, _ => true
def prsAll (st : Nat → Bool) (all : Array Oper) (bs : List (List Nat)) : Nat → List Oper → List Rec → Bool
  | i, x :: l, r :: rs => prs st all bs i x r (i + 1) l rs && prsAll st all bs (i + 1) l rs
  | _, _, _ => true
theorem prs_get {st : Nat → Bool} {all : Array Oper} {bs : List (List Nat)} {i : Nat} {x : Oper} {ri : Rec} : ∀ (l : List Oper) (rs : List Rec) (j k : Nat) (y : Oper) (rj : Rec), prs st all bs i x ri j l rs = true → l[k]? = some y → rs[k]? = some rj → pairOkx st all bs i (j + k) x y ri rj = true
  | [], _, j, k, y, rj, _, h, _ => by simp at h
  | z :: l, [], j, k, y, rj, _, _, h => by simp at h
  | z :: l, r :: rs, j, 0, y, rj, h, h1, h2 => by
    simp at h1 h2; subst h1 h2
    simp only [prs, Bool.and_eq_true] at h; exact h.1
  | z :: l, r :: rs, j, k + 1, y, rj, h, h1, h2 => by
    simp only [prs, Bool.and_eq_true] at h
    have := prs_get l rs (j + 1) k y rj h.2 (by simpa using h1) (by simpa using h2)
    rwa [show j + 1 + k = j + (k + 1) by omega] at this
theorem prsAll_get {st : Nat → Bool} {all : Array Oper} {bs : List (List Nat)} : ∀ (l : List Oper) (rs : List Rec) (i a b : Nat) (x y : Oper) (ra rb : Rec), prsAll st all bs i l rs = true → l[a]? = some x → l[b]? = some y → rs[a]? = some ra → rs[b]? = some rb → a < b → pairOkx st all bs (i + a) (i + b) x y ra rb = true
  | [], _, i, a, b, x, y, ra, rb, _, h, _, _, _, _ => by simp at h
  | z :: l, [], i, a, b, x, y, ra, rb, _, _, _, h, _, _ => by simp at h
  | z :: l, r :: rs, i, 0, b, x, y, ra, rb, h, h1, h2, h3, h4, hlt => by
    simp at h1 h3; subst h1 h3
    simp only [prsAll, Bool.and_eq_true] at h
    obtain ⟨b, rfl⟩ : ∃ c, b = c + 1 := ⟨b - 1, by omega⟩
    have := prs_get l rs (i + 1) b y rb h.1 (by simpa using h2) (by simpa using h4)
    rwa [show i + 1 + b = i + (b + 1) by omega] at this
  | z :: l, r :: rs, i, a + 1, b, x, y, ra, rb, h, h1, h2, h3, h4, hlt => by
    simp only [prsAll, Bool.and_eq_true] at h
    obtain ⟨b, rfl⟩ : ∃ c, b = c + 1 := ⟨b - 1, by omega⟩
    have := prsAll_get l rs (i + 1) a b x y ra rb h.2 (by simpa using h1) (by simpa using h2) (by simpa using h3) (by simpa using h4) (by omega)
    rwa [show i + 1 + a = i + (a + 1) by omega, show i + 1 + b = i + (b + 1) by omega] at this
theorem recOf_sound {P : Program} {cf : CF} (hcf : CFok P cf) {N : Nat} {all : Array Oper} {ρ : Env} {σ : H} {o : Oper} {r : Rec} (hd : dstOk N o = true) (h : recOf P cf all ρ σ o = some r) : XStep P N all o ρ σ r := by
  unfold recOf at h
  simp only at h
  split at h
  · cases h
  · rename_i hg
    cases h
    exact ⟨hd, rfl, rfl, .inl ⟨hg, rfl, rfl⟩⟩
  · rename_i hg
    split at h
    · rename_i x args ts hop
      split at h
      · rename_i f first caps hx
        split at h
        · rename_i v σ' hc
          split at h
          · rename_i v' hfr
            cases h
            exact ⟨hd, rfl, rfl, .inr ⟨hg, .inr (.inl ⟨⟨x, args, ts, f, first, caps, hop, hx, pure_of_cf hcf hc hfr⟩, rfl⟩)⟩⟩
          · cases h
        · cases h
      · cases h
    · split at h
      · rename_i v hv
        cases h
        exact ⟨hd, rfl, rfl, .inr ⟨hg, .inl ⟨hv, rfl⟩⟩⟩
      · split at h
        · rename_i v ts ha
          split at h
          · rename_i d hdst
            split at h
            · rename_i hnew
              simp only [Bool.and_eq_true] at hnew
              split at h
              · rename_i v' b bb hf
                split at h
                · rename_i e
                  cases h
                  refine ⟨hd, rfl, rfl, .inr ⟨hg, .inr (.inr (.inr ⟨⟨v, _, ha, hf, rfl, fun b' d' hb' => ?_⟩, hnew.1⟩))⟩⟩
                  simp only [List.mem_singleton, Prod.mk.injEq] at hb'
                  obtain ⟨rfl, _⟩ := hb'
                  subst e
                  exact ⟨hdst, by simp⟩
                · cases h
              · cases h
            · cases h
              exact ⟨hd, rfl, rfl, .inr ⟨hg, .inr (.inr (.inl ⟨ha, fun _ d' hd' => by rw [hdst] at hd'; cases hd'; simp⟩))⟩⟩
          · rename_i hdst
            cases h
            exact ⟨hd, rfl, rfl, .inr ⟨hg, .inr (.inr (.inl ⟨ha, fun _ d' hd' => by rw [hdst] at hd'; cases hd'⟩))⟩⟩
        · cases h
instance : Inhabited Rec := ⟨⟨[], [], .undef, [], []⟩⟩
def envR (all : Array Oper) (ρ : Env) (C : Nat → Rec) : Nat → Env
  | 0 => ρ
  | j + 1 => match all[j]? with
    | some o => (envR all ρ C j).put o.dst (C j).v
    | none => envR all ρ C j
def heapR (σ : H) (C : Nat → Rec) : Nat → H
  | 0 => σ
  | j + 1 => upds (heapR σ C j) (C j).ts
theorem evX_steps {P : Program} {cf : CF} (hcf : CFok P cf) {N : Nat} {all : Array Oper} {ρ0 : Env} {σ0 : H} {C : Nat → Rec} : ∀ (l : List Oper) (j : Nat) (rs : List Rec) (ρ' : Env) (σ' : H), all.toList.drop j = l → (∀ k r, rs[k]? = some r → C (j + k) = r) →
    evX P cf N all l (envR all ρ0 C j) (heapR σ0 C j) = some (rs, ρ', σ') → rs.length = l.length ∧ envR all ρ0 C (j + l.length) = ρ' ∧ heapR σ0 C (j + l.length) = σ' ∧ ∀ k o, j ≤ k → all[k]? = some o → XStep P N all o (envR all ρ0 C k) (heapR σ0 C k) (C k)
  | [], j, rs, ρ', σ', hd, hC, h => by
    simp only [evX, Option.some.injEq, Prod.mk.injEq] at h
    obtain ⟨rfl, rfl, rfl⟩ := h
    refine ⟨rfl, rfl, rfl, fun k o hj ho => ?_⟩
    have : all.toList.length ≤ j := by simpa using hd
    have h2 := (Array.getElem?_eq_some_iff.1 ho).1
    simp at this
    omega
  | o :: l, j, rs, ρ', σ', hd, hC, h => by
    have ho : all[j]? = some o := by
      have : (all.toList.drop j).head? = some o := by rw [hd]; rfl
      rw [List.head?_drop] at this
      simpa using this
    have hd' : all.toList.drop (j + 1) = l := by rw [← List.tail_drop, hd]; rfl
    simp only [evX] at h
    split at h
    · rename_i hdst
      split at h
      · rename_i r hr
        split at h
        · rename_i rs' ρ2 σ2 hrest
          simp only [Option.some.injEq, Prod.mk.injEq] at h
          obtain ⟨rfl, rfl, rfl⟩ := h
          have eC : C j = r := hC 0 r (by simp)
          have eR : envR all ρ0 C (j + 1) = (envR all ρ0 C j).put o.dst r.v := by simp only [envR, ho, eC]
          have eH : heapR σ0 C (j + 1) = upds (heapR σ0 C j) r.ts := by simp only [heapR, eC]
          rw [← eR, ← eH] at hrest
          obtain ⟨g1, g2, g3, g4⟩ := evX_steps hcf l (j + 1) rs' _ _ hd' (fun k r' hk => by
            have := hC (k + 1) r' (by simpa using hk)
            rwa [show j + (k + 1) = j + 1 + k by omega] at this) hrest
          refine ⟨by simp [g1], ?_, ?_, fun k x hj hx => ?_⟩
          · rw [List.length_cons, show j + (l.length + 1) = j + 1 + l.length by omega]; exact g2
          · rw [List.length_cons, show j + (l.length + 1) = j + 1 + l.length by omega]; exact g3
          · by_cases e : k = j
            · subst e
              rw [ho] at hx; cases hx
              rw [eC]; exact recOf_sound hcf hdst hr
            · exact g4 k x (by omega) hx
        · cases h
      · cases h
    · cases h
/-- Which blocks are given up ahead of a region that draws its order: what its calls may see. -/
def hasCall (all : Array Oper) : Bool := all.any fun o => match o.op with
  | .call ⟨.value _, _, _⟩ => true
  | _ => false
def opNames (P : Program) (all : Array Oper) : List Oper → Env → H → List Nat
  | [], _, _ => []
  | o :: l, ρ, σ => match o.op with
    | .call ⟨.value x, args, _⟩ => (ρ.ev x).names ++ (args.toList.flatMap fun x => (ρ.ev x).names) ++ opNames P all l ρ σ
    | .buildSlice .. => (match o.dst with
      | some d => if isFz all d then o.op.operands.toList.flatMap fun x => (ρ.ev x).names else []
      | none => []) ++ opNames P all l ρ σ
    | .box .. => (match o.dst with
      | some d => if isFz all d then o.op.operands.toList.flatMap fun x => (ρ.ev x).names else []
      | none => []) ++ opNames P all l ρ σ
    | op => match guardOf ρ all o, opv P ρ σ op with
      | some true, some v => opNames P all l (ρ.put o.dst v) σ
      | _, _ => opNames P all l ρ σ
def yieldUp (P : Program) (all : Array Oper) (ρ : Env) (σ : H) : Env × H := if hasCall all then freezeL 400 (reach σ 1000 (opNames P all all.toList ρ σ) []).reverse ρ σ else (ρ, σ)
/-- Is the block there all along? -/
def stable (σ : H) (rs : List Rec) (b : Nat) : Bool := σ.live b && rs.all fun r => match tget r.ts b with | some none => false | _ => true
/-- A region that draws its order. -/
def evDraw (P : Program) (cf : CF) (N : Nat) (all : Array Oper) (ρ : Env) (σ : H) : Option (Env × H) :=
  if edgesOk 0 all.toList then
    match evX P cf N all all.toList ρ σ with
    | some (rs, ρ', σ') => if prsAll (stable σ rs) all (befores [] all.toList) 0 all.toList rs && rs.all (fun r => r.nw.all fun d => freshB d ρ σ) then some (ρ', σ') else none
    | none => none
  else none
theorem evDraw_sound {P : Program} {cf : CF} (hcf : CFok P cf) {N id : Nat} {all : Array Oper} {ρ ρ' : Env} {σ σ' : H} {Q : Exit → Env → H → Prop} (hm : P.follows .mixedOrders = true) (h : evDraw P cf N all ρ σ = some (ρ', σ')) (hQ : Q .normal ρ' σ') :
    AWp P N (.region id all true) ρ σ Q := by
  unfold evDraw at h
  split at h
  · rename_i hed
    split at h
    · rename_i rs ρ2 σ2 hx
      split at h
      · rename_i hc
        simp only [Bool.and_eq_true] at hc
        simp only [Option.some.injEq, Prod.mk.injEq] at h
        obtain ⟨rfl, rfl⟩ := h
        let C : Nat → Rec := fun j => rs.getD j default
        obtain ⟨g1, g2, g3, g4⟩ := evX_steps (ρ0 := ρ) (σ0 := σ) (C := C) hcf all.toList 0 rs ρ2 σ2 (by simp) (fun k r hk => by simp only [C, Nat.zero_add, List.getD_eq_getElem?_getD, hk, Option.getD_some]) hx
        simp only [Array.length_toList, Nat.zero_add] at g1 g2 g3
        intro κ a hs
        obtain ⟨d1, d2⟩ := drew_step hs
        refine wp_region_any hm ?_
        have z : ∀ i, (Array.replicate all.size false).getD i false = false := fun i => by
          simp only [Array.getD_eq_getD_getElem?]
          cases hh : (Array.replicate all.size false)[i]? with
          | none => rfl
          | some b =>
            have := Array.getElem?_eq_some_iff.1 hh
            obtain ⟨g1, g2⟩ := this
            simp at g2
            simp [← g2]
        have eS : ∀ m, envS all (envR all ρ C 0) (fun i => (C i).v) (fun i => (Array.replicate all.size false).getD i false) m = ρ := by
          intro m
          induction m with
          | zero => rfl
          | succ m ih => simp only [envS, z, Bool.false_eq_true, if_false]; simpa only [z] using ih
        have hS : ∀ m, heapX (heapR σ C 0) C (fun i => (Array.replicate all.size false).getD i false) m = σ := by
          intro m
          induction m with
          | zero => rfl
          | succ m ih => simp only [heapX, z, Bool.false_eq_true, if_false]; simpa only [z] using ih
        have getC : ∀ j, j < all.size → rs[j]? = some (C j) := fun j hj => by
          simp only [C, List.getD_eq_getElem?_getD]
          rw [List.getElem?_eq_getElem (by omega)]; rfl
        refine draw_mainx (P := P) (N := N) (R := envR all ρ C) (G := heapR σ C) (C := C) (κ0 := κ) (stb := stable σ rs) ?_ hed ?_ ?_ (fun j o ho => g4 j o (Nat.zero_le _) ho) ?_ (fun j _ => rfl) ?_ all.size (Array.replicate all.size false) a { κ with w := κ.w.drew } (by simp) ?_ ?_ d1 ?_
        · intro b hb
          simp only [stable, Bool.and_eq_true, List.all_eq_true] at hb
          refine ⟨hb.1, fun i hi o ho => ?_⟩
          have := hb.2 (C i) (List.mem_of_getElem? (getC i hi))
          rw [ho] at this
          cases o with
          | none => cases this
          | some k => rfl
        · intro i j x y hx' hy hlt
          have h1 := (Array.getElem?_eq_some_iff.1 hx').1
          have h2 := (Array.getElem?_eq_some_iff.1 hy).1
          have := prsAll_get all.toList rs 0 i j x y (C i) (C j) hc.1 (by simpa using hx') (by simpa using hy) (getC i h1) (getC j h2) hlt
          simpa using this
        · intro j hj d hd
          have h1 := List.all_eq_true.1 hc.2 (C j) (List.mem_of_getElem? (getC j hj))
          exact freshB_spec (List.all_eq_true.1 h1 d hd)
        · intro j o ho; simp only [envR, ho]
        · intro κ' a' k1 k2
          exact ⟨κ', _, _, rfl, k1, k2, by rw [g2, g3]; exact hQ⟩
        · rw [cnt_none _ fun i _ => z i]; omega
        · intro i j hj
          rw [z] at hj; cases hj
        · rw [eS, hS]; exact d2
      · cases h
    · cases h
  · cases h
end Go.Proofs.Hz
