/- Names that are not yet used; values that are forgotten; append under the old name. -/
import Derived.Test.YtjnokbkabekkkaaGreatHzAppend
set_option linter.all false
namespace Go.Proofs.Hz
open Go

mutual
theorem AV.bounded : ∀ v : AV, ∃ n, ∀ b, n ≤ b → v.men b = false
  | .agg cs => AV.boundeds cs
  | .tup cs => AV.boundeds cs
  | .ref b' _ => ⟨b' + 1, fun b h => by simp [AV.men]; omega⟩
  | .rs b' _ _ _ => ⟨b' + 1, fun b h => by simp [AV.men]; omega⟩
  | .mref b' => ⟨b' + 1, fun b h => by simp [AV.men]; omega⟩
  | .func _ f c => by
    obtain ⟨n, hn⟩ := AV.boundeds f
    obtain ⟨m, hm⟩ := AV.boundeds c
    exact ⟨max n m, fun b h => by simp [AV.men, hn b (by omega), hm b (by omega)]⟩
  | .iface _ v => AV.bounded v
  | .undef | .bool _ | .int _ _ | .str _ | .nilp | .nils | .nilf | .nili | .view _ _ | .sl _ _ _ => ⟨0, fun _ _ => rfl⟩
theorem AV.boundeds : ∀ vs : List AV, ∃ n, ∀ b, n ≤ b → AV.mens b vs = false
  | [] => ⟨0, fun _ _ => rfl⟩
  | v :: vs => by
    obtain ⟨n, hn⟩ := AV.bounded v
    obtain ⟨m, hm⟩ := AV.boundeds vs
    exact ⟨max n m, fun b h => by simp [AV.mens, hn b (by omega), hm b (by omega)]⟩
end
theorem mapMen_bounded : ∀ es : List (AV × AV), ∃ n, ∀ b, n ≤ b → mapMen b es = false
  | [] => ⟨0, fun _ _ => rfl⟩
  | (k, v) :: es => by
    obtain ⟨n, hn⟩ := AV.bounded k
    obtain ⟨m, hm⟩ := AV.bounded v
    obtain ⟨q, hq⟩ := mapMen_bounded es
    exact ⟨max n (max m q), fun b h => by simp [mapMen, hn b (by omega), hm b (by omega), hq b (by omega)]⟩
theorem H.bounded : ∀ σ : H, ∃ n, ∀ b, n ≤ b → σ.men b = false ∧ σ.get b = none
  | [] => ⟨0, fun _ _ => ⟨rfl, rfl⟩⟩
  | (b', d) :: σ => by
    obtain ⟨n, hn⟩ := H.bounded σ
    have : ∃ m, ∀ b, m ≤ b → d.men b = false := by
      cases d with
      | cells cs => exact AV.boundeds cs
      | map es => exact mapMen_bounded es
    obtain ⟨m, hm⟩ := this
    exact ⟨max (b' + 1) (max n m), fun b h => by
      have h1 := hn b (by omega)
      have h2 := hm b (by omega)
      refine ⟨by simp [H.men, h1.1, h2], ?_⟩
      simp only [H.get]; rw [if_neg (by omega)]; exact h1.2⟩
theorem Env.bounded : ∀ ρ : Env, ∃ n, ∀ b, n ≤ b → ρ.men b = false
  | [] => ⟨0, fun _ _ => rfl⟩
  | (_, v) :: ρ => by
    obtain ⟨n, hn⟩ := AV.bounded v
    obtain ⟨m, hm⟩ := Env.bounded ρ
    exact ⟨max n m, fun b h => by simp [Env.men, hn b (by omega), hm b (by omega)]⟩
theorem fresh_exists (ρ : Env) (σ : H) (n : Nat) : ∃ b, n ≤ b ∧ Fresh b ρ σ := by
  obtain ⟨n1, h1⟩ := H.bounded σ
  obtain ⟨n2, h2⟩ := Env.bounded ρ
  exact ⟨2 * max n (max n1 n2), by omega, (h1 _ (by omega)).2, (h1 _ (by omega)).1, h2 _ (by omega), by simp [pinned]⟩

/-- Of each slot the same is known, or nothing. -/
def Env.le (ρ' ρ : Env) : Prop := ∀ t v, ρ'.get t = some v → ∃ v0, ρ.get t = some v0 ∧ (v = .undef ∨ v = v0)
theorem SRel.le {κ : Ctx} {N : Nat} {ρ ρ' : Env} {σ : H} {a : Act} (h : SRel κ N ρ σ a) (hs : ρ'.le ρ) : SRel κ N ρ' σ a :=
  ⟨h.size, h.defers, fun t v hv => by
    obtain ⟨v0, h1, h2⟩ := hs t v hv
    obtain ⟨u, h3, h4⟩ := h.env t v0 h1
    refine ⟨u, h3, ?_⟩
    rcases h2 with rfl | rfl
    · simp [VRel]
    · exact h4, h.heap⟩
/-- Values that name b are forgotten. -/
def Env.purge (b : Nat) : Env → Env
  | [] => []
  | (t, v) :: ρ => (t, if v.men b then .undef else v) :: Env.purge b ρ
theorem Env.purge_le (b : Nat) : ∀ ρ : Env, (ρ.purge b).le ρ
  | [] => fun t v h => by simp [Env.purge, Env.get] at h
  | (t', v') :: ρ => fun t v h => by
    simp only [Env.purge, Env.get] at h ⊢
    split at h
    · rename_i e; subst e
      simp only [Option.some.injEq] at h
      refine ⟨v', by simp, ?_⟩
      subst h
      split
      · exact .inl rfl
      · exact .inr rfl
    · rename_i e
      obtain ⟨v0, h1, h2⟩ := Env.purge_le b ρ t v h
      exact ⟨v0, by simpa [e] using h1, h2⟩
theorem Env.purge_men (b : Nat) : ∀ ρ : Env, (ρ.purge b).men b = false
  | [] => rfl
  | (t, v) :: ρ => by
    simp only [Env.purge, Env.men, Env.purge_men b ρ, Bool.or_false]
    split
    · rfl
    · simp_all
theorem VRel.ren_top {κ : Ctx} {b b2 c off n k : Nat} {u : Value} (hO : κ.O b2 = some c) (h : VRel κ (.rs b2 off n k) u) :
    VRel { κ with O := fun x => if x = b then some c else if x = b2 then none else κ.O x } (.rs b off n k) u := by
  simp only [VRel] at h ⊢
  intro c' hc'
  simp only [if_true, Option.some.injEq] at hc'; subst hc'
  exact h c hO

/-- append(s, x...): a slice of an own block keeps the block's name; a new one gets the name d. -/
def aapp (k by_ : Nat) (ρ : Env) (σ : H) (s x : AV) (d : Nat) : Option (Env × AV × H) :=
  match aelems k σ x with
  | none => none
  | some (m, news) => if solids σ news = true then
    match s with
    | .nils => if m = 0 then some (ρ, .nils, σ) else
      if m * by_ ≤ 140737488355328 ∧ m < 9223372036854775807 ∧ σ.get d = none ∧ σ.men d = false ∧ ρ.men d = false ∧ pinned d = false then some (ρ, .rs d 0 m k, (d, .cells news) :: σ) else none
    | .rs b 0 n k' => if k' = k then match σ.get b with
      | some (.cells cs) => if pinned b = true then
          if cs.length = n * k ∧ (n + m) * by_ ≤ 140737488355328 ∧ n + m < 9223372036854775807 ∧ σ.get d = none ∧ σ.men d = false ∧ ρ.men d = false ∧ pinned d = false then
            some (ρ, .rs d 0 (n + m) k, (d, .cells (cs ++ news)) :: σ.del b) else none
        else if cs.length = n * k ∧ (n + m) * by_ ≤ 140737488355328 ∧ n + m < 9223372036854775807 ∧ (σ.del b).men b = false ∧ AV.mens b cs = false ∧ AV.mens b news = false then
          some (ρ.purge b, .rs b 0 (n + m) k, (b, .cells (cs ++ news)) :: σ.del b) else none
      | _ => none else none
    | _ => none
    else none
theorem H.del_del (σ : H) (b : Nat) (h : σ.get b = none) : σ.del b = σ := by
  induction σ with
  | nil => rfl
  | cons p σ ih =>
    obtain ⟨b', d⟩ := p
    simp only [H.get] at h
    split at h
    · cases h
    · rename_i e; simp only [H.del]; rw [if_neg e, ih h]
theorem run_aapp {P : Program} {κ : Ctx} {N : Nat} {ρ ρ' : Env} {σ σ' : H} {a : Act} {t ty : TypeId} {k by_ d : Nat} {s x v : AV} {us ux : Value} (ht : apL P t = some (k, by_)) (hs : SRel κ N ρ σ a)
    (h1 : VRel κ s us) (h2 : VRel κ x ux) (h : aapp k by_ ρ σ s x d = some (ρ', v, σ')) :
    ∃ κ' y, (Builtin.append_ #[t, t] ty #[us, ux]).run P κ.w = .ok y κ'.w ∧ VRel κ' v y ∧ Step κ κ' ∧ SRel κ' N ρ' σ' a := by
  unfold aapp at h
  split at h
  · cases h
  · rename_i m news hx
    split at h
    · rename_i hsol
      split at h
      · split at h
        · rename_i hm
          simp only [Option.some.injEq, Prod.mk.injEq] at h
          obtain ⟨rfl, rfl, rfl⟩ := h
          obtain ⟨b2, _, hf⟩ := fresh_exists ρ σ 0
          exact run_aappend ht hs h1 h2 hf (by simp [aappend, hx, hsol, hm])
        · rename_i hm
          split at h
          · rename_i hc
            simp only [Option.some.injEq, Prod.mk.injEq] at h
            obtain ⟨rfl, rfl, rfl⟩ := h
            obtain ⟨c1, c2, c3, c4, c5, c6⟩ := hc
            exact run_aappend ht hs h1 h2 ⟨c3, c4, c5, c6⟩ (by simp [aappend, hx, hsol, hm, c1, c2])
          · cases h
      · rename_i b n k'
        split at h
        · rename_i ek; subst ek
          split at h
          · rename_i cs hb
            split at h
            · split at h
              · rename_i hc
                simp only [Option.some.injEq, Prod.mk.injEq] at h
                obtain ⟨rfl, rfl, rfl⟩ := h
                obtain ⟨c1, c2, c3, c4, c5, c6, c7⟩ := hc
                exact run_aappend ht hs h1 h2 ⟨c4, c5, c6, c7⟩ (by simp [aappend, hx, hsol, hb, c1, c2, c3])
              · cases h
            rename_i hpin
            split at h
            · rename_i hc
              simp only [Option.some.injEq, Prod.mk.injEq] at h
              obtain ⟨rfl, rfl, rfl⟩ := h
              obtain ⟨c1, c2, c3, c4, c5, c6⟩ := hc
              obtain ⟨b2, hlt, hf⟩ := fresh_exists ρ σ (b + 1)
              obtain ⟨κ1, y, r1, r2, r3, r4⟩ := run_aappend (v := .rs b2 0 (n + m) k') (σ' := (b2, .cells (cs ++ news)) :: σ.del b) ht hs h1 h2 hf (by simp [aappend, hx, hsol, hb, c1, c2, c3])
              have hget : H.get ((b2, Blk.cells (cs ++ news)) :: σ.del b) b2 = some (.cells (cs ++ news)) := by simp [H.get]
              obtain ⟨c, hO, hB⟩ := r4.heap.blk b2 _ hget
              have hne : b ≠ b2 := by omega
              obtain ⟨g1, g2, g3⟩ := rename_block (r4.le (Env.purge_le b ρ)) hget hO (b2 := b) ⟨by simp only [H.get]; rw [if_neg hne]; exact H.get_del_same _ _, by
                simp only [H.men, Bool.or_eq_false_iff, Blk.men]; exact ⟨by rw [mens_append, c5, c6]; rfl, c4⟩, Env.purge_men b ρ, by simpa using hpin⟩
              refine ⟨{ κ1 with O := fun x => if x = b then some c else if x = b2 then none else κ1.O x }, y, r1, VRel.ren_top hO r2, r3.trans g1, ?_⟩
              have e : H.del ((b2, Blk.cells (cs ++ news)) :: σ.del b) b2 = σ.del b := by
                simp only [H.del, if_true]
                exact H.del_del _ _ (by rw [H.get_del_ne _ (by omega)]; exact hf.get)
              rw [e] at g2
              exact g2
            · cases h
          · cases h
        · cases h
      · cases h
    · cases h
end Go.Proofs.Hz
