/- Giving up a block: from here on it is only read. -/
import Derived.Test.YtjnokbkabekkkaaGreatHzDx3
set_option linter.all false
namespace Go.Proofs.Hz
open Go

mutual
def AV.fz (b : Nat) (cs : List AV) : AV → AV
  | .agg l => .agg (AV.fzs b cs l)
  | .tup l => .tup (AV.fzs b cs l)
  | .ref c off => if c = b then .view cs off else .ref c off
  | .rs c off n k => if c = b then (if ((cs.drop off).take (n * k)).length = n * k then .sl true k (chunks k n ((cs.drop off).take (n * k))) else .undef) else .rs c off n k
  | .func f first caps => .func f (AV.fzs b cs first) (AV.fzs b cs caps)
  | .iface t v => .iface t (AV.fz b cs v)
  | .undef => .undef
  | .bool x => .bool x
  | .int k n => .int k n
  | .str s => .str s
  | .nilp => .nilp
  | .nils => .nils
  | .nilf => .nilf
  | .nili => .nili
  | .view l o => .view l o
  | .sl nn k es => .sl nn k es
  | .mref c => .mref c
def AV.fzs (b : Nat) (cs : List AV) : List AV → List AV
  | [] => []
  | v :: vs => AV.fz b cs v :: AV.fzs b cs vs
end
section
variable {bs : List Nat} {σ : H} {b : Nat} {cs : List AV} (hb : bs.contains b = false) (hc : σ.get b = some (.cells cs)) (hn : AV.norefs cs = true)
include hb hc hn
mutual
theorem AV.fz_wk : ∀ v : AV, Wk bs σ v (v.fz b cs)
  | .agg l => by simp only [AV.fz]; exact .agg (AV.fzs_wk l)
  | .tup l => by simp only [AV.fz]; exact .tup (AV.fzs_wk l)
  | .ref c off => by
    simp only [AV.fz]
    split
    · rename_i e; subst e; exact .ref hb hc hn
    · exact .same _
  | .rs c off n k => by
    simp only [AV.fz]
    split
    · rename_i e; subst e
      split
      · rename_i hl
        obtain ⟨c1, c2, c3, c4⟩ := chunks_spec (norefs_take (n * k) (norefs_drop off hn)) hl
        exact .rs true hb hc c1 c2 c3 c4
      · exact .undef _
    · exact .same _
  | .func f first caps => by simp only [AV.fz]; exact .func (AV.fzs_wk first) (AV.fzs_wk caps)
  | .iface t v => by simp only [AV.fz]; exact .iface (AV.fz_wk v)
  | .mref c => by simp only [AV.fz]; exact .same _
  | .view _ _ => by simp only [AV.fz]; exact .same _
  | .sl _ _ _ => by simp only [AV.fz]; exact .same _
  | .undef => by simp only [AV.fz]; exact .same _
  | .bool _ => by simp only [AV.fz]; exact .same _
  | .int _ _ => by simp only [AV.fz]; exact .same _
  | .str _ => by simp only [AV.fz]; exact .same _
  | .nilp => by simp only [AV.fz]; exact .same _
  | .nils => by simp only [AV.fz]; exact .same _
  | .nilf => by simp only [AV.fz]; exact .same _
  | .nili => by simp only [AV.fz]; exact .same _
theorem AV.fzs_wk : ∀ vs : List AV, Wks bs σ vs (AV.fzs b cs vs)
  | [] => by simp only [AV.fzs]; exact .nil
  | v :: vs => by simp only [AV.fzs]; exact .cons (AV.fz_wk v) (AV.fzs_wk vs)
end
end
def Env.fz (b : Nat) (cs : List AV) : Env → Env
  | [] => []
  | (t, v) :: ρ => (t, v.fz b cs) :: Env.fz b cs ρ
def Blk.fz (b : Nat) (cs : List AV) : Blk → Blk
  | .cells l => .cells (AV.fzs b cs l)
  | .map es => .map es
def H.fz (b : Nat) (cs : List AV) : H → H
  | [] => []
  | (c, d) :: σ => (c, d.fz b cs) :: H.fz b cs σ
theorem Env.fz_get (b : Nat) (cs : List AV) : ∀ (ρ : Env) (t : Nat) (v' : AV), (ρ.fz b cs).get t = some v' → ∃ v, ρ.get t = some v ∧ v' = v.fz b cs
  | [], t, v', h => by simp [Env.fz, Env.get] at h
  | (t1, v1) :: ρ, t, v', h => by
    simp only [Env.fz, Env.get] at h ⊢
    split at h
    · rename_i e; cases h; exact ⟨v1, by simp [e], rfl⟩
    · rename_i e
      obtain ⟨v, h1, h2⟩ := Env.fz_get b cs ρ t v' h
      exact ⟨v, by simp [e, h1], h2⟩
theorem H.fz_get (b : Nat) (cs : List AV) : ∀ (σ : H) (c : Nat), (σ.fz b cs).get c = (σ.get c).map (Blk.fz b cs)
  | [], c => rfl
  | (c1, d) :: σ, c => by
    simp only [H.fz, H.get]
    split
    · rfl
    · exact H.fz_get b cs σ c
def freeze1 (b : Nat) (ρ : Env) (σ : H) : Option (Env × H) :=
  match σ.get b with
  | some (.cells cs) => if AV.norefs cs = true then some (ρ.fz b cs, (σ.del b).fz b cs) else none
  | _ => none
theorem freeze1_weak {b : Nat} {ρ ρ' : Env} {σ σ' : H} (h : freeze1 b ρ σ = some (ρ', σ')) : Weak ((σ.del b).map (·.1)) ρ σ ρ' σ' := by
  unfold freeze1 at h
  split at h
  · rename_i cs hc
    split at h
    · rename_i hn
      simp only [Option.some.injEq, Prod.mk.injEq] at h
      obtain ⟨rfl, rfl⟩ := h
      have hb : ((σ.del b).map (·.1)).contains b = false := by
        rw [← Bool.not_eq_true, names_get, H.get_del_same]; simp
      refine ⟨fun t v' hv' => ?_, fun c hc' => ?_, fun c hc' => ?_⟩
      · obtain ⟨v, h1, rfl⟩ := Env.fz_get b cs ρ t v' hv'
        exact ⟨v, h1, AV.fz_wk hb hc hn v⟩
      · obtain ⟨d, hd⟩ := Option.isSome_iff_exists.1 ((names_get _ c).1 hc')
        have hne : c ≠ b := by rintro rfl; rw [H.get_del_same] at hd; cases hd
        refine ⟨d, d.fz b cs, by rw [← H.get_del_ne σ hne]; exact hd, by rw [H.fz_get, hd]; rfl, ?_⟩
        cases d with
        | cells l => exact .cells (AV.fzs_wk hb hc hn l)
        | map es => exact .same _
      · rw [H.fz_get]
        cases hd : (σ.del b).get c with
        | none => rfl
        | some d =>
          have := (names_get (σ.del b) c).2 (by rw [hd]; rfl)
          rw [this] at hc'; cases hc'
    · cases h
  · cases h
/-- These blocks are given up, what is pointed to ahead of what points. -/
def freezeL : Nat → List Nat → Env → H → Env × H
  | 0, _, ρ, σ => (ρ, σ)
  | _ + 1, [], ρ, σ => (ρ, σ)
  | n + 1, b :: l, ρ, σ => match freeze1 b ρ σ with
    | some (ρ', σ') => freezeL n l ρ' σ'
    | none => freezeL n (l ++ [b]) ρ σ
theorem freezeL_sound {P : Program} {N : Nat} {c : Code} {Q : Exit → Env → H → Prop} : ∀ (n : Nat) (l : List Nat) (ρ : Env) (σ : H), AWp P N c (freezeL n l ρ σ).1 (freezeL n l ρ σ).2 Q → AWp P N c ρ σ Q
  | 0, _, ρ, σ, h => h
  | _ + 1, [], ρ, σ, h => h
  | n + 1, b :: l, ρ, σ, h => by
    simp only [freezeL] at h
    split at h
    · rename_i ρ' σ' hf
      exact AWp.weak (freeze1_weak hf) (freezeL_sound n l _ _ h)
    · exact freezeL_sound n (l ++ [b]) ρ σ h
theorem freezeL_aop {P : Program} {N : Nat} {o : Oper} {K : Env → H → Prop} : ∀ (n : Nat) (l : List Nat) (ρ : Env) (σ : H), AOp P N o (freezeL n l ρ σ).1 (freezeL n l ρ σ).2 K → AOp P N o ρ σ K
  | 0, _, ρ, σ, h => h
  | _ + 1, [], ρ, σ, h => h
  | n + 1, b :: l, ρ, σ, h => by
    simp only [freezeL] at h
    split at h
    · rename_i ρ' σ' hf
      exact AOp.weak (freeze1_weak hf) (freezeL_aop n l _ _ h)
    · exact freezeL_aop n (l ++ [b]) ρ σ h
theorem freezeL_rel {N : Nat} : ∀ (n : Nat) (l : List Nat) {κ : Ctx} {ρ : Env} {σ : H} {a : Act}, SRel κ N ρ σ a → ∃ κ', κ'.w = κ.w ∧ Step κ κ' ∧ SRel κ' N (freezeL n l ρ σ).1 (freezeL n l ρ σ).2 a
  | 0, _, κ, ρ, σ, a, h => ⟨κ, rfl, .refl _, h⟩
  | _ + 1, [], κ, ρ, σ, a, h => ⟨κ, rfl, .refl _, h⟩
  | n + 1, b :: l, κ, ρ, σ, a, h => by
    simp only [freezeL]
    split
    · rename_i ρ' σ' hf
      obtain ⟨k1, k2⟩ := (freeze1_weak hf).rel h
      obtain ⟨κ', g1, g2, g3⟩ := freezeL_rel n l k2
      exact ⟨κ', g1, k1.trans g2, g3⟩
    · exact freezeL_rel n (l ++ [b]) h
end Go.Proofs.Hz
