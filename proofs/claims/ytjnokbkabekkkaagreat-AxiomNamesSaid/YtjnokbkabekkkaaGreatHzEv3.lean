/- A run, computed: code and functions. -/
import Derived.Test.YtjnokbkabekkkaaGreatHzEv2
set_option linter.all false
namespace Go.Proofs.Hz
open Go

def Env.dd : Env → List Nat → Env
  | [], _ => []
  | (t, v) :: ρ, seen => if seen.contains t then Env.dd ρ seen else (t, v) :: Env.dd ρ (t :: seen)
theorem Env.dd_get : ∀ (ρ : Env) (seen : List Nat) (t : Nat) (v : AV), (ρ.dd seen).get t = some v → seen.contains t = false ∧ ρ.get t = some v
  | [], seen, t, v, h => by simp [Env.dd, Env.get] at h
  | (t', v') :: ρ, seen, t, v, h => by
    simp only [Env.dd] at h
    split at h
    · rename_i hs
      obtain ⟨h1, h2⟩ := Env.dd_get ρ seen t v h
      refine ⟨h1, ?_⟩
      simp only [Env.get]
      rw [if_neg (by rintro rfl; rw [h1] at hs; cases hs)]; exact h2
    · rename_i hs
      simp only [Env.get] at h ⊢
      split at h
      · rename_i e; subst e; cases h
        exact ⟨by simpa using hs, by simp⟩
      · rename_i e
        obtain ⟨h1, h2⟩ := Env.dd_get ρ (t' :: seen) t v h
        simp only [List.contains_cons, Bool.or_eq_false_iff] at h1
        exact ⟨h1.2, by rw [if_neg e]; exact h2⟩
def Env.names : Env → List Nat
  | [] => []
  | (_, v) :: ρ => v.names ++ Env.names ρ
def live1 (ρ : Env) (σ : H) : List Nat := reach σ 2000 (ρ.names ++ σ.flatMap fun x => if pinned x.1 then [x.1] else []) []
section
variable (P : Program) (cf : CF) (N : Nat)
def ev (own : List (Nat × List Nat)) : Nat → Code → Env → H → Option (Exit × Env × H)
  | 0, _, _, _ => none
  | n + 1, c, ρ, σ => match c with
    | .skip => some (.normal, ρ, σ)
    | .label _ => some (.normal, ρ, σ)
    | .exit id => some (.exit id, ρ, σ)
    | .ret => some (.ret, ρ, σ)
    | .seq x y => match ev own n x ρ σ with
      | some (.normal, ρ', σ') => ev own n y ρ' σ'
      | r => r
    | .block id c => match ev own n c ρ σ with
      | some (.exit id', ρ', σ') => if id' = id then some (.normal, ρ', σ') else some (.exit id', ρ', σ')
      | r => r
    | .cond c x y => match ρ.ev c with
      | .bool true => ev own n x ρ σ
      | .bool false => ev own n y ρ σ
      | _ => none
    | .region _ ops false => match evOps P cf N own ops ops.toList ρ σ with
      | some (ρ', σ') => some (.normal, ρ', σ')
      | none => none
    | .region _ ops true => match evDraw P cf N ops (yieldUp P ops ρ σ).1 (yieldUp P ops ρ σ).2 with
      | some (ρ', σ') => some (.normal, ρ', σ')
      | none => none
    | .loop c => match ev own n c (ρ.dd []) (σ.keep (live1 (ρ.dd []) σ)) with
      | some (.normal, ρ', σ') => ev own n (.loop c) ρ' σ'
      | r => r
    | _ => none
end
theorem ev_sound {P : Program} {own : List (Nat × List Nat)} (hm : P.follows .mixedOrders = true) {cf : CF} (hcf : CFok P cf) {N : Nat} : ∀ (n : Nat) (c : Code) (ρ : Env) (σ : H) (e : Exit) (ρ' : Env) (σ' : H), ev P cf N own n c ρ σ = some (e, ρ', σ') →
    AWp P N c ρ σ fun e1 ρ1 σ1 => e1 = e ∧ ρ1 = ρ' ∧ σ1 = σ' := by
  intro n
  induction n using Nat.strongRecOn with
  | _ n IH =>
   cases n with
   | zero => intro c ρ σ e ρ' σ' h; simp [ev] at h
   | succ n =>
    have ih := IH n (by omega)
    intro c ρ σ e ρ' σ' h
    cases c with
    | skip => simp only [ev, Option.some.injEq, Prod.mk.injEq] at h; obtain ⟨rfl, rfl, rfl⟩ := h; exact awp_skip ⟨rfl, rfl, rfl⟩
    | label l => simp only [ev, Option.some.injEq, Prod.mk.injEq] at h; obtain ⟨rfl, rfl, rfl⟩ := h; exact awp_label ⟨rfl, rfl, rfl⟩
    | exit id => simp only [ev, Option.some.injEq, Prod.mk.injEq] at h; obtain ⟨rfl, rfl, rfl⟩ := h; exact awp_exit ⟨rfl, rfl, rfl⟩
    | ret => simp only [ev, Option.some.injEq, Prod.mk.injEq] at h; obtain ⟨rfl, rfl, rfl⟩ := h; exact awp_ret ⟨rfl, rfl, rfl⟩
    | seq x y =>
      simp only [ev] at h
      refine awp_seq ?_
      split at h
      · rename_i ρ1 σ1 hx
        refine AWp.mono (ih x ρ σ _ _ _ hx) ?_
        rintro e1 ρ2 σ2 ⟨rfl, rfl, rfl⟩
        exact ih y _ _ _ _ _ h
      · rename_i hne
        refine AWp.mono (ih x ρ σ _ _ _ h) ?_
        rintro e1 ρ2 σ2 ⟨rfl, rfl, rfl⟩
        cases e1 with
        | normal => exact absurd h (hne _ _)
        | _ => exact ⟨rfl, rfl, rfl⟩
    | block id c =>
      simp only [ev] at h
      refine awp_block ?_
      split at h
      · rename_i id' ρ1 σ1 hx
        refine AWp.mono (ih c ρ σ _ _ _ hx) ?_
        rintro e1 ρ2 σ2 ⟨rfl, rfl, rfl⟩
        simp only [inBlock]
        split at h
        · rename_i hid
          rw [if_pos hid]
          simp only [Option.some.injEq, Prod.mk.injEq] at h; obtain ⟨rfl, rfl, rfl⟩ := h; exact ⟨rfl, rfl, rfl⟩
        · rename_i hid
          rw [if_neg hid]
          simp only [Option.some.injEq, Prod.mk.injEq] at h; obtain ⟨rfl, rfl, rfl⟩ := h; exact ⟨rfl, rfl, rfl⟩
      · rename_i hne
        refine AWp.mono (ih c ρ σ _ _ _ h) ?_
        rintro e1 ρ2 σ2 ⟨rfl, rfl, rfl⟩
        cases e1 with
        | exit id' => exact absurd h (hne _ _ _)
        | _ => exact ⟨rfl, rfl, rfl⟩
    | cond c x y =>
      simp only [ev] at h
      split at h
      · rename_i hc; exact awp_cond hc (ih x _ _ _ _ _ h)
      · rename_i hc; exact awp_cond hc (ih y _ _ _ _ _ h)
      · cases h
    | region id ops d =>
      cases d with
      | false =>
        simp only [ev] at h
        split at h
        · rename_i ρ1 σ1 hx
          simp only [Option.some.injEq, Prod.mk.injEq] at h; obtain ⟨rfl, rfl, rfl⟩ := h
          refine awp_region ?_
          have := evOps_sound hcf ops.toList 0 ρ ρ1 σ σ1 (fun ρ2 σ2 => Exit.normal = Exit.normal ∧ ρ2 = ρ1 ∧ σ2 = σ1) (by simp) hx ⟨rfl, rfl, rfl⟩
          rwa [List.range_eq_range', ← Array.length_toList]
        · cases h
      | true =>
        simp only [ev] at h
        split at h
        · rename_i ρ1 σ1 hx
          simp only [Option.some.injEq, Prod.mk.injEq] at h; obtain ⟨rfl, rfl, rfl⟩ := h
          have hd := evDraw_sound (id := id) (Q := fun e1 ρ2 σ2 => e1 = Exit.normal ∧ ρ2 = ρ1 ∧ σ2 = σ1) hcf hm hx ⟨rfl, rfl, rfl⟩
          unfold yieldUp at hd
          split at hd
          · exact freezeL_sound _ _ _ _ hd
          · exact hd
        · cases h
    | loop c =>
      refine awp_loop (fun m ρ σ => ∃ k, k ≤ m ∧ ev P cf N own k (.loop c) ρ σ = some (e, ρ', σ') ∧ ∀ j, j < k → ∀ c ρ σ e ρ' σ', ev P cf N own j c ρ σ = some (e, ρ', σ') → AWp P N c ρ σ fun e1 ρ1 σ1 => e1 = e ∧ ρ1 = ρ' ∧ σ1 = σ') (n + 1) ⟨n + 1, Nat.le_refl _, h, ?_⟩ ?_
      · exact fun j hj => IH j hj
      · rintro m ρ σ ⟨k, hk, hrun, hih⟩
        cases k with
        | zero => simp [ev] at hrun
        | succ k =>
          simp only [ev] at hrun
          refine AWp.sub (ρ' := ρ.dd []) (fun t v hv => (Env.dd_get ρ [] t v hv).2) (AWp.keepH (live1 (ρ.dd []) σ) ?_)
          split at hrun
          · rename_i ρ1 σ1 hx
            refine AWp.mono (hih k (by omega) _ _ _ _ _ _ hx) ?_
            rintro e1 ρ2 σ2 ⟨rfl, rfl, rfl⟩
            exact ⟨k, by omega, k, Nat.le_refl _, hrun, fun j hj => hih j (by omega)⟩
          · rename_i hne
            refine AWp.mono (hih k (by omega) _ _ _ _ _ _ hrun) ?_
            rintro e1 ρ2 σ2 ⟨rfl, rfl, rfl⟩
            cases e1 with
            | normal => exact absurd hrun (hne _ _)
            | _ => exact ⟨rfl, rfl, rfl⟩
    | rangeFunc _ _ _ _ => simp [ev] at h
    | scope _ => simp [ev] at h
    | goto _ => simp [ev] at h
    | refuse _ => simp [ev] at h
def isEnd : Exit → Bool
  | .normal => true
  | .ret => true
  | _ => false
/-- A function, run; fuel. -/
def evF (P : Program) (own : List (Nat × List Nat)) : Nat → CF
  | 0 => fun _ _ _ => none
  | n + 1 => fun f args σ => match P.funcs[f]? with
    | some fn => match fn.body with
      | some c => match ev P (evF P own n) (args.length + (fn.ntmps - args.length)) own 100000 c (args0 0 args) σ with
        | some (e, ρ', σ') => if isEnd e then match resOf ρ' σ' P fn.results.toList with
          | some v => some (v, σ')
          | none => none
          else none
        | none => none
      | none => none
    | none => none
theorem evF_sound {P : Program} {own : List (Nat × List Nat)} (hm : P.follows .mixedOrders = true) (hn : ∀ (f : FuncId) (fn : Func), P.funcs[f]? = some fn → (fn.name == "runtime.NumGoroutine") = false) : ∀ n, CFok P (evF P own n)
  | 0 => fun f args σ v σ' h => by simp [evF] at h
  | n + 1 => fun f args σ v σ' h => by
    have ih := evF_sound (own := own) hm hn n
    simp only [evF] at h
    split at h
    · rename_i fn hf
      split at h
      · rename_i c hb
        split at h
        · rename_i e ρ' σ2 hev
          split at h
          · rename_i he
            split at h
            · rename_i v2 hres
              simp only [Option.some.injEq, Prod.mk.injEq] at h; obtain ⟨rfl, rfl⟩ := h
              refine call_body hf hb rfl (hn f fn hf) (AWp.mono (ev_sound hm ih _ _ _ _ _ _ _ hev) ?_)
              rintro e1 ρ1 σ1 ⟨rfl, rfl, rfl⟩
              refine ⟨?_, v2, hres, rfl, rfl⟩
              cases e1 <;> simp [isEnd] at he <;> simp
            · cases h
          · cases h
        · cases h
      · cases h
    · cases h
end Go.Proofs.Hz
