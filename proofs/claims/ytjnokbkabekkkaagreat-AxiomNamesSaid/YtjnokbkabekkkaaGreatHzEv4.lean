/- A run, computed: with a table of calls that are proved. -/
import Derived.Test.YtjnokbkabekkkaaGreatHzEv3
set_option linter.all false
namespace Go.Proofs.Hz
open Go

mutual
/-- The same by sight. -/
def AV.eqb : AV → AV → Bool
  | .undef, .undef => true
  | .bool a, .bool b => a == b
  | .int k a, .int k' b => decide (k = k') && a == b
  | .str a, .str b => a == b
  | .nilp, .nilp => true
  | .nils, .nils => true
  | .nilf, .nilf => true
  | .nili, .nili => true
  | .agg a, .agg b => AV.eqbs a b
  | .tup a, .tup b => AV.eqbs a b
  | .view a o, .view b o' => o == o' && AV.eqbs a b
  | .sl n k a, .sl n' k' b => n == n' && k == k' && AV.eqbss a b
  | .ref b o, .ref b' o' => b == b' && o == o'
  | .rs b o n k, .rs b' o' n' k' => b == b' && o == o' && n == n' && k == k'
  | .mref b, .mref b' => b == b'
  | .func f a c, .func f' a' c' => f == f' && AV.eqbs a a' && AV.eqbs c c'
  | .iface t v, .iface t' v' => t == t' && AV.eqb v v'
  | _, _ => false
def AV.eqbs : List AV → List AV → Bool
  | [], [] => true
  | a :: as, b :: bs => AV.eqb a b && AV.eqbs as bs
  | _, _ => false
def AV.eqbss : List (List AV) → List (List AV) → Bool
  | [], [] => true
  | a :: as, b :: bs => AV.eqbs a b && AV.eqbss as bs
  | _, _ => false
end
mutual
theorem AV.eqb_eq : ∀ a b : AV, AV.eqb a b = true → a = b
  | .undef, b, h => by cases b <;> simp_all [AV.eqb]
  | .bool _, b, h => by cases b <;> simp_all [AV.eqb]
  | .int _ _, b, h => by cases b <;> simp_all [AV.eqb]
  | .str s, b, h => by
    cases b with
    | str t => simp only [AV.eqb] at h; rw [bytes_eq h]
    | _ => simp [AV.eqb] at h
  | .nilp, b, h => by cases b <;> simp_all [AV.eqb]
  | .nils, b, h => by cases b <;> simp_all [AV.eqb]
  | .nilf, b, h => by cases b <;> simp_all [AV.eqb]
  | .nili, b, h => by cases b <;> simp_all [AV.eqb]
  | .agg l, b, h => by
    cases b with
    | agg l' => simp only [AV.eqb] at h; rw [AV.eqbs_eq l l' h]
    | _ => simp [AV.eqb] at h
  | .tup l, b, h => by
    cases b with
    | tup l' => simp only [AV.eqb] at h; rw [AV.eqbs_eq l l' h]
    | _ => simp [AV.eqb] at h
  | .view l o, b, h => by
    cases b with
    | view l' o' => simp only [AV.eqb, Bool.and_eq_true, beq_iff_eq] at h; rw [AV.eqbs_eq l l' h.2, h.1]
    | _ => simp [AV.eqb] at h
  | .sl n k l, b, h => by
    cases b with
    | sl n' k' l' => simp only [AV.eqb, Bool.and_eq_true, beq_iff_eq] at h; rw [AV.eqbss_eq l l' h.2, h.1.1, h.1.2]
    | _ => simp [AV.eqb] at h
  | .ref _ _, b, h => by cases b <;> simp_all [AV.eqb]
  | .rs _ _ _ _, b, h => by cases b <;> simp_all [AV.eqb]
  | .mref _, b, h => by cases b <;> simp_all [AV.eqb]
  | .func f a c, b, h => by
    cases b with
    | func f' a' c' => simp only [AV.eqb, Bool.and_eq_true, beq_iff_eq] at h; rw [AV.eqbs_eq a a' h.1.2, AV.eqbs_eq c c' h.2, h.1.1]
    | _ => simp [AV.eqb] at h
  | .iface t v, b, h => by
    cases b with
    | iface t' v' => simp only [AV.eqb, Bool.and_eq_true, beq_iff_eq] at h; rw [AV.eqb_eq v v' h.2, h.1]
    | _ => simp [AV.eqb] at h
theorem AV.eqbs_eq : ∀ a b : List AV, AV.eqbs a b = true → a = b
  | [], [], _ => rfl
  | [], _ :: _, h => by simp [AV.eqbs] at h
  | _ :: _, [], h => by simp [AV.eqbs] at h
  | a :: as, b :: bs, h => by
    simp only [AV.eqbs, Bool.and_eq_true] at h
    rw [AV.eqb_eq a b h.1, AV.eqbs_eq as bs h.2]
theorem AV.eqbss_eq : ∀ a b : List (List AV), AV.eqbss a b = true → a = b
  | [], [], _ => rfl
  | [], _ :: _, h => by simp [AV.eqbss] at h
  | _ :: _, [], h => by simp [AV.eqbss] at h
  | a :: as, b :: bs, h => by
    simp only [AV.eqbss, Bool.and_eq_true] at h
    rw [AV.eqbs_eq a b h.1, AV.eqbss_eq as bs h.2]
end
/-- Calls that are proved: the function, what it is given, what it hands back. -/
abbrev Tab := List (FuncId × List AV × AV)
def TabOk (P : Program) (tab : Tab) : Prop := ∀ e ∈ tab, PureF P e.1 e.2.1 e.2.2
def tabLook : Tab → FuncId → List AV → Option AV
  | [], _, _ => none
  | (g, as, v) :: tab, f, args => if f = g then (if AV.eqbs as args then some v else tabLook tab f args) else tabLook tab f args
theorem tabLook_mem : ∀ {tab : Tab} {f : FuncId} {args : List AV} {v : AV}, tabLook tab f args = some v → (f, args, v) ∈ tab
  | [], _, _, _, h => by simp [tabLook] at h
  | (g, as, v') :: tab, f, args, v, h => by
    simp only [tabLook] at h
    split at h
    · rename_i e; subst e
      split at h
      · rename_i e; cases h
        rw [AV.eqbs_eq _ _ e]; simp
      · exact List.mem_cons_of_mem _ (tabLook_mem h)
    · exact List.mem_cons_of_mem _ (tabLook_mem h)
/-- A function of trees leaves nothing of its own. -/
theorem PureF.none {P : Program} {f : FuncId} {args : List AV} {v : AV} (h : PureF P f args v) : CallS P f args [] fun v' τ => v' = v ∧ τ = [] := by
  refine ⟨h.2.1, fun κ us h1 h2 => (h.2.2 κ us h1 h2).mono ?_⟩
  rintro e w' ⟨κ', v0, u, σ2, rfl, rfl, g1, g2, g3, rfl⟩
  refine ⟨κ'.only [], _, u, [], rfl, rfl, g1.trans ?_, ?_, VRel.le (κ'.only_le []) _ _ (κ'.only_ids [] _) g3, rfl, rfl⟩
  · exact ⟨rfl, Nat.le_refl _, fun _ _ _ => rfl, fun _ => Nat.le_refl _, fun x c h => by simp [Ctx.only] at h, rfl, rfl, rfl, fun x _ => by simp only [Ctx.only]; split <;> simp⟩
  · exact ⟨fun b d h => by simp [H.get] at h, fun b c h => by simp [Ctx.only] at h, fun b b' c h => by simp [Ctx.only] at h, g2.xlt⟩
/-- A function, run; calls that the table holds are looked up. -/
def evT (P : Program) (own : List (Nat × List Nat)) (tab : Tab) : Nat → CF
  | 0 => fun _ _ _ => none
  | n + 1 => fun f args σ => match (if σ.isEmpty then tabLook tab f args else none) with
    | some v => some (v, [])
    | none => match P.funcs[f]? with
      | some fn => match fn.body with
        | some c => match ev P (evT P own tab n) (args.length + (fn.ntmps - args.length)) own 100000 c (args0 0 args) σ with
          | some (e, ρ', σ') => if isEnd e then match resOf ρ' σ' P fn.results.toList with
            | some v => some (v, σ')
            | none => none
            else none
          | none => none
        | none => none
      | none => none
theorem evT_sound {P : Program} {own : List (Nat × List Nat)} {tab : Tab} (hm : P.follows .mixedOrders = true) (hn : ∀ (f : FuncId) (fn : Func), P.funcs[f]? = some fn → (fn.name == "runtime.NumGoroutine") = false) (ht : TabOk P tab) : ∀ n, CFok P (evT P own tab n)
  | 0 => fun f args σ v σ' h => by simp [evT] at h
  | n + 1 => fun f args σ v σ' h => by
    have ih := evT_sound (own := own) hm hn ht n
    simp only [evT] at h
    split at h
    · rename_i v2 hl
      simp only [Option.some.injEq, Prod.mk.injEq] at h; obtain ⟨rfl, rfl⟩ := h
      split at hl
      · rename_i he
        have : σ = [] := by simpa using he
        subst this
        exact (ht _ (tabLook_mem hl)).none
      · cases hl
    · split at h
      · rename_i fn hf
        split at h
        · rename_i c hb
          split at h
          · rename_i e ρ' σ2 hev
            split at h
            · rename_i he
              split at h
              · rename_i v2 hres
                simp only [Option.some.injEq, Prod.mk.injEq] at h; obtain ⟨rfl, rfl⟩ := h
                refine call_body hf hb rfl (hn f fn hf) (AWp.mono (ev_sound hm ih _ _ _ _ _ _ _ hev) ?_)
                rintro e1 ρ1 σ1 ⟨rfl, rfl, rfl⟩
                refine ⟨?_, v2, hres, rfl, rfl⟩
                cases e1 <;> simp [isEnd] at he <;> simp
              · cases h
            · cases h
          · cases h
        · cases h
      · cases h
/-- What a call with trees comes to, as a tree. -/
def evP (P : Program) (own : List (Nat × List Nat)) (tab : Tab) (n : Nat) (f : FuncId) (args : List AV) : Option AV :=
  match evT P own tab n f args [] with
  | some (v, σ) => frV v σ
  | none => none
/-- Does it come to v? -/
def evIs (P : Program) (own : List (Nat × List Nat)) (tab : Tab) (n : Nat) (f : FuncId) (args : List AV) (v : AV) : Bool :=
  match evP P own tab n f args with
  | some v' => AV.eqb v' v
  | none => false
theorem evIs_sound {P : Program} {own : List (Nat × List Nat)} {tab : Tab} {n : Nat} {f : FuncId} {args : List AV} {v : AV} (hm : P.follows .mixedOrders = true) (hn : ∀ (f : FuncId) (fn : Func), P.funcs[f]? = some fn → (fn.name == "runtime.NumGoroutine") = false) (ht : TabOk P tab)
    (h : evIs P own tab n f args v = true) : PureF P f args v := by
  unfold evIs evP at h
  split at h
  · rename_i v' hv
    split at hv
    · rename_i v0 σ hr
      rw [← AV.eqb_eq _ _ h]
      exact pure_of_cf (evT_sound hm hn ht n) hr hv
    · cases hv
  · cases h
theorem names_ok {P : Program} (h : P.funcs.toList.all (fun fn => !(fn.name == "runtime.NumGoroutine")) = true) : ∀ (f : FuncId) (fn : Func), P.funcs[f]? = some fn → (fn.name == "runtime.NumGoroutine") = false := by
  intro f fn hf
  have := List.all_eq_true.1 h fn (by
    have := Array.mem_of_getElem? hf
    simpa using this)
  simpa using this
end Go.Proofs.Hz
