/- A run, computed: closed calls. -/
import Derived.Test.YtjnokbkabekkkaaGreatHzFz
set_option linter.all false
namespace Go.Proofs.Hz
open Go

mutual
def AV.names : AV → List Nat
  | .agg cs => AV.namess cs
  | .tup cs => AV.namess cs
  | .ref b _ => [b]
  | .rs b _ _ _ => [b]
  | .mref b => [b]
  | .func _ first caps => AV.namess first ++ AV.namess caps
  | .iface _ v => AV.names v
  | _ => []
def AV.namess : List AV → List Nat
  | [] => []
  | v :: vs => AV.names v ++ AV.namess vs
end
def namesMap : List (AV × AV) → List Nat
  | [] => []
  | (k, v) :: es => k.names ++ v.names ++ namesMap es
def Blk.names : Blk → List Nat
  | .cells cs => AV.namess cs
  | .map es => namesMap es
/-- What can be reached from these names. -/
def reach (σ : H) : Nat → List Nat → List Nat → List Nat
  | 0, _, acc => acc
  | _ + 1, [], acc => acc
  | n + 1, b :: todo, acc => if acc.contains b then reach σ n todo acc else
    match σ.get b with
    | some d => reach σ n (d.names ++ todo) (acc ++ [b])
    | none => reach σ n todo acc
def envMax : Env → Nat → Nat
  | [], m => m
  | (_, v) :: ρ, m => envMax ρ (v.names.foldl Nat.max m)
def heapMax : H → Nat → Nat
  | [], m => m
  | (b, d) :: σ, m => heapMax σ (d.names.foldl Nat.max (Nat.max b m))
def freshZ (ρ : Env) (σ : H) : Nat := 2 * (envMax ρ (heapMax σ 50000) + 1)
def pairUp (p : Nat) : List Nat → List (Nat × Nat)
  | [] => []
  | b :: l => (p, b) :: pairUp (p + 2) l
def pairNew (z : Nat) : List Nat → List (Nat × Nat)
  | [] => []
  | e :: l => (e, z) :: pairNew (z + 2) l

/-- A function of what is given to it, as far as it is known. -/
abbrev CF := FuncId → List AV → H → Option (AV × H)
def CFok (P : Program) (cf : CF) : Prop := ∀ f args σ v σ', cf f args σ = some (v, σ') → CallS P f args σ fun v' τ => v' = v ∧ τ = σ'
/-- A call, its own memory given and taken back. -/
def evCall (cf : CF) (ρ : Env) (σ : H) (f : FuncId) (args : List AV) : Option (AV × H) :=
  let gs := pairUp 1000001 (reach σ 1000 (AV.namess args) [])
  if uniq gs && allPinned gs then
    match cf f (AV.rens (kool gs) args) (passed σ gs gs) with
    | some (v, σ') =>
      let new := pairNew (freshZ ρ σ) ((reach σ' 1000 (v.names ++ σ'.flatMap fun x => if pinned x.1 then [x.1] else []) []).filter fun e => !pinned e)
      if uniq (gs ++ new) && allNew ρ σ new then some (v.ren (look (gs ++ new)), σ.dels gs ++ backed (gs ++ new) σ') else none
    | none => none
  else none
theorem evCall_sound {P : Program} {cf : CF} (hcf : CFok P cf) {κ : Ctx} {N : Nat} {ρ : Env} {σ σ2 : H} {a : Act} {f : FuncId} {args : List AV} {us : Array Value} {v : AV} (hs : SRel κ N ρ σ a) (hv : VRels κ args us.toList)
    (h : evCall cf ρ σ f args = some (v, σ2)) :
    Entered P f ∧ Calls P f us κ.w fun e w' => ∃ κ' u, κ'.w = w' ∧ e = .returned u ∧ Step κ κ' ∧ SRel κ' N ρ σ2 a ∧ VRel κ' v u := by
  unfold evCall at h
  simp only at h
  split at h
  · rename_i h1
    simp only [Bool.and_eq_true] at h1
    split at h
    · rename_i v0 σ' hc
      split at h
      · rename_i h2
        simp only [Bool.and_eq_true] at h2
        simp only [Option.some.injEq, Prod.mk.injEq] at h
        obtain ⟨rfl, rfl⟩ := h
        have hok := hcf _ _ _ _ _ hc
        refine ⟨hok.1, callB _ h1.1 h1.2 hok hs hv (T := fun u κ' => Step κ κ' ∧ SRel κ' N ρ _ a ∧ VRel κ' _ u) ?_⟩
        rintro v' τ ⟨rfl, rfl⟩
        exact ⟨_, h2.1, h2.2, fun κ' u k1 k2 k3 => ⟨k1, k2, k3⟩⟩
      · cases h
    · cases h
  · cases h

def dropAt (ps : List Nat) : Nat → List AV → List AV
  | _, [] => []
  | i, v :: vs => if ps.contains i then dropAt ps (i + 1) vs else v :: dropAt ps (i + 1) vs
/-- What a call is given only to see; ps: the places of what it may turn (99: what a closure holds). -/
def seen (ps : Option (List Nat)) (first args caps : List AV) : List AV :=
  match ps with
  | none => first ++ args ++ caps
  | some ps => first ++ dropAt ps 0 args ++ (if ps.contains 99 then [] else caps)
section
variable (P : Program) (cf : CF) (N : Nat)
/-- A call; what the function sees is given up ahead of it, but where it is one of own. -/
def evCallO (own : List (Nat × List Nat)) (ρ : Env) (σ : H) (x : Operand) (args : List Operand) : Option (Env × AV × H) :=
  match ρ.ev x with
  | .func f first caps =>
    let p := freezeL 400 (reach σ 1000 (AV.namess (seen (own.lookup f) first (args.map ρ.ev) caps)) []).reverse ρ σ
    match p.1.ev x with
    | .func f first caps => (evCall cf p.1 p.2 f (first ++ args.map p.1.ev ++ caps)).map fun r => (p.1, r.1, r.2)
    | _ => none
  | _ => none
/-- One operation. -/
def evOp (own : List (Nat × List Nat)) (ρ : Env) (σ : H) (o : Oper) : Option (Env × AV × H) :=
  match o.op with
  | .call ⟨.value x, args, ts⟩ => evCallO cf own ρ σ x args.toList
  | _ => match aop P ρ σ o with
    | some r => some r
    | none => match o.dst with
      | some _ => match aop P ρ σ { o with dst := some (freshZ ρ σ) } with
        | some r => some r
        | none => match aopd P ρ σ { o with dst := some (freshZ ρ σ) } with
          | some (v, ts) => if freshB (freshZ ρ σ) ρ σ then some (ρ, v, upds σ ts) else none
          | none => none
      | none => none
def evOps (own : List (Nat × List Nat)) (all : Array Oper) : List Oper → Env → H → Option (Env × H)
  | [], ρ, σ => some (ρ, σ)
  | o :: l, ρ, σ => if dstOk N o then
    match guardOf ρ all o with
    | none => none
    | some false => evOps own all l (ρ.put o.dst (.tup [])) σ
    | some true => match evOp P cf own ρ σ o with
      | some (ρ', v, σ') => evOps own all l (ρ'.put o.dst v) σ'
      | none => none
    else none
theorem evCall_aop {P : Program} {cf : CF} (hcf : CFok P cf) {N : Nat} {ρ : Env} {σ σ' : H} {o : Oper} {v : AV} {K : Env → H → Prop} {x : Operand} {args : Array Operand} {ts : Array TypeId} {f : FuncId} {first caps : List AV} (hop : o.op = .call ⟨.value x, args, ts⟩)
    (hx : ρ.ev x = .func f first caps) (hc : evCall cf ρ σ f (first ++ args.toList.map ρ.ev ++ caps) = some (v, σ')) (hd : dstOk N o = true) (hK : K (ρ.put o.dst v) σ') : AOp P N o ρ σ K := by
  intro Q' next κ a hs hn
  have hv := hs.ev x
  rw [hx] at hv
  simp only [VRel] at hv
  obtain ⟨uf, uc, e, h1, h2⟩ := hv
  have hu : VRels κ (first ++ args.toList.map ρ.ev ++ caps) (uf ++ args.map a.eval ++ uc).toList := by
    simp only [Array.toList_append, Array.toList_map]
    exact VRels.append (VRels.append h1 (evs hs _)) h2
  obtain ⟨hent, hcalls⟩ := evCall_sound hcf hs hu hc
  have hr : (execOp a.eval o).run P κ.w = .ok (.enter f (uf ++ args.map a.eval ++ uc)) κ.w := by
    simp only [execOp, hop, resolve, e, Deferred.ofValue, Sem.run_bind, pure, Sem.run, Result.andThen_ok, invoke]
    exact enter_run hent
  unfold Oper.wp
  rw [hr]
  refine hcalls.mono ?_
  rintro e' w' ⟨κ', u, rfl, rfl, g1, g2, g3⟩
  exact hn κ' _ _ _ g1 (g2.put (dstOk_spec hd) g3) hK
theorem evOp_sound {P : Program} {cf : CF} (hcf : CFok P cf) {own : List (Nat × List Nat)} {N : Nat} {ρ ρ' : Env} {σ σ' : H} {o : Oper} {v : AV} {K : Env → H → Prop} (h : evOp P cf own ρ σ o = some (ρ', v, σ')) (hd : dstOk N o = true) (hK : K (ρ'.put o.dst v) σ') : AOp P N o ρ σ K := by
  unfold evOp at h
  split at h
  · rename_i x args ts hop
    unfold evCallO at h
    split at h
    · rename_i f first caps hx
      simp only at h
      split at h
      · rename_i f2 first2 caps2 hx2
        simp only [Option.map_eq_some_iff, Prod.mk.injEq] at h
        obtain ⟨r, hc, rfl, rfl, rfl⟩ := h
        exact freezeL_aop _ _ _ _ (evCall_aop hcf hop hx2 hc hd hK)
      · cases h
    · cases h
  · split at h
    · rename_i r hr
      cases h
      exact aop_put hr hd hK
    · split at h
      · intro Q' next κ a hs hn
        have e : execOp a.eval { o with dst := some (freshZ ρ σ) } = execOp a.eval o := rfl
        have main : ∃ κ' u, ((execOp a.eval o).run P κ.w = .ok (.value u) κ'.w ∨ ((execOp a.eval o).run P κ.w = .ok .skip κ'.w ∧ u = Go.undef)) ∧ Step κ κ' ∧ SRel κ' N ρ' σ' a ∧ VRel κ' v u := by
          split at h
          · rename_i r hr
            cases h
            have := aop_sound hs hr
            rwa [e] at this
          · split at h
            · rename_i v2 ts ha
              split at h
              · rename_i hf
                simp only [Option.some.injEq, Prod.mk.injEq] at h
                obtain ⟨rfl, rfl, rfl⟩ := h
                have := aopd_sound hs ha (fun _ d hd => by simp only [Option.some.injEq] at hd; subst hd; exact freshB_spec hf)
                rwa [e] at this
              · cases h
            · cases h
        obtain ⟨κ', u, hr, h1, h2, h3⟩ := main
        have h4 : SRel κ' N (ρ'.put o.dst v) σ' (a.put o.dst u) := h2.put (dstOk_spec hd) h3
        unfold Oper.wp
        rcases hr with hr | ⟨hr, rfl⟩
        · rw [hr]; exact hn κ' _ _ _ h1 h4 hK
        · rw [hr]; exact hn κ' _ _ _ h1 h4 hK
      · cases h
theorem evOps_sound {P : Program} {cf : CF} (hcf : CFok P cf) {own : List (Nat × List Nat)} {N : Nat} {all : Array Oper} : ∀ (l : List Oper) (i : Nat) (ρ ρ' : Env) (σ σ' : H) (K : Env → H → Prop), all.toList.drop i = l → evOps P cf N own all l ρ σ = some (ρ', σ') → K ρ' σ' → AOps P N all (List.range' i l.length) ρ σ K
  | [], i, ρ, ρ', σ, σ', K, _, h, hK => by
    simp only [evOps, Option.some.injEq, Prod.mk.injEq] at h
    obtain ⟨rfl, rfl⟩ := h
    exact aops_nil hK
  | o :: l, i, ρ, ρ', σ, σ', K, hd, h, hK => by
    have ho : all[i]? = some o := by
      have : (all.toList.drop i).head? = some o := by rw [hd]; rfl
      rw [List.head?_drop] at this
      simpa using this
    have hd' : all.toList.drop (i + 1) = l := by rw [← List.tail_drop, hd]; rfl
    intro Q' κ a hs hq
    simp only [List.length_cons, List.range'_succ, wpOps, ho]
    simp only [evOps] at h
    split at h
    · rename_i hdst
      split at h
      · cases h
      · rename_i hg
        rw [guardOf_spec hs hg]
        simp only [Bool.false_eq_true, if_false]
        refine evOps_sound hcf l (i + 1) _ ρ' σ σ' K hd' h hK Q' κ _ (hs.put (dstOk_spec hdst) ?_) hq
        simp only [VRel, Go.undef]; exact ⟨#[], rfl, by simp [VRels]⟩
      · rename_i hg
        rw [guardOf_spec hs hg]
        simp only [if_true]
        split at h
        · rename_i ρ1 v σ1 hop
          have main : AOp P N o ρ σ (fun ρ2 σ2 => ρ2 = ρ1.put o.dst v ∧ σ2 = σ1) := evOp_sound hcf hop hdst ⟨rfl, rfl⟩
          refine .inl (main Q' _ κ a hs ?_)
          rintro κ' ρ2 σ2 a' h1 h2 ⟨rfl, rfl⟩
          exact evOps_sound hcf l (i + 1) _ ρ' _ σ' K hd' h hK Q' κ' a' h2 fun κ2 ρ2 σ2 a2 k1 k2 k3 => hq κ2 ρ2 σ2 a2 (h1.trans k1) k2 k3
        · cases h
    · cases h
end
end Go.Proofs.Hz
