/- Functions: what a call comes to. -/
import Derived.Test.YtjnokbkabekkkaaGreatHzW
set_option linter.all false
namespace Go.Proofs.Hz
open Go

def dstOk (N : Nat) (o : Oper) : Bool :=
  match o.dst with
  | some d => decide (d < N)
  | none => true
theorem dstOk_spec {N : Nat} {o : Oper} (h : dstOk N o = true) : ∀ t, o.dst = some t → t < N := fun t ht => by simpa [dstOk, ht] using h
/-- Is the operation carried out? none: not known. -/
def guardOf (ρ : Env) (all : Array Oper) (o : Oper) : Option Bool :=
  match o.guard with
  | none => some true
  | some (j, want) => match (all[j]?).bind (·.dst) with
    | some d => match ρ.get d with
      | some (.bool b) => some (b == want)
      | some (.tup _) => some false
      | _ => none
    | none => some false
theorem guardOf_spec {κ : Ctx} {N : Nat} {ρ : Env} {σ : H} {a : Act} (hs : SRel κ N ρ σ a) {all : Array Oper} {o : Oper} {b : Bool} (h : guardOf ρ all o = some b) : Region.wanted o (yielded all a.tmps) = b := by
  unfold guardOf at h
  unfold Region.wanted
  split at h
  · rename_i hg
    cases h
    simp [hg]
  · rename_i j want hg
    simp only [hg]
    unfold yielded
    split at h
    · rename_i d hd
      simp only [hd, Option.bind_some]
      split at h
      · rename_i t ht
        obtain ⟨u, h1, h2⟩ := hs.env d _ ht
        simp only [VRel] at h2; subst h2
        cases h
        simp only [h1]
        cases t <;> cases want <;> rfl
      · rename_i cs ht
        obtain ⟨u, h1, h2⟩ := hs.env d _ ht
        simp only [VRel] at h2
        obtain ⟨us, rfl, _⟩ := h2
        cases h
        simp only [h1]; rfl
      · cases h
    · rename_i hd
      cases h
      simp only [hd, Option.bind_none]; rfl
/-- The function has a body that is entered. -/
def Entered (P : Program) (f : FuncId) : Prop := ∃ fn, P.funcs[f]? = some fn ∧ fn.body.isNone = false ∧ (fn.name == "runtime.NumGoroutine") = false
/-- The call comes back as R says. -/
def CallS (P : Program) (f : FuncId) (args : List AV) (σ : H) (R : AV → H → Prop) : Prop :=
  Entered P f ∧ ∀ κ (us : Array Value), VRels κ args us.toList → HRel κ σ →
    Calls P f us κ.w fun e w' => ∃ κ' v u σ', κ'.w = w' ∧ e = .returned u ∧ Step κ κ' ∧ HRel κ' σ' ∧ VRel κ' v u ∧ R v σ'
/-- A function of trees. -/
def PureF (P : Program) (f : FuncId) (args : List AV) (v : AV) : Prop := v.noref = true ∧ CallS P f args [] fun v' _ => v' = v
theorem CallS.mono {P : Program} {f : FuncId} {args : List AV} {σ : H} {R R' : AV → H → Prop} (h : CallS P f args σ R) (hr : ∀ v σ, R v σ → R' v σ) : CallS P f args σ R' :=
  ⟨h.1, fun κ us h1 h2 => (h.2 κ us h1 h2).mono fun e w' ⟨κ', v, u, σ', g1, g2, g3, g4, g5, g6⟩ => ⟨κ', v, u, σ', g1, g2, g3, g4, g5, hr _ _ g6⟩⟩

/-- The slots when a function begins. -/
def args0 : Nat → List AV → Env
  | _, [] => []
  | i, v :: vs => (i, v) :: args0 (i + 1) vs
theorem args0_get {κ : Ctx} : ∀ (i : Nat) (vs : List AV) (us : List Value) (t : Nat) (v : AV), VRels κ vs us → (args0 i vs).get t = some v → i ≤ t ∧ ∃ u, us[t - i]? = some u ∧ VRel κ v u
  | i, [], us, t, v, _, h => by simp [args0, Env.get] at h
  | i, v :: vs, us, t, v', hv, h => by
    simp only [VRels] at hv
    obtain ⟨u, us', rfl, h1, h2⟩ := hv
    simp only [args0, Env.get] at h
    split at h
    · rename_i e; subst e; cases h
      exact ⟨Nat.le_refl _, u, by simp, h1⟩
    · rename_i e
      obtain ⟨g1, u', g2, g3⟩ := args0_get (i + 1) vs us' t v' h2 h
      refine ⟨by omega, u', ?_, g3⟩
      rw [show t - i = (t - (i + 1)) + 1 by omega]; simpa using g2
def resVal (ρ : Env) (σ : H) (P : Program) : ResultVar → Option AV
  | .tmp t => some ((ρ.get t).getD .undef)
  | .cell a t => match ρ.get a with
    | some p => match tyL P t with
      | some (g, n) => aload g n p σ
      | none => none
    | none => none
def resVals (ρ : Env) (σ : H) (P : Program) : List ResultVar → Option (List AV)
  | [] => some []
  | r :: rs => match resVal ρ σ P r, resVals ρ σ P rs with
    | some v, some vs => some (v :: vs)
    | _, _ => none
def resOf (ρ : Env) (σ : H) (P : Program) (rs : List ResultVar) : Option AV :=
  match resVals ρ σ P rs with
  | some [v] => some v
  | some vs => some (.tup vs)
  | none => none
theorem aload_addr {κ : Ctx} {σ : H} {g : Bool} {n : Nat} {p v : AV} {u : Value} (hh : HRel κ σ) (hp : VRel κ p u) (h : aload g n p σ = some v) : ∃ a, u = .pointer (some a) := by
  unfold aload at h
  split at h
  · simp only [VRel] at hp; obtain ⟨cb, co, rfl, _⟩ := hp; exact ⟨_, rfl⟩
  · rename_i b off
    split at h
    · rename_i cs hb
      obtain ⟨c, hO, _⟩ := hh.blk b _ hb
      simp only [VRel] at hp; exact ⟨_, hp c hO⟩
    · cases h
  · cases h
theorem run_resVals {P : Program} {κ : Ctx} {N : Nat} {ρ : Env} {σ : H} {a : Act} (hs : SRel κ N ρ σ a) {g : ResultVar → Sem Value} (hg1 : ∀ t, g (.tmp t) = Sem.pure (a.tmps.getD t Go.undef))
    (hg2 : ∀ ad t, g (.cell ad t) = do loadVar t (← asAddr (a.tmps.getD ad Go.undef))) : ∀ (rs : List ResultVar) (vs : List AV), resVals ρ σ P rs = some vs →
    ∃ us, (rs.mapM g).run P κ.w = .ok us κ.w ∧ VRels κ vs us
  | [], vs, h => by simp only [resVals, Option.some.injEq] at h; subst h; exact ⟨[], by simp [pure, Sem.run], by simp [VRels]⟩
  | r :: rs, vs, h => by
    simp only [resVals] at h
    split at h
    · rename_i v vs' hv hvs
      cases h
      obtain ⟨us, h1, h2⟩ := run_resVals hs hg1 hg2 rs vs' hvs
      have key : ∃ u, (g r).run P κ.w = .ok u κ.w ∧ VRel κ v u := by
        unfold resVal at hv
        split at hv
        · rename_i t
          cases hv
          exact ⟨_, by rw [hg1]; rfl, hs.ev (.tmp t)⟩
        · rename_i ad t
          split at hv
          · rename_i p hp
            split at hv
            · rename_i g n ht
              have he := hs.ev (.tmp ad)
              simp only [Env.ev, hp, Option.getD_some, Act.eval] at he
              obtain ⟨x, g1, g2⟩ := run_aload ht hs.heap he hv
              obtain ⟨ad', e⟩ := aload_addr hs.heap he hv
              refine ⟨x, ?_, g2⟩
              rw [hg2]
              rw [e] at g1 ⊢
              simpa [Instr.loadAt, Instr.sureAddr, asAddr, pure, Sem.run] using g1
            · cases hv
          · cases hv
      obtain ⟨u, k1, k2⟩ := key
      refine ⟨u :: us, ?_, by simp only [VRels]; exact ⟨u, us, rfl, k2, h2⟩⟩
      simp only [List.mapM_cons, Sem.run_bind, k1, Result.andThen_ok, h1, pure, Sem.run]
    · cases h
theorem run_resOf {P : Program} {κ : Ctx} {N : Nat} {ρ : Env} {σ : H} {a : Act} (hs : SRel κ N ρ σ a) {fn : Func} {v : AV} (h : resOf ρ σ P fn.results.toList = some v) :
    ∃ u, (results fn a.tmps).run P κ.w = .ok u κ.w ∧ VRel κ v u := by
  unfold resOf at h
  have main : ∀ vs, resVals ρ σ P fn.results.toList = some vs → ∃ us : List Value, (results fn a.tmps).run P κ.w = .ok (if h : us.toArray.size = 1 then us.toArray[0] else .tuple us.toArray) κ.w ∧ VRels κ vs us := by
    intro vs hvs
    unfold results
    simp only [Sem.run_bind]
    rw [Array.mapM_eq_mapM_toList, Sem.run_map]
    obtain ⟨us, h1, h2⟩ := run_resVals hs (g := fun x => match x with | .tmp t => pure (a.tmps.getD t Go.undef) | .cell ad t => do loadVar t (← asAddr (a.tmps.getD ad Go.undef))) (fun _ => rfl) (fun _ _ => rfl) _ _ hvs
    refine ⟨us, ?_, h2⟩
    have e : ∀ r : Result (List Value), r = .ok us κ.w → (Result.andThen (Result.andThen r fun a w' => Result.ok a.toArray w') fun a w' => Sem.run P (pure (if h : a.size = 1 then a[0] else Value.tuple a)) w') = Result.ok (if h : us.toArray.size = 1 then us.toArray[0] else Value.tuple us.toArray) κ.w := by
      intro r hr; subst hr; rfl
    exact e _ h1
  split at h
  · rename_i v' hvs
    cases h
    obtain ⟨us, h1, h2⟩ := main _ hvs
    simp only [VRels] at h2
    obtain ⟨u, us', rfl, h3, rfl⟩ := h2
    exact ⟨u, h1, h3⟩
  · rename_i vs hne hvs
    cases h
    obtain ⟨us, h1, h2⟩ := main _ hvs
    have hl := VRels.length h2
    refine ⟨.tuple us.toArray, ?_, by simp only [VRel]; exact ⟨_, rfl, by simpa using h2⟩⟩
    rw [h1]
    have : ¬ us.toArray.size = 1 := by
      simp only [List.size_toArray]
      intro e
      obtain ⟨v', hv'⟩ := List.length_eq_one_iff.1 (hl ▸ e)
      subst hv'
      exact hne v' rfl
    rw [dif_neg this]
  · cases h
/-- A function by its body. -/
theorem call_body {P : Program} {f : FuncId} {fn : Func} {c : Code} {args : List AV} {σ : H} {R : AV → H → Prop} {n : Nat} (hf : P.funcs[f]? = some fn) (hb : fn.body = some c) (hn : fn.ntmps = n) (hname : (fn.name == "runtime.NumGoroutine") = false)
    (h : AWp P (args.length + (n - args.length)) c (args0 0 args) σ fun e ρ σ' => (e = .normal ∨ e = .ret) ∧ ∃ v, resOf ρ σ' P fn.results.toList = some v ∧ R v σ') : CallS P f args σ R := by
  refine ⟨⟨fn, hf, by rw [hb]; rfl, hname⟩, fun κ us h1 h2 => ?_⟩
  have hl := VRels.length h1
  refine calls_of_wp hf hb ?_
  rw [hn]
  have hs : SRel κ (args.length + (n - args.length)) (args0 0 args) σ { tmps := us ++ Array.replicate (n - us.size) Go.undef, defers := [] } := by
    have hsz : us.size = args.length := by rw [← Array.length_toList]; exact hl
    refine ⟨by simp [hsz], rfl, fun t v hv => ?_, h2⟩
    obtain ⟨_, u, g1, g2⟩ := args0_get 0 args us.toList t v h1 hv
    refine ⟨u, ?_, g2⟩
    have hlt : t < us.size := by
      have := (List.getElem?_eq_some_iff.1 g1).1
      simpa using this
    rw [Array.getElem?_append_left hlt]
    simpa using g1
  refine wp_mono (h κ _ hs) ?_
  rintro e a w ⟨κ', ρ', σ', rfl, g1, g2, g3, v, g4, g5⟩
  obtain ⟨u, r1, r2⟩ := run_resOf g2 g4
  rcases g3 with rfl | rfl
  · exact ⟨g2.defers, u, r1, κ', v, u, σ', rfl, rfl, g1, g2.heap, r2, g5⟩
  · exact ⟨g2.defers, u, r1, κ', v, u, σ', rfl, rfl, g1, g2.heap, r2, g5⟩
/-- The call of a function of trees. -/
theorem pure_call {P : Program} {κ : Ctx} {N : Nat} {ρ : Env} {σ : H} {a : Act} {f : FuncId} {args : List AV} {v : AV} {us : Array Value} (hp : PureF P f args v) (hs : SRel κ N ρ σ a) (hu : VRels κ args us.toList) :
    Calls P f us κ.w fun e w' => ∃ κ' u, κ'.w = w' ∧ e = .returned u ∧ Step κ κ' ∧ SRel κ' N ρ σ a ∧ VRel κ' v u := by
  have h0 : HRel κ.pure [] := ⟨fun b d h => by simp [H.get] at h, fun b c h => by simp [Ctx.pure] at h, fun b b' c h => by simp [Ctx.pure] at h, fun c hc => by
    rcases hc with hc | ⟨b, hb⟩
    · exact hs.heap.xlt c hc
    · exact (hs.heap.dom b c hb).2.1⟩
  refine (hp.2.2 κ.pure us (VRels.toPure hu) h0).mono ?_
  rintro e w' ⟨κ1, v', u, σ', rfl, rfl, hst, hh, hv, rfl⟩
  have step : Step κ { κ with w := κ1.w } := ⟨rfl, hst.size, fun c hc hn => hst.keep c hc (by simp [Ctx.pure]), hst.bs, fun b c h => .inl ⟨b, h⟩, hst.os, hst.tape, hst.output, fun _ _ => .inr rfl⟩
  have ids : ∀ m, Ids κ { κ with w := κ1.w } m := fun m b _ => .inr rfl
  refine ⟨{ κ with w := κ1.w }, u, rfl, rfl, step, ⟨hs.size, hs.defers, fun t x hx => ?_, ?_⟩, ?_⟩
  · obtain ⟨y, g1, g2⟩ := hs.env t x hx
    exact ⟨y, g1, VRel.le step.le x y (ids _) g2⟩
  · refine ⟨fun b d hd => ?_, fun b c hc => ?_, hs.heap.inj, fun c hc => Nat.lt_of_lt_of_le (hs.heap.xlt c hc) hst.size⟩
    · obtain ⟨c, g1, g2⟩ := hs.heap.blk b d hd
      exact ⟨c, g1, BRel.le step.le (ids _) (hst.keep c (hs.heap.dom b c g1).2.1 (by simp [Ctx.pure])) g2⟩
    · obtain ⟨g1, g2, g3⟩ := hs.heap.dom b c hc
      exact ⟨g1, Nat.lt_of_lt_of_le g2 hst.size, g3⟩
  · have hle : κ1.le { κ with w := κ1.w } := by
      refine ⟨fun c hc => ⟨?_, rfl⟩, fun _ => Nat.le_refl _⟩
      obtain ⟨c1, c2, c3⟩ := hc
      have hX : κ1.X = κ.pure.X := hst.X
      rw [hX] at c2
      exact ⟨c1, fun h => c2 (.inl h), fun b hb => c2 (.inr ⟨b, hb⟩)⟩
    exact VRel.le hle v' u (ids_noref hp.1) hv

theorem enter_run {P : Program} {f : FuncId} {w : World} {us : Array Value} (h : Entered P f) : (callFunc f us).run P w = .ok (.enter f us) w := by
  obtain ⟨fn, h1, h2, h3⟩ := h
  simp only [callFunc, program, Sem.run_bind, Sem.run, Result.andThen_ok, h1, h3, h2]
  rfl
theorem aop_call {P : Program} {N : Nat} {ρ : Env} {σ : H} {o : Oper} {K : Env → H → Prop} {x : Operand} {args : Array Operand} {ts : Array TypeId} {f : FuncId} {first caps : List AV} {v : AV}
    (ho : o.op = .call ⟨.value x, args, ts⟩) (hx : ρ.ev x = .func f first caps) (hp : PureF P f (first ++ args.toList.map ρ.ev ++ caps) v) (hd : dstOk N o = true) (hK : K (ρ.put o.dst v) σ) : AOp P N o ρ σ K := by
  intro Q' next κ a hs hn
  have hv := hs.ev x
  rw [hx] at hv
  simp only [VRel] at hv
  obtain ⟨uf, uc, e, h1, h2⟩ := hv
  have hr : (execOp a.eval o).run P κ.w = .ok (.enter f (uf ++ args.map a.eval ++ uc)) κ.w := by
    simp only [execOp, ho, resolve, e, Deferred.ofValue, Sem.run_bind, pure, Sem.run, Result.andThen_ok, invoke]
    exact enter_run hp.2.1
  unfold Oper.wp
  rw [hr]
  have hu : VRels κ (first ++ args.toList.map ρ.ev ++ caps) (uf ++ args.map a.eval ++ uc).toList := by
    simp only [Array.toList_append, Array.toList_map]
    exact VRels.append (VRels.append h1 (evs hs _)) h2
  refine (pure_call hp hs hu).mono ?_
  rintro e' w' ⟨κ', u, rfl, rfl, g1, g2, g3⟩
  exact hn κ' _ _ _ g1 (g2.put (dstOk_spec hd) g3) hK
end Go.Proofs.Hz
