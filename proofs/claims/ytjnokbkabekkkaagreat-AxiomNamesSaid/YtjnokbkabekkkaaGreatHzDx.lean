/- Regions that draw their order and make memory: what an operation yields hangs on the blocks that it names. -/
import Derived.Test.YtjnokbkabekkkaaGreatHzRen
set_option linter.all false
namespace Go.Proofs.Hz
open Go

theorem live_loc {σ σ' : H} {b : Nat} (h : σ.get b = σ'.get b) : σ.live b = σ'.live b := by simp only [H.live, h]
theorem acells_loc {σ σ' : H} {v : AV} (h : ∀ b, v.men b = true → σ.live b = σ'.live b) : acells σ v = acells σ' v := by
  cases v <;> simp only [acells] <;> rw [(h _ (by simp [AV.men]))]
theorem afill_loc {σ σ' : H} {p : Nat → Option (Nat × Nat)} : ∀ (ps : List (Nat × AV)) (cs : List AV), (∀ x ∈ ps, ∀ b, x.2.men b = true → σ.live b = σ'.live b) → afill p σ cs ps = afill p σ' cs ps
  | [], cs, _ => rfl
  | (i, v) :: ps, cs, h => by
    simp only [afill]
    cases p i with
    | none => rfl
    | some x =>
      obtain ⟨off, size⟩ := x
      simp only [acells_loc (h (i, v) (by simp))]
      cases acells σ' v with
      | none => rfl
      | some vs =>
        simp only
        split
        · exact afill_loc ps _ fun x hx => h x (by simp [hx])
        · rfl
theorem abuild_loc {P : Program} {σ σ' : H} {t : TypeId} {ps : List (Nat × AV)} (h : ∀ x ∈ ps, ∀ b, x.2.men b = true → σ.live b = σ'.live b) : abuild P t σ ps = abuild P t σ' ps := by
  unfold abuild
  cases zeroL P t <;> cases placesL P t <;> first | rfl | (simp only; rw [afill_loc _ _ h])
theorem aaddr_loc {σ σ' : H} {n : Nat} {v : AV} (h : ∀ b, v.men b = true → σ.live b = σ'.live b) : aaddr σ n v = aaddr σ' n v := by
  cases v <;> simp only [aaddr] <;> rw [(h _ (by simp [AV.men]))]
theorem aindex_loc {σ σ' : H} {e : Option Nat × Nat} {v : AV} {i : Int} (h : ∀ b, v.men b = true → σ.live b = σ'.live b) : aindex e σ v i = aindex e σ' v i := by
  obtain ⟨e1, k⟩ := e
  cases e1 with
  | none => cases v <;> simp only [aindex, aindexS] <;> rw [(h _ (by simp [AV.men]))]
  | some n => simp only [aindex, aaddr_loc h]
theorem aslice_loc {σ σ' : H} {k : Nat} {v : AV} {lo : Int} {hi : Option Int} (h : ∀ b, v.men b = true → σ.live b = σ'.live b) : aslice k σ v lo hi = aslice k σ' v lo hi := by
  cases v <;> simp only [aslice] <;> rw [(h _ (by simp [AV.men]))]
theorem asl_loc {P : Program} {σ σ' : H} {t : TypeId} {v : AV} {lo hi : Option (IntKind × Int)} (h : ∀ b, v.men b = true → σ.live b = σ'.live b) : asl P σ t v lo hi = asl P σ' t v lo hi := by
  unfold asl
  simp only [aslice_loc h]
theorem eqop_loc {σ σ' : H} {d : TypeDesc} {x y : AV} (h : ∀ b, x.men b = true → σ.live b = σ'.live b) : eqop d σ x y = eqop d σ' x y := by
  cases x with
  | ref b off =>
    have e := (h b (by simp [AV.men]))
    cases d <;> cases y <;> first | rfl | (simp only [eqop, e])
  | rs b off n k =>
    have e := (h b (by simp [AV.men]))
    cases d <;> cases y <;> first | rfl | (simp only [eqop, e])
  | _ => cases d <;> cases y <;> rfl
theorem abin_loc {P : Program} {σ σ' : H} {op : BinOp} {t : TypeId} {x y : AV} (h : ∀ b, x.men b = true → σ.live b = σ'.live b) : abin P σ op t x y = abin P σ' op t x y := by
  have e : ∀ d, eqop d σ x y = eqop d σ' x y := fun d => eqop_loc h
  cases x <;> cases y <;> first | rfl | (simp only [abin, e])
theorem alen_loc {σ σ' : H} {d : TypeDesc} {x : AV} (h : ∀ b, x.men b = true → σ.live b = σ'.live b) : alen d σ x = alen d σ' x := by
  cases x with
  | rs b off n k =>
    have e := (h b (by simp [AV.men]))
    cases d <;> first | rfl | (simp only [alen, e])
  | _ => cases d <;> rfl
theorem mens_of_mem {b : Nat} : ∀ {vs : List AV} {v : AV}, v ∈ vs → v.men b = true → AV.mens b vs = true
  | [], v, h, _ => by simp at h
  | x :: vs, v, h, hm => by
    simp only [AV.mens, Bool.or_eq_true]
    rcases List.mem_cons.1 h with rfl | h
    · exact .inl hm
    · exact .inr (mens_of_mem h hm)
theorem abuiltin_loc {P : Program} {σ σ' : H} {b : Builtin} {ts : List TypeId} {xs : List AV} (h : ∀ b, AV.mens b xs = true → σ.live b = σ'.live b) : abuiltin P σ b ts xs = abuiltin P σ' b ts xs := by
  have e : ∀ d, ∀ x ∈ xs, alen d σ x = alen d σ' x := fun d x hx => alen_loc fun b hb => h b (mens_of_mem hx hb)
  unfold abuiltin
  split <;> first | rfl | (simp only [e _ _ (List.mem_cons_self ..)])
theorem aload_loc {g : Bool} {n : Nat} {v : AV} {σ σ' : H} (h : ∀ b, v.men b = true → σ.get b = σ'.get b) : aload g n v σ = aload g n v σ' := by
  cases v <;> simp only [aload] <;> rw [h _ (by simp [AV.men])]
theorem alookup_loc {P : Program} {t : TypeId} {σ σ' : H} {x k : AV} {c : Bool} (h : ∀ b, x.men b = true → σ.get b = σ'.get b) : alookup P t σ x k c = alookup P t σ' x k c := by
  unfold alookup
  cases mapL P t with
  | none => rfl
  | some r =>
    cases x with
    | mref b => simp only; rw [h b (by simp [AV.men])]
    | _ => rfl
/-- What is named by the operands of an operation. -/
def opMen (ρ : Env) (o : Op) (b : Nat) : Bool := AV.mens b (o.operands.toList.map ρ.ev)
theorem opMen_of {ρ : Env} {o : Op} {b : Nat} {x : Operand} (hx : x ∈ o.operands) (h : (ρ.ev x).men b = true) : opMen ρ o b = true :=
  mens_of_mem (List.mem_map_of_mem (by simpa using hx)) h
/-- What an operation reads through. -/
def rdOf (ρ : Env) (o : Op) : List AV :=
  match o with
  | .load _ x => [ρ.ev x]
  | .lookup _ x _ _ => [ρ.ev x]
  | .store _ x _ => [ρ.ev x]
  | .call ⟨.builtin .append, args, _⟩ => args.toList.map ρ.ev
  | _ => []
theorem opv_loc {P : Program} {ρ : Env} {σ σ' : H} {o : Op} (hl : ∀ b, opMen ρ o b = true → σ.live b = σ'.live b) (hr : ∀ b, AV.mens b (rdOf ρ o) = true → σ.get b = σ'.get b) : opv P ρ σ o = opv P ρ σ' o := by
  have g : ∀ x ∈ o.operands, ∀ b, (ρ.ev x).men b = true → σ.live b = σ'.live b := fun x hx b hb => hl b (opMen_of hx hb)
  cases o with
  | call c =>
    obtain ⟨cal, args, ts⟩ := c
    cases cal with
    | builtin bb =>
      simp only [opv]
      refine abuiltin_loc fun b hb => hl b ?_
      unfold opMen
      rw [show (Op.call ⟨.builtin bb, args, ts⟩).operands.toList.map ρ.ev = args.toList.map ρ.ev from by simp [Op.operands, Call.operands]]
      exact hb
    | _ => rfl
  | build t ps =>
    simp only [opv]
    refine abuild_loc fun x hx b hb => ?_
    obtain ⟨p, hp, rfl⟩ := List.mem_map.1 hx
    exact g p.2 (by simp only [Op.operands, List.mem_toArray, List.mem_map]; exact ⟨p, hp, rfl⟩) b hb
  | slice t x lo hi mx =>
    cases mx with
    | none =>
      simp only [opv]
      have e : ∀ l hh, asl P σ t (ρ.ev x) l hh = asl P σ' t (ρ.ev x) l hh := fun l hh => asl_loc (g x (by simp [Op.operands]))
      simp only [e]
    | some m => rfl
  | makeFunc f a c => cases f <;> rfl
  | load t x => simp only [opv]; have e := fun gg n => aload_loc (g := gg) (n := n) (v := ρ.ev x) (σ := σ) (σ' := σ') (fun b hb => hr b (by simpa [rdOf, AV.mens] using hb)); simp only [e]
  | nilCheck x =>
    simp only [opv]
    split <;> first | rfl | (rename_i b o hv; rw [g x (by simp [Op.operands]) b (by rw [hv]; simp [AV.men])])
  | binOp op t x y t2 => simp only [opv]; exact abin_loc (g x (by simp [Op.operands]))
  | fieldAddr s x i => simp only [opv]; have e := fun n => aaddr_loc (n := n) (g x (by simp [Op.operands])); simp only [e]
  | indexAddr t x i => simp only [opv]; have e := fun ee n => aindex_loc (e := ee) (i := n) (g x (by simp [Op.operands])); simp only [e]
  | lookup t x k c => simp only [opv]; exact alookup_loc (fun b hb => hr b (by simpa [rdOf, AV.mens] using hb))
  | _ => rfl
theorem solids_nil (σ : H) : ∀ {vs : List AV}, solids [] vs = true → solids σ vs = true
  | [], _ => rfl
  | v :: vs, h => by
    simp only [solids, Bool.and_eq_true] at h ⊢
    refine ⟨?_, solids_nil σ h.2⟩
    have := h.1
    cases v <;> first | exact this | (simp [solid, H.live, H.get] at this)

def upd (σ : H) (b : Nat) : Option Blk → H
  | some d => σ.set b d
  | none => σ.del b
def upds (σ : H) : List (Nat × Option Blk) → H
  | [] => σ
  | (b, o) :: ts => upd (upds σ ts) b o
def tget : List (Nat × Option Blk) → Nat → Option (Option Blk)
  | [], _ => none
  | (b, o) :: ts, c => if c = b then some o else tget ts c
theorem upd_get (σ : H) (b c : Nat) (o : Option Blk) : (upd σ b o).get c = if c = b then o else σ.get c := by
  cases o with
  | none =>
    simp only [upd]
    by_cases e : c = b
    · subst e; rw [H.get_del_same]; simp
    · rw [H.get_del_ne _ e, if_neg e]
  | some d =>
    simp only [upd]
    by_cases e : c = b
    · subst e; rw [H.get_set_same]; simp
    · rw [H.get_set_ne _ _ e, if_neg e]
theorem upds_get (σ : H) : ∀ (ts : List (Nat × Option Blk)) (c : Nat), (upds σ ts).get c = (tget ts c).getD (σ.get c)
  | [], c => rfl
  | (b, o) :: ts, c => by
    simp only [upds, tget]
    rw [upd_get]
    split
    · rfl
    · exact upds_get σ ts c
theorem SRel.getEq {κ : Ctx} {N : Nat} {ρ : Env} {σ σ' : H} {a : Act} (h : SRel κ N ρ σ a) (e : ∀ b, σ.get b = σ'.get b) : SRel κ N ρ σ' a :=
  ⟨h.size, h.defers, h.env, fun b d hd => h.heap.blk b d (by rw [e]; exact hd), fun b c hc => by rw [← e]; exact h.heap.dom b c hc, h.heap.inj, h.heap.xlt⟩

/-- An operation that turns the own heap: what it yields, which blocks it turns into what. -/
def aopd (P : Program) (ρ : Env) (σ : H) (o : Oper) : Option (AV × List (Nat × Option Blk)) :=
  match o.op, o.dst with
  | .box t x, some d => match acells σ (ρ.ev x) with
    | some cs => if AV.mens d cs = false then some (.ref d 0, [(d, some (.cells cs))]) else none
    | none => none
  | .alloc t, some d => match zeroL P t with
    | some cs => if AV.mens d cs = false then some (.ref d 0, [(d, some (.cells cs))]) else none
    | none => none
  | .buildSlice t len ps, some d => match elL P t, apL P t with
    | some (none, k), some _ => if len * k ≤ 16777216 then
      match afill (fun j => ((List.range len).map (fun j => (j * k, k)))[j]?) σ (undefs (len * k)) (ps.toList.map fun p => (p.1, ρ.ev p.2)) with
      | some cs => if AV.mens d cs = false then some (.rs d 0 len k, [(d, some (.cells cs))]) else none
      | none => none
      else none
    | _, _ => none
  | .store t x y, _ => match tyL P t, ρ.ev x with
    | some (_, n), .ref b off => match astore n σ (.ref b off) (ρ.ev y) with
      | some σ' => some (.tup [], [(b, σ'.get b)])
      | none => none
    | _, _ => none
  | .call ⟨.builtin .append, args, ts⟩, some d => match args.toList, ts.toList with
    | [s, x], [t, t'] => if t = t' then match apL P t, aelems ((apL P t).getD (0, 0)).1 σ (ρ.ev x) with
      | some (k, by_), some (m, news) => if solids [] news = true then
        match ρ.ev s with
        | .nils => if m = 0 then none else if m * by_ ≤ 140737488355328 ∧ m < 9223372036854775807 then some (.rs d 0 m k, [(d, some (.cells news))]) else none
        | .rs b 0 n k' => if k' = k then match σ.get b with
          | some (.cells cs) => if cs.length = n * k ∧ (n + m) * by_ ≤ 140737488355328 ∧ n + m < 9223372036854775807 then some (.rs d 0 (n + m) k, [(d, some (.cells (cs ++ news))), (b, none)]) else none
          | _ => none else none
        | _ => none
        else none
      | _, _ => none
      else none
    | _, _ => none
  | _, _ => none
/-- Does it make a block of its own? -/
def isNew (o : Oper) : Bool :=
  match o.op with
  | .store .. => false
  | _ => true
theorem aopd_sound {P : Program} {κ : Ctx} {N : Nat} {ρ : Env} {σ : H} {a : Act} (hs : SRel κ N ρ σ a) {o : Oper} {v : AV} {ts : List (Nat × Option Blk)} (h : aopd P ρ σ o = some (v, ts))
    (hf : isNew o = true → ∀ d, o.dst = some d → Fresh d ρ σ) :
    ∃ κ' u, ((execOp a.eval o).run P κ.w = .ok (.value u) κ'.w ∨ ((execOp a.eval o).run P κ.w = .ok .skip κ'.w ∧ u = Go.undef)) ∧ Step κ κ' ∧ SRel κ' N ρ (upds σ ts) a ∧ VRel κ' v u := by
  have fromNew : ∀ (d : Nat) (cs : List AV) (v : AV), Fresh d ρ σ → ts = [(d, some (.cells cs))] → aop P ρ σ o = some (ρ, v, (d, .cells cs) :: σ) →
      ∃ κ' u, ((execOp a.eval o).run P κ.w = .ok (.value u) κ'.w ∨ ((execOp a.eval o).run P κ.w = .ok .skip κ'.w ∧ u = Go.undef)) ∧ Step κ κ' ∧ SRel κ' N ρ (upds σ ts) a ∧ VRel κ' v u := by
    rintro d cs v hfr rfl ha
    obtain ⟨κ', u, h1, h2, h3, h4⟩ := aop_sound hs ha
    refine ⟨κ', u, h1, h2, h3.getEq fun b => ?_, h4⟩
    rw [upds_get]
    simp only [H.get, tget]
    by_cases e : b = d <;> simp [e]
  have fresh2 : ∀ d, Fresh d ρ σ → freshB d ρ σ = true := fun d hf => by unfold freshB; rw [hf.get, hf.men, hf.env, hf.unp]; rfl
  unfold aopd at h
  split at h
  · rename_i t x d e1 e2
    have hfr := hf (by simp [isNew, e1]) d e2
    split at h
    · rename_i cs hcs
      split at h
      · rename_i hm
        cases h
        refine fromNew d cs _ hfr rfl ?_
        obtain ⟨dst, op, ty, pos, af, gd⟩ := o
        simp only at e1 e2; subst e1 e2
        simp only [aop, hcs, anew, fresh2 d hfr, hm, and_self, if_true]
      · cases h
    · cases h
  · rename_i t d e1 e2
    have hfr := hf (by simp [isNew, e1]) d e2
    split at h
    · rename_i cs hcs
      split at h
      · rename_i hm
        cases h
        refine fromNew d cs _ hfr rfl ?_
        obtain ⟨dst, op, ty, pos, af, gd⟩ := o
        simp only at e1 e2; subst e1 e2
        simp only [aop, hcs, anew, fresh2 d hfr, hm, and_self, if_true]
      · cases h
    · cases h
  · rename_i t len ps d e1 e2
    have hfr := hf (by simp [isNew, e1]) d e2
    split at h
    · rename_i k q he hap
      split at h
      · rename_i hle
        split at h
        · rename_i cs hcs
          split at h
          · rename_i hm
            cases h
            refine fromNew d cs _ hfr rfl ?_
            obtain ⟨dst, op, ty, pos, af, gd⟩ := o
            simp only at e1 e2; subst e1 e2
            simp only [aop, anewSlice, he, hap, if_pos hle, hcs, fresh2 d hfr, hm, and_self, if_true]
          · cases h
        · cases h
      · cases h
    · cases h
  · rename_i dd t x y e1
    split at h
    · rename_i g n b off ht hx
      split at h
      · rename_i σ2 hst
        cases h
        have ha : aop P ρ σ o = some (ρ, .tup [], σ2) := by
          obtain ⟨dst, op, ty, pos, af, gd⟩ := o
          simp only at e1; subst e1
          simp only [aop, ht, hx, hst, Option.map_some]
        obtain ⟨κ', u, h1, h2, h3, h4⟩ := aop_sound hs ha
        refine ⟨κ', u, h1, h2, h3.getEq fun c => ?_, h4⟩
        rw [upds_get]
        simp only [tget]
        split
        · rename_i e; subst e; rfl
        · rename_i e
          simp only [Option.getD_none]
          unfold astore at hst
          simp only at hst
          split at hst
          · split at hst
            · split at hst
              · cases hst; exact H.get_set_ne _ _ e
              · cases hst
            · cases hst
          · cases hst
      · cases h
    · cases h
  · rename_i args tys d e1 e2
    have hfr := hf (by simp [isNew, e1]) d e2
    split at h
    · rename_i s x t t' ea et
      split at h
      · rename_i ett; subst ett
        split at h
        · rename_i k by_ m news hap hel
          rw [hap] at hel
          simp only [Option.getD_some] at hel
          split at h
          · rename_i hsol
            have ea' : args = #[s, x] := by apply Array.ext'; simpa using ea
            have et' : tys = #[t, t] := by apply Array.ext'; simpa using et
            have fin : ∀ v σ', aappend k by_ σ (ρ.ev s) (ρ.ev x) d = some (v, σ') → ∀ ts', (∀ b, σ'.get b = (upds σ ts').get b) →
                ∃ κ' u, ((execOp a.eval o).run P κ.w = .ok (.value u) κ'.w ∨ ((execOp a.eval o).run P κ.w = .ok .skip κ'.w ∧ u = Go.undef)) ∧ Step κ κ' ∧ SRel κ' N ρ (upds σ ts') a ∧ VRel κ' v u := by
              intro v σ' happ ts' hg
              obtain ⟨κ', y, h1, h2, h3, h4⟩ := run_aappend (ty := o.type) hap hs (hs.ev s) (hs.ev x) hfr happ
              refine ⟨κ', y, .inl ?_, h3, h4.getEq hg, h2⟩
              obtain ⟨dst, op, ty, pos, af, gd⟩ := o
              simp only at e1; subst e1
              subst ea' et'
              simp only [execOp, resolve, invoke, builtin, Sem.run_bind, pure, Sem.run, Result.andThen_ok, List.map_toArray, List.map_cons, List.map_nil, h1]
            split at h
            · rename_i hse
              split at h
              · cases h
              · rename_i hm
                split at h
                · rename_i hc
                  cases h
                  refine fin _ ((d, .cells news) :: σ) ?_ _ fun b => ?_
                  · rw [hse]; unfold aappend; rw [hel]; simp only [solids_nil σ hsol, if_true, if_neg hm, if_pos hc]
                  · rw [upds_get]; simp only [H.get, tget]; by_cases e : b = d <;> simp [e]
                · cases h
            · rename_i b n k' hse
              split at h
              · rename_i ek; subst ek
                split at h
                · rename_i cs hb
                  split at h
                  · rename_i hc
                    cases h
                    refine fin _ ((d, .cells (cs ++ news)) :: σ.del b) ?_ _ fun c => ?_
                    · rw [hse]; unfold aappend; rw [hel]; simp only [solids_nil σ hsol, if_true, hb, if_pos hc]
                    · rw [upds_get]; simp only [H.get, tget]
                      by_cases e : c = d
                      · simp [e]
                      · simp only [if_neg e]
                        by_cases e2 : c = b
                        · subst e2; rw [H.get_del_same]; simp
                        · rw [H.get_del_ne _ e2]; simp [e2]
                  · cases h
                · cases h
              · cases h
            · cases h
          · cases h
        · cases h
      · cases h
    · cases h
  · cases h
end Go.Proofs.Hz
