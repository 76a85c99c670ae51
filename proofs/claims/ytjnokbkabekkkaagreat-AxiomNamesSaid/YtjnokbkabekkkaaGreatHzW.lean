/- One operation; code, computed as far as it goes. -/
import Derived.Test.YtjnokbkabekkkaaGreatHzAop
set_option linter.all false
namespace Go.Proofs.Hz
open Go

def freshB (d : Nat) (ρ : Env) (σ : H) : Bool := (σ.get d).isNone && !σ.men d && !ρ.men d && !pinned d
theorem freshB_spec {d : Nat} {ρ : Env} {σ : H} (h : freshB d ρ σ = true) : Fresh d ρ σ := by
  simp only [freshB, Bool.and_eq_true, Option.isNone_iff_eq_none, Bool.not_eq_true'] at h
  exact ⟨h.1.1.1, h.1.1.2, h.1.2, h.2⟩
def anew (d : Nat) (ρ : Env) (σ : H) (cs : List AV) : Option (Env × AV × H) :=
  if freshB d ρ σ = true ∧ AV.mens d cs = false then some (ρ, .ref d 0, (d, .cells cs) :: σ) else none
def undefs : Nat → List AV
  | 0 => []
  | n + 1 => .undef :: undefs n
theorem undefs_eq (n : Nat) : undefs n = List.replicate n .undef := by
  induction n with
  | zero => rfl
  | succ n ih => simp [undefs, ih, List.replicate_succ]
def anewSlice (P : Program) (t : TypeId) (len : Nat) (ps : List (Nat × AV)) (d : Nat) (ρ : Env) (σ : H) : Option (Env × AV × H) :=
  match elL P t, apL P t with
  | some (none, k), some _ => if len * k ≤ 16777216 then
    match afill (fun j => ((List.range len).map (fun j => (j * k, k)))[j]?) σ (undefs (len * k)) ps with
    | some cs => if freshB d ρ σ = true ∧ AV.mens d cs = false then some (ρ, .rs d 0 len k, (d, .cells cs) :: σ) else none
    | none => none
    else none
  | _, _ => none
def aop (P : Program) (ρ : Env) (σ : H) (o : Oper) : Option (Env × AV × H) :=
  match o.op, o.dst with
  | .box t x, some d => match acells σ (ρ.ev x) with
    | some cs => anew d ρ σ cs
    | none => none
  | .alloc t, some d => match zeroL P t with
    | some cs => anew d ρ σ cs
    | none => none
  | .buildSlice t len ps, some d => anewSlice P t len (ps.toList.map fun p => (p.1, ρ.ev p.2)) d ρ σ
  | .store t x y, _ => match tyL P t with
    | some (_, n) => (astore n σ (ρ.ev x) (ρ.ev y)).map fun σ' => (ρ, .tup [], σ')
    | none => none
  | .makeMap t none, some d => if freshB d ρ σ = true then some (ρ, .mref d, (d, .map []) :: σ) else none
  | .mapUpdate t x k v, _ => (aupdate P t σ (ρ.ev x) (ρ.ev k) (ρ.ev v)).map fun σ' => (ρ, .tup [], σ')
  | .call ⟨.builtin .append, args, ts⟩, some d => match args.toList, ts.toList with
    | [s, x], [t, t'] => if t = t' then match apL P t with
      | some (k, by_) => aapp k by_ ρ σ (ρ.ev s) (ρ.ev x) d
      | none => none
      else none
    | _, _ => none
  | op, _ => (opv P ρ σ op).map fun v => (ρ, v, σ)
theorem run_newVar {P : Program} {w : World} {t : TypeId} {v : Value} : (newVar t v).run P w = .ok ⟨w.heap.size, 0, none⟩ { w with heap := w.heap.push (.cells v.cells t) } := by
  simp only [newVar, newRow, newObj, Sem.run_bind, Sem.run, Result.andThen_ok, pure]
theorem anew_spec {κ : Ctx} {N : Nat} {ρ ρ' : Env} {σ σ' : H} {a : Act} {d : Nat} {cs : List AV} {v : AV} {arr : Array Value} {elem : TypeId} (hs : SRel κ N ρ σ a) (hr : VRels κ cs arr.toList) (h : anew d ρ σ cs = some (ρ', v, σ')) :
    ∃ κ', κ'.w = { κ.w with heap := κ.w.heap.push (.cells arr elem) } ∧ Step κ κ' ∧ SRel κ' N ρ' σ' a ∧ VRel κ' v (.pointer (some ⟨κ.w.heap.size, 0, none⟩)) := by
  unfold anew at h
  split at h
  · rename_i hc
    simp only [Option.some.injEq, Prod.mk.injEq] at h
    obtain ⟨rfl, rfl, rfl⟩ := h
    obtain ⟨g1, g2, g3⟩ := new_cells hs (freshB_spec hc.1) arr elem hc.2 hr (fun i u hu => by simpa using hu)
    refine ⟨_, rfl, g1, g2, ?_⟩
    simp only [VRel]
    intro c hc
    rw [g3] at hc; cases hc; rfl
  · cases h
theorem aop_sound {P : Program} {κ : Ctx} {N : Nat} {ρ ρ' : Env} {σ σ' : H} {a : Act} (hs : SRel κ N ρ σ a) {o : Oper} {v : AV} (h : aop P ρ σ o = some (ρ', v, σ')) :
    ∃ κ' u, ((execOp a.eval o).run P κ.w = .ok (.value u) κ'.w ∨ ((execOp a.eval o).run P κ.w = .ok .skip κ'.w ∧ u = Go.undef)) ∧ Step κ κ' ∧ SRel κ' N ρ' σ' a ∧ VRel κ' v u := by
  obtain ⟨dst, op, type, pos, after, guard⟩ := o
  unfold aop at h
  split at h
  · rename_i t x d e1 e2
    simp only at e1; subst e1
    split at h
    · rename_i cs hcs
      obtain ⟨κ', e, g1, g2, g3⟩ := anew_spec (elem := t) hs (acells_spec hs.heap (hs.ev x) hcs) h
      refine ⟨κ', _, .inl ?_, g1, g2, g3⟩
      simp only [execOp, Instr.box, Sem.run_bind, run_newVar, Result.andThen_ok, pure, Sem.run, e]
    · cases h
  · rename_i t d e1 e2
    simp only at e1; subst e1
    split at h
    · rename_i cs hcs
      obtain ⟨z, hz, rfl⟩ := run_zero hcs κ.w
      obtain ⟨κ', e, g1, g2, g3⟩ := anew_spec (elem := t) hs (vrels_cv κ z.cells.toList) h
      refine ⟨κ', _, .inl ?_, g1, g2, g3⟩
      simp only [execOp, Instr.alloc, Sem.run_bind, hz, run_newVar, Result.andThen_ok, pure, Sem.run, e]
    · cases h
  · rename_i t len ps d e1 e2
    simp only at e1; subst e1
    unfold anewSlice at h
    split at h
    · rename_i k q he hap
      split at h
      · rename_i hle
        split at h
        · rename_i cs hcs
          split at h
          · rename_i hc
            simp only [Option.some.injEq, Prod.mk.injEq] at h
            obtain ⟨rfl, rfl, rfl⟩ := h
            obtain ⟨e, i, z, hu, hi, hz, hzs, hpos, _, _⟩ := apL_spec (k := q.1) (by_ := q.2) hap
            have hk : i.size = k := by
              unfold elL at he
              rw [hu] at he
              simpa [hi] using he
            subst hk
            let arr0 : Array Value := (Array.range (len * i.size)).map fun j => (if len * i.size = 0 then (#[] : Array Value) else z.cells)[j % (if len * i.size = 0 then (#[] : Array Value) else z.cells).size]!
            have h0 : VRels κ (undefs (len * i.size)) arr0.toList := by
              rw [undefs_eq]
              refine VRels.of_get (by simp [arr0]) fun j x hx => ?_
              have hj : j < len * i.size := by simpa using (List.getElem?_eq_some_iff.1 hx).1
              have hx' : x = .undef := by
                have := (List.getElem?_eq_some_iff.1 hx).2
                simpa using this.symm
              subst hx'
              exact ⟨arr0.toList[j]'(by simpa [arr0] using hj), by simp, by simp [VRel]⟩
            have hup : ∃ vs, (ps.map fun (x : Nat × Operand) => (x.1, a.eval x.2)).toList = ((ps.toList.map fun p => (p.1, ρ.ev p.2)).zip vs).map (fun p => (p.1.1, p.2)) ∧ VRels κ ((ps.toList.map fun p => (p.1, ρ.ev p.2)).map (·.2)) vs := by
              refine ⟨ps.toList.map fun p => a.eval p.2, ?_, ?_⟩
              · simp only [Array.toList_map, List.zip_map', List.map_map]
                rfl
              · have := evs hs (ps.toList.map (·.2))
                simpa [List.map_map, Function.comp_def] using this
            obtain ⟨arr', f1, f2⟩ := run_fill hs.heap hup h0 hcs
            have f1' := fill_more (q := fun j => some (j * i.size, i.size)) (fun j x hx => by
              simp only [List.getElem?_map, Option.map_eq_some_iff] at hx
              obtain ⟨k, hk, rfl⟩ := hx
              obtain ⟨h1, h2⟩ := List.getElem?_eq_some_iff.1 hk
              have : k = j := by simpa using h2.symm
              subst this; rfl) f1
            obtain ⟨g1, g2, g3⟩ := new_cells hs (freshB_spec hc.1) arr' e hc.2 f2 (fun j u hu => by simpa using hu)
            have hsize : arr'.size = len * i.size := by
              have l1 := VRels.length f2
              have l2 := VRels.length h0
              have fl : ∀ (us : List (Nat × Value)) (p : Nat → Option (Nat × Nat)) (a1 a2 : Array Value), Instr.fill p a1 us = some a2 → a2.size = a1.size := by
                intro us p
                induction us with
                | nil => intro a1 a2 h; simp only [Instr.fill, Option.some.injEq] at h; rw [h]
                | cons x us ih =>
                  intro a1 a2 h
                  obtain ⟨j, u⟩ := x
                  simp only [Instr.fill] at h
                  split at h
                  · cases h
                  · rename_i off size _
                    split at h
                    · cases h
                    · rename_i hcc
                      rw [ih _ _ h]
                      have hfold : ∀ (l : List (Value × Nat)) (a0 : Array Value), (l.foldl (fun cs p => cs.setIfInBounds (off + p.2) p.1) a0).size = a0.size := by
                        intro l
                        induction l with
                        | nil => intro a0; rfl
                        | cons y l ih2 => intro a0; simp only [List.foldl_cons]; rw [ih2]; simp
                      rw [← Array.foldl_toList]
                      exact hfold _ _
              rw [fl _ _ _ _ f1]; simp [arr0]
            refine ⟨_, .slice (some ⟨κ.w.heap.size, 0, none⟩) len len, .inl ?_, g1, g2, ?_⟩
            · have hsz : (sizeOf e).run P κ.w = .ok i.size κ.w := by
                simp only [sizeOf, typeInfo, program, Sem.run_bind, Sem.run, Result.andThen_ok, hi, pure]
              have hzv : (zeroValue e).run P κ.w = .ok z κ.w := by
                simp only [zeroValue, typeInfo, program, Sem.run_bind, Sem.run, Result.andThen_ok, hi, pure, hz]
              simp only [execOp, Instr.buildSlice, Sem.run_bind, run_under hu, Result.andThen_ok, hsz]
              rw [if_neg (by omega)]
              by_cases hz0 : len * i.size = 0
              · simp only [hz0, if_true, pure, Sem.run, Sem.run_bind, Result.andThen_ok]
                have ea : arr0 = (Array.range 0).map fun j => (#[] : Array Value)[j % (#[] : Array Value).size]! := by simp [arr0, hz0]
                rw [ea] at f1'
                simp only [f1', newRow, newObj, Sem.run_bind, Sem.run, Result.andThen_ok, pure]
                rfl
              · simp only [if_neg hz0, hzv, pure, Sem.run, Sem.run_bind, Result.andThen_ok]
                have ea : arr0 = (Array.range (len * i.size)).map fun j => z.cells[j % z.cells.size]! := by simp [arr0, hz0]
                rw [ea] at f1'
                simp only [f1', newRow, newObj, Sem.run_bind, Sem.run, Result.andThen_ok, pure]
                rfl
            · simp only [VRel]
              intro c hc'
              rw [g3] at hc'; cases hc'
              refine ⟨_, len, rfl, Nat.le_refl _, .inr ⟨rfl, ?_⟩⟩
              simp only [bsize, Ctx.name, Array.getElem?_push_size, hsize]
              omega
          · cases h
        · cases h
      · cases h
    · cases h
  · rename_i dd t x y e1
    simp only at e1; subst e1
    split at h
    · rename_i g n ht
      simp only [Option.map_eq_some_iff, Prod.mk.injEq] at h
      obtain ⟨σ2, hst, rfl, rfl, rfl⟩ := h
      obtain ⟨κ', h1, h2, h3⟩ := run_store ht hs (hs.ev x) (hs.ev y) hst
      refine ⟨κ', Go.undef, .inr ⟨?_, rfl⟩, h2, h3, ?_⟩
      · simp only [execOp, Sem.run_bind, h1, Result.andThen_ok, pure, Sem.run]
      · simp only [VRel, Go.undef]; exact ⟨#[], rfl, by simp [VRels]⟩
    · cases h
  · rename_i t d e1 e2
    simp only at e1; subst e1
    split at h
    · rename_i hf
      simp only [Option.some.injEq, Prod.mk.injEq] at h
      obtain ⟨rfl, rfl, rfl⟩ := h
      obtain ⟨κ', u, h1, h2, h3, h4⟩ := run_makeMap (P := P) (t := t) hs (freshB_spec hf)
      refine ⟨κ', u, .inl ?_, h2, h3, h4⟩
      simp only [execOp, Option.map_none, Sem.run_bind, h1, Result.andThen_ok, pure, Sem.run]
    · cases h
  · rename_i dd t x k v e1
    simp only at e1; subst e1
    simp only [Option.map_eq_some_iff, Prod.mk.injEq] at h
    obtain ⟨σ2, hst, rfl, rfl, rfl⟩ := h
    obtain ⟨κ', h1, h2, h3⟩ := run_mapUpdate hs (hs.ev x) (hs.ev k) (hs.ev v) hst
    refine ⟨κ', Go.undef, .inr ⟨?_, rfl⟩, h2, h3, ?_⟩
    · simp only [execOp, Sem.run_bind, h1, Result.andThen_ok, pure, Sem.run]
    · simp only [VRel, Go.undef]; exact ⟨#[], rfl, by simp [VRels]⟩
  · rename_i args ts d e1 e2
    simp only at e1; subst e1
    split at h
    · rename_i s x t t' ea et
      split at h
      · rename_i ett; subst ett
        split at h
        · rename_i k by_ hap
          have ea' : args = #[s, x] := by apply Array.ext'; simpa using ea
          have et' : ts = #[t, t] := by apply Array.ext'; simpa using et
          subst ea' et'
          obtain ⟨κ', y, h1, h2, h3, h4⟩ := run_aapp (ty := type) hap hs (hs.ev s) (hs.ev x) h
          refine ⟨κ', y, .inl ?_, h3, h4, h2⟩
          simp only [execOp, resolve, invoke, builtin, Sem.run_bind, pure, Sem.run, Result.andThen_ok, List.map_toArray, List.map_cons, List.map_nil, h1]
        · cases h
      · cases h
    · cases h
  · simp only [Option.map_eq_some_iff, Prod.mk.injEq] at h
    obtain ⟨v', hv, rfl, rfl, rfl⟩ := h
    obtain ⟨u, h1, h2⟩ := opv_sound (o := ⟨dst, op, type, pos, after, guard⟩) hs hv
    exact ⟨κ, u, .inl h1, .refl _, hs, h2⟩
end Go.Proofs.Hz
