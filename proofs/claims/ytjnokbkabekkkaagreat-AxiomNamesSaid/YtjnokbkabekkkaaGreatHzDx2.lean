/- Regions that draw their order and make memory: the theorem. -/
import Derived.Test.YtjnokbkabekkkaaGreatHzDx
set_option linter.all false
namespace Go.Proofs.Hz
open Go

theorem acells_eq {σ σ' : H} {v v' : AV} (e : v = v') (h : ∀ b, v.men b = true → σ.live b = σ'.live b) : acells σ v = acells σ' v' := by subst e; exact acells_loc h
theorem aelems_loc {k : Nat} {σ σ' : H} {x : AV} (h : ∀ b, x.men b = true → σ.get b = σ'.get b) : aelems k σ x = aelems k σ' x := by
  cases x with
  | rs b off n k' => simp only [aelems]; rw [h b (by simp [AV.men])]
  | _ => rfl
theorem astore_loc {n : Nat} {σ σ' : H} {b off : Nat} {v : AV} (hb : σ.get b = σ'.get b) (h : ∀ c, v.men c = true → σ.live c = σ'.live c) :
    (astore n σ (.ref b off) v).map (fun s => s.get b) = (astore n σ' (.ref b off) v).map (fun s => s.get b) := by
  have hv := acells_loc (v := v) h
  have hsol : ∀ vs, acells σ v = some vs → solids σ vs = solids σ' vs := by
    intro vs hvs
    have : ∀ ws : List AV, (∀ c, AV.mens c ws = true → v.men c = true) → solids σ ws = solids σ' ws := by
      intro ws
      induction ws with
      | nil => intro _; rfl
      | cons w ws ih =>
        intro hw
        simp only [solids]
        rw [ih fun c hc => hw c (by simp [AV.mens, hc])]
        congr 1
        have hl : ∀ c, w.men c = true → σ.live c = σ'.live c := fun c hc => h c (hw c (by simp [AV.mens, hc]))
        cases w <;> first | rfl | (simp only [solid]; exact hl _ (by simp [AV.men]))
    refine this vs fun c hc => ?_
    cases v <;> simp only [acells] at hvs <;> first
      | (cases hvs; done)
      | (cases hvs; simpa [AV.mens, AV.men] using hc)
      | (split at hvs <;> cases hvs; simpa [AV.mens, AV.men] using hc)
  unfold astore
  simp only
  rw [hb]
  cases σ'.get b with
  | none => rfl
  | some d =>
    cases d with
    | map es => rfl
    | cells cs =>
      simp only
      cases ha : acells σ v with
      | none => rw [← hv, ha]
      | some vs =>
        rw [← hv, ha]
        simp only [hsol vs ha]
        split
        · simp [H.get_set_same]
        · rfl
theorem aopd_same {P : Program} {ρ ρ' : Env} {σ σ' : H} {o : Oper} (he : ∀ x ∈ o.op.operands, ρ.ev x = ρ'.ev x) (h : ∀ b, opMen ρ o.op b = true → σ.live b = σ'.live b) (hr : ∀ b, AV.mens b (rdOf ρ o.op) = true → σ.get b = σ'.get b) : aopd P ρ σ o = aopd P ρ' σ' o := by
  obtain ⟨dst, op, ty, pos, af, gd⟩ := o
  simp only at he h hr
  have g : ∀ x ∈ op.operands, ∀ b, (ρ.ev x).men b = true → σ.live b = σ'.live b := fun x hx b hb => h b (opMen_of hx hb)
  cases op with
  | box t x =>
    have e := he x (by simp [Op.operands])
    have ec := acells_eq e (g x (by simp [Op.operands]))
    cases dst <;> simp only [aopd, ec]
  | alloc t => cases dst <;> rfl
  | buildSlice t len ps =>
    cases dst with
    | none => rfl
    | some d =>
      have e1 : (ps.toList.map fun p => (p.1, ρ.ev p.2)) = ps.toList.map fun p => (p.1, ρ'.ev p.2) := List.map_congr_left fun p hp => by
        rw [he p.2 (by simp only [Op.operands, List.mem_toArray, List.mem_map]; exact ⟨p, hp, rfl⟩)]
      have e2 : ∀ pl cs, afill pl σ cs (ps.toList.map fun p => (p.1, ρ.ev p.2)) = afill pl σ' cs (ps.toList.map fun p => (p.1, ρ.ev p.2)) := fun pl cs => afill_loc _ _ fun x hx b hb => by
        obtain ⟨p, hp, rfl⟩ := List.mem_map.1 hx
        exact g p.2 (by simp only [Op.operands, List.mem_toArray, List.mem_map]; exact ⟨p, hp, rfl⟩) b hb
      simp only [aopd, ← e1, e2]
  | store t x y =>
    have ex := he x (by simp [Op.operands])
    have ey := he y (by simp [Op.operands])
    simp only [aopd, ← ex, ← ey]
    cases tyL P t with
    | none => rfl
    | some r =>
      obtain ⟨gg, n⟩ := r
      cases hx : ρ.ev x with
      | ref b off =>
        have := astore_loc (n := n) (σ := σ) (σ' := σ') (b := b) (off := off) (v := ρ.ev y) (hr b (by simp only [rdOf, AV.mens, hx, AV.men]; simp)) (g y (by simp [Op.operands]))
        cases h1 : astore n σ (.ref b off) (ρ.ev y) <;> cases h2 : astore n σ' (.ref b off) (ρ.ev y) <;> simp only [h1, h2, Option.map_some, Option.map_none] at this <;> first | (simp only [h1, h2]; done) | (cases this; done) | (simp only [Option.some.injEq] at this; simp only [h1, h2]; rw [this])
      | _ => rfl
  | call c =>
    obtain ⟨cal, args, ts⟩ := c
    cases dst with
    | none => cases cal with
      | builtin b => cases b <;> rfl
      | _ => rfl
    | some d =>
    cases cal with
    | builtin b =>
      cases b with
      | append =>
        simp only [aopd]
        cases hargs : args.toList with
        | nil => rfl
        | cons s l =>
          cases l with
          | nil => rfl
          | cons x l =>
            cases l with
            | cons _ _ => rfl
            | nil =>
              have hm : ∀ z, z ∈ args.toList → z ∈ (Op.call ⟨.builtin .append, args, ts⟩).operands := fun z hz => by
                simp only [Op.operands, Call.operands, Array.mem_append]; exact .inr (by simpa using hz)
              have es := he s (hm s (by rw [hargs]; simp))
              have ex := he x (hm x (by rw [hargs]; simp))
              have gs : ∀ b, (ρ.ev s).men b = true → σ.get b = σ'.get b := fun b hb => hr b (by simp only [rdOf, hargs, List.map_cons, List.map_nil, AV.mens, hb, Bool.true_or, Bool.or_true])
              have gx : ∀ b, (ρ.ev x).men b = true → σ.get b = σ'.get b := fun b hb => hr b (by simp only [rdOf, hargs, List.map_cons, List.map_nil, AV.mens, hb, Bool.true_or, Bool.or_true])
              have el : ∀ k, aelems k σ (ρ.ev x) = aelems k σ' (ρ.ev x) := fun k => aelems_loc gx
              cases htt : ts.toList with
              | nil => rfl
              | cons t l =>
                cases l with
                | nil => rfl
                | cons t' l =>
                  cases l with
                  | cons _ _ => rfl
                  | nil =>
                    simp only [← es, ← ex, el]
                    cases hs : ρ.ev s with
                    | rs b off n k' =>
                      rw [hs] at gs
                      have e := gs b (by simp [AV.men])
                      cases off with
                      | zero => simp only [e]
                      | succ _ => rfl
                    | _ => rfl
      | _ => rfl
    | _ => rfl
  | _ => cases dst <;> rfl
theorem names_get : ∀ (σ : H) (c : Nat), (σ.map (·.1)).contains c = true ↔ (σ.get c).isSome = true
  | [], c => by simp [H.get]
  | (q, d) :: σ, c => by
    have := names_get σ c
    simp only [List.map_cons, List.contains_cons, Bool.or_eq_true, beq_iff_eq, H.get, this]
    by_cases e : c = q <;> simp [e]
/-- What was made, told as memory that is only read. -/
def chunks (k : Nat) : Nat → List AV → List (List AV)
  | 0, _ => []
  | n + 1, cs => cs.take k :: chunks k n (cs.drop k)
def frz (v : AV) (ts : List (Nat × Option Blk)) : Option AV :=
  match v, ts with
  | .ref b 0, [(b', some (.cells cs))] => if b = b' ∧ AV.norefs cs = true then some (.view cs 0) else none
  | .rs b 0 n k, [(b', some (.cells cs))] => if b = b' ∧ AV.norefs cs = true ∧ cs.length = n * k then some (.sl true k (chunks k n cs)) else none
  | _, _ => none
theorem chunks_spec {k : Nat} : ∀ {n : Nat} {cs : List AV}, AV.norefs cs = true → cs.length = n * k → (chunks k n cs).length = n ∧ (∀ e ∈ chunks k n cs, e.length = k) ∧ allNoref (chunks k n cs) = true ∧ (chunks k n cs).flatten = cs
  | 0, cs, h, hl => by
    have : cs = [] := List.eq_nil_of_length_eq_zero (by simpa using hl)
    subst this
    simp [chunks, allNoref]
  | n + 1, cs, h, hl => by
    rw [Nat.succ_mul] at hl
    obtain ⟨h1, h2, h3, h4⟩ := chunks_spec (k := k) (n := n) (cs := cs.drop k) (norefs_drop k h) (by simp; omega)
    refine ⟨by simp [chunks, h1], ?_, ?_, ?_⟩
    · intro e he
      simp only [chunks, List.mem_cons] at he
      rcases he with rfl | he
      · simp; omega
      · exact h2 e he
    · simp only [chunks, allNoref, norefs_take k h, h3, Bool.and_self]
    · simp only [chunks, List.flatten_cons, h4, List.take_append_drop]
theorem frz_spec {κ : Ctx} {N : Nat} {ρ : Env} {σ : H} {a : Act} {v v' : AV} {u : Value} {ts : List (Nat × Option Blk)} (hs : SRel κ N ρ (upds σ ts) a) (hv : VRel κ v u) (h : frz v ts = some v') (hfr : ∀ b d, (b, d) ∈ ts → σ.get b = none) :
    ∃ κ', κ'.w = κ.w ∧ Step κ κ' ∧ SRel κ' N ρ σ a ∧ VRel κ' v' u ∧ v'.noref = true := by
  have main : ∀ b cs, ts = [(b, some (.cells cs))] → Wk (σ.map (·.1)) (upds σ ts) v v' → v'.noref = true → ∃ κ', κ'.w = κ.w ∧ Step κ κ' ∧ SRel κ' N ρ σ a ∧ VRel κ' v' u ∧ v'.noref = true := by
    rintro b cs rfl hw hn
    have hb := hfr b (some (.cells cs)) (by simp)
    have hin := fun c => names_get σ c
    obtain ⟨k1, k2⟩ := Weak.rel (ρ' := ρ) (σ' := σ) (bs := σ.map (·.1)) hs ⟨fun t v' hv' => ⟨v', hv', .same _⟩, fun c hc => by
      obtain ⟨d, hd⟩ := Option.isSome_iff_exists.1 ((hin c).1 hc)
      refine ⟨d, d, ?_, hd, .same _⟩
      rw [upds_get]; simp only [tget]
      rw [if_neg (by rintro rfl; rw [hb] at hd; cases hd)]
      exact hd, fun c hc => by
      cases hd : σ.get c with
      | none => rfl
      | some d =>
        have := (hin c).2 (by rw [hd]; rfl)
        rw [this] at hc; cases hc⟩
    exact ⟨κ.only (σ.map (·.1)), rfl, k1, k2, hw.rel hs.heap hv, hn⟩
  unfold frz at h
  split at h
  · rename_i b b' cs
    split at h
    · rename_i hc
      obtain ⟨rfl, hn⟩ := hc
      cases h
      have hb := hfr b (some (.cells cs)) (by simp)
      have hget : (upds σ [(b, some (.cells cs))]).get b = some (.cells cs) := by rw [upds_get]; simp [tget]
      refine main b cs rfl (.ref ?_ hget hn) (by simpa [AV.noref] using hn)
      rw [← Bool.not_eq_true, names_get, hb]; simp
    · cases h
  · rename_i b n k b' cs
    split at h
    · rename_i hc
      obtain ⟨rfl, hn, hl⟩ := hc
      cases h
      obtain ⟨c1, c2, c3, c4⟩ := chunks_spec hn hl
      have hget : (upds σ [(b, some (.cells cs))]).get b = some (.cells cs) := by rw [upds_get]; simp [tget]
      refine main b cs rfl (.rs true ?_ hget c1 c2 c3 ?_) (by simpa [AV.noref] using c3)
      · rw [← Bool.not_eq_true, names_get, hfr b (some (.cells cs)) (by simp)]; simp
      · rw [c4, List.drop_zero, ← hl, List.take_length]
    · cases h
  · cases h
end Go.Proofs.Hz
