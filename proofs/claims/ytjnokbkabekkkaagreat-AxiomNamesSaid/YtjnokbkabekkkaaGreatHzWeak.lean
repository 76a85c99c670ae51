/- Saying less of a state: own memory that is only read from here on. -/
import Derived.Test.YtjnokbkabekkkaaGreatHzLoop
set_option linter.all false
namespace Go.Proofs.Hz
open Go

mutual
/-- v may be told as v', the blocks beside bs being given up. -/
inductive Wk (bs : List Nat) (σ : H) : AV → AV → Prop
  | same (v : AV) : Wk bs σ v v
  | undef (v : AV) : Wk bs σ v .undef
  | nils (k : Nat) : Wk bs σ .nils (.sl false k [])
  | nn (k : Nat) (es : List (List AV)) : Wk bs σ (.sl true k es) (.sl false k es)
  | rs {b off n k : Nat} (nn : Bool) {cs : List AV} {es : List (List AV)} (hb : bs.contains b = false) (hc : σ.get b = some (.cells cs)) (hl : es.length = n) (hk : ∀ e ∈ es, e.length = k) (hr : allNoref es = true)
      (he : es.flatten = (cs.drop off).take (n * k)) : Wk bs σ (.rs b off n k) (.sl nn k es)
  | ref {b off : Nat} {cs : List AV} (hb : bs.contains b = false) (hc : σ.get b = some (.cells cs)) (hr : AV.norefs cs = true) : Wk bs σ (.ref b off) (.view cs off)
  | agg {cs cs' : List AV} (h : Wks bs σ cs cs') : Wk bs σ (.agg cs) (.agg cs')
  | tup {cs cs' : List AV} (h : Wks bs σ cs cs') : Wk bs σ (.tup cs) (.tup cs')
  | func {f : FuncId} {fi fi' ca ca' : List AV} (h1 : Wks bs σ fi fi') (h2 : Wks bs σ ca ca') : Wk bs σ (.func f fi ca) (.func f fi' ca')
  | iface {t : TypeId} {v v' : AV} (h : Wk bs σ v v') : Wk bs σ (.iface t v) (.iface t v')
inductive Wks (bs : List Nat) (σ : H) : List AV → List AV → Prop
  | nil : Wks bs σ [] []
  | cons {v v' : AV} {vs vs' : List AV} (h : Wk bs σ v v') (t : Wks bs σ vs vs') : Wks bs σ (v :: vs) (v' :: vs')
end
theorem elems_of_flat {κ : Ctx} {k c : Nat} : ∀ {es : List (List AV)} {o : Nat}, (∀ e ∈ es, e.length = k) → CellsRel κ es.flatten c o → ElemsRel κ k es c o
  | [], _, _, _ => by simp [ElemsRel]
  | e :: es, o, hk, h => by
    simp only [List.flatten_cons] at h
    simp only [ElemsRel]
    have hl : e.length = k := hk e (by simp)
    refine ⟨hl, ?_, ?_⟩
    · have := CellsRel.take e.length h
      rwa [List.take_left] at this
    · have := CellsRel.drop e.length h
      rw [List.drop_left, hl] at this
      exact elems_of_flat (fun e he => hk e (by simp [he])) this
/-- What is seen from where the blocks beside bs are given up. -/
def Ctx.only (κ : Ctx) (bs : List Nat) : Ctx := { κ with O := fun x => if bs.contains x then κ.O x else none }
theorem Ctx.only_le (κ : Ctx) (bs : List Nat) : κ.le (κ.only bs) :=
  ⟨fun c ⟨h1, h2, h3⟩ => ⟨⟨h1, h2, fun b hb => by
    simp only [Ctx.only] at hb
    split at hb
    · exact h3 b hb
    · cases hb⟩, rfl⟩, fun _ => Nat.le_refl _⟩
theorem Ctx.only_ids (κ : Ctx) (bs : List Nat) : ∀ m, Ids κ (κ.only bs) m := fun m b _ => by
  simp only [Ctx.only]
  split
  · exact .inr rfl
  · exact .inl rfl
theorem only_free {κ : Ctx} {σ : H} (hh : HRel κ σ) {bs : List Nat} {b c : Nat} (hb : bs.contains b = false) (hO : κ.O b = some c) : (κ.only bs).free c := by
  obtain ⟨g1, g2, g3⟩ := hh.dom b c hO
  refine ⟨g2, g3, fun x hx => ?_⟩
  simp only [Ctx.only] at hx
  split at hx
  · rename_i hx2
    have := hh.inj x b c hx hO
    subst this
    rw [hb] at hx2; cases hx2
  · cases hx
mutual
theorem Wk.rel {κ : Ctx} {σ : H} (hh : HRel κ σ) {bs : List Nat} : ∀ {v v' : AV} {u : Value}, Wk bs σ v v' → VRel κ v u → VRel (κ.only bs) v' u
  | _, _, u, .same v, h => VRel.le (κ.only_le bs) v u (κ.only_ids bs _) h
  | _, _, u, .undef v, _ => by simp [VRel]
  | _, _, u, .nils k, h => by
    simp only [VRel] at h ⊢; subst h
    exact ⟨0, 0, none, 0, rfl, Nat.le_refl _, by simp, by simp, by simp, rfl, by simp [ElemsRel]⟩
  | _, _, u, .nn k es, h => by
    have := VRel.le (κ.only_le bs) _ u (κ.only_ids bs _) h
    simp only [VRel] at this ⊢
    obtain ⟨cb, co, a, cap, h1, h2, h3, h4⟩ := this
    exact ⟨cb, co, a, cap, h1, h2, by simp, h4⟩
  | _, _, u, .rs (b := b) (off := off) (n := n) (k := k) nn (cs := cs) (es := es) hb hc hl hk hr he, h => by
    obtain ⟨c, hO, arr, elem, hw, hC⟩ := hh.blk b _ hc
    simp only [VRel] at h ⊢
    obtain ⟨a, cap, rfl, h1, h2⟩ := h c hO
    have hfree := only_free hh hb hO
    refine ⟨c, off, some a, cap, by rw [hl], by rw [hl]; exact h1, by simp, fun hn => ?_, by simp, hr, ?_⟩
    · rw [hl] at hn
      obtain ⟨rfl, _⟩ := h2.resolve_left (by omega)
      exact ⟨rfl, hfree⟩
    · refine elems_of_flat hk ?_
      rw [he]
      have hx := CellsRel.take (n * k) (CellsRel.drop off hC)
      rw [Nat.zero_add] at hx
      have hnr : AV.norefs ((cs.drop off).take (n * k)) = true := by rw [← he]; exact norefs_flatten hr
      refine CellsRel.le (κ := κ) (κ' := (κ.only bs).pure) ⟨fun c hc => ?_, fun _ => Nat.le_refl _⟩ _ c off rfl (fun b' hb' => .inl rfl) hx
      have := (κ.only_le bs).keep c hc
      exact ⟨Ctx.free_pure.2 this.1, this.2⟩
  | _, _, u, .ref (b := b) (off := off) (cs := cs) hb hc hr, h => by
    obtain ⟨c, hO, arr, elem, hw, hC⟩ := hh.blk b _ hc
    simp only [VRel] at h ⊢
    refine ⟨c, 0, by rw [Nat.zero_add]; exact h c hO, only_free hh hb hO, hr, ?_⟩
    refine CellsRel.le (κ := κ) (κ' := (κ.only bs).pure) ⟨fun c hc => ?_, fun _ => Nat.le_refl _⟩ _ c 0 rfl (fun b' hb' => .inl rfl) hC
    have := (κ.only_le bs).keep c hc
    exact ⟨Ctx.free_pure.2 this.1, this.2⟩
  | _, _, u, .agg hs, h => by
    simp only [VRel] at h ⊢
    obtain ⟨us, rfl, h⟩ := h
    exact ⟨us, rfl, Wks.rel hh hs h⟩
  | _, _, u, .tup hs, h => by
    simp only [VRel] at h ⊢
    obtain ⟨us, rfl, h⟩ := h
    exact ⟨us, rfl, Wks.rel hh hs h⟩
  | _, _, u, .func h1 h2, h => by
    simp only [VRel] at h ⊢
    obtain ⟨us, ws, rfl, k1, k2⟩ := h
    exact ⟨us, ws, rfl, Wks.rel hh h1 k1, Wks.rel hh h2 k2⟩
  | _, _, u, .iface h1, h => by
    simp only [VRel] at h ⊢
    obtain ⟨x, rfl, k1⟩ := h
    exact ⟨x, rfl, Wk.rel hh h1 k1⟩
theorem Wks.rel {κ : Ctx} {σ : H} (hh : HRel κ σ) {bs : List Nat} : ∀ {vs vs' : List AV} {us : List Value}, Wks bs σ vs vs' → VRels κ vs us → VRels (κ.only bs) vs' us
  | _, _, us, .nil, h => by simpa [VRels] using h
  | _, _, us, .cons h t, hv => by
    simp only [VRels] at hv ⊢
    obtain ⟨u, us', rfl, h1, h2⟩ := hv
    exact ⟨u, us', rfl, Wk.rel hh h h1, Wks.rel hh t h2⟩
end
theorem Wks.cells {κ : Ctx} {σ : H} (hh : HRel κ σ) {bs : List Nat} : ∀ {vs vs' : List AV} {c o : Nat}, Wks bs σ vs vs' → CellsRel κ vs c o → CellsRel (κ.only bs) vs' c o
  | _, _, _, _, .nil, h => by simp [CellsRel]
  | _, _, _, _, .cons h t, hv => by
    simp only [CellsRel] at hv ⊢
    obtain ⟨⟨u, h1, h2⟩, h3⟩ := hv
    exact ⟨⟨u, h1, Wk.rel hh h h2⟩, Wks.cells hh t h3⟩
inductive WkB (bs : List Nat) (σ : H) : Blk → Blk → Prop
  | same (d : Blk) : WkB bs σ d d
  | cells {cs cs' : List AV} (h : Wks bs σ cs cs') : WkB bs σ (.cells cs) (.cells cs')
/-- The state (ρ, σ) may be told as (ρ', σ'); σ' has the blocks bs. -/
structure Weak (bs : List Nat) (ρ : Env) (σ : H) (ρ' : Env) (σ' : H) : Prop where
  env : ∀ t v', ρ'.get t = some v' → ∃ v, ρ.get t = some v ∧ Wk bs σ v v'
  dom : ∀ b, bs.contains b = true → ∃ d d', σ.get b = some d ∧ σ'.get b = some d' ∧ WkB bs σ d d'
  out : ∀ b, bs.contains b = false → σ'.get b = none
theorem Weak.rel {κ : Ctx} {N : Nat} {ρ ρ' : Env} {σ σ' : H} {a : Act} {bs : List Nat} (hs : SRel κ N ρ σ a) (hw : Weak bs ρ σ ρ' σ') : Step κ (κ.only bs) ∧ SRel (κ.only bs) N ρ' σ' a := by
  have own : ∀ x c, (κ.only bs).O x = some c → κ.O x = some c ∧ bs.contains x = true := fun x c h => by
    simp only [Ctx.only] at h
    split at h
    · rename_i e; exact ⟨h, e⟩
    · cases h
  refine ⟨⟨rfl, Nat.le_refl _, fun _ _ _ => rfl, fun _ => Nat.le_refl _, fun x c h => .inl ⟨x, (own x c h).1⟩, rfl, rfl, rfl, fun x _ => by simp only [Ctx.only]; split <;> simp⟩, hs.size, hs.defers, fun t v' hv' => ?_, ?_⟩
  · obtain ⟨v, h1, h2⟩ := hw.env t v' hv'
    obtain ⟨u, h3, h4⟩ := hs.env t v h1
    exact ⟨u, h3, h2.rel hs.heap h4⟩
  · refine ⟨fun b d' hd' => ?_, fun x c h => ?_, fun x y c h1 h2 => hs.heap.inj x y c (own x c h1).1 (own y c h2).1, hs.heap.xlt⟩
    · cases hb : bs.contains b with
      | false => rw [hw.out b hb] at hd'; cases hd'
      | true =>
        obtain ⟨d, d2, g1, g2, g3⟩ := hw.dom b hb
        rw [g2] at hd'; cases hd'
        obtain ⟨c, k1, k2⟩ := hs.heap.blk b d g1
        refine ⟨c, by simp only [Ctx.only]; rw [if_pos hb]; exact k1, ?_⟩
        cases g3 with
        | same => exact BRel.le (κ.only_le bs) (κ.only_ids bs _) rfl k2
        | cells hc =>
          obtain ⟨arr, elem, q1, q2⟩ := k2
          exact ⟨arr, elem, q1, hc.cells hs.heap q2⟩
    · obtain ⟨h1, h2⟩ := own x c h
      obtain ⟨d, d', g1, g2, _⟩ := hw.dom x h2
      obtain ⟨q1, q2, q3⟩ := hs.heap.dom x c h1
      exact ⟨by rw [g2]; rfl, q2, q3⟩
theorem AWp.weak {P : Program} {N : Nat} {c : Code} {ρ ρ' : Env} {σ σ' : H} {Q : Exit → Env → H → Prop} {bs : List Nat} (hw : Weak bs ρ σ ρ' σ') (h : AWp P N c ρ' σ' Q) : AWp P N c ρ σ Q := by
  intro κ a hs
  obtain ⟨k1, k2⟩ := hw.rel hs
  refine wp_mono (h (κ.only bs) a k2) ?_
  rintro e a' w' ⟨κ', ρ', σ', rfl, h2, h3, h4⟩
  exact ⟨κ', ρ', σ', rfl, k1.trans h2, h3, h4⟩
theorem AOp.weak {P : Program} {N : Nat} {o : Oper} {ρ ρ' : Env} {σ σ' : H} {K : Env → H → Prop} {bs : List Nat} (hw : Weak bs ρ σ ρ' σ') (h : AOp P N o ρ' σ' K) : AOp P N o ρ σ K := by
  intro Q' next κ a hs hn
  obtain ⟨k1, k2⟩ := hw.rel hs
  exact h Q' next (κ.only bs) a k2 fun κ' ρ2 σ2 a' h1 h2 h3 => hn κ' ρ2 σ2 a' (k1.trans h1) h2 h3
section
variable {P : Program} {N : Nat} {vs : List Nat} {k : List It} {ρ ρ' : Env} {σ σ' : H} {Q : Exit → Env → H → Prop} {bs : List Nat}
theorem WCall.weak {all : Array Oper} {o : Oper} {l : List Oper} (hw : Weak bs ρ σ ρ' σ') (h : WCall P N vs all o l k ρ' σ' Q) : WCall P N vs all o l k ρ σ Q := AOp.weak hw h
theorem W_draw_weak {id : Nat} {ops : Array Oper} (hm : P.follows .mixedOrders = true) (hk : drawOk ops = true) (hw : Weak bs ρ σ ρ' σ') (h : W P N vs (.dops ops ops.toList :: k) (ρ'.keep vs) σ' Q) : W P N vs (.code (.region id ops true) :: k) ρ σ Q :=
  W_awp (fun _ _ _ => rfl) (AWp.weak hw (AWp.keep vs (awp_draw hm hk h)))
theorem W_loop_weak {c : Code} (hw : Weak bs ρ σ ρ' σ') (h : W P N vs (.code (.loop c) :: k) ρ' σ' Q) : W P N vs (.code (.loop c) :: k) ρ σ Q :=
  W_awp (fun _ _ _ => rfl) (AWp.weak hw h)
end
/-- A function of trees by its body; what it hands back may be memory of its own. -/
theorem pure_body_wk {P : Program} {f : FuncId} {fn : Func} {c : Code} {args : List AV} {v : AV} {n : Nat} (vs : List Nat) (hf : P.funcs[f]? = some fn) (hb : fn.body = some c) (hn : fn.ntmps = n) (hname : (fn.name == "runtime.NumGoroutine") = false)
    (hv : v.noref = true)
    (h : W P (args.length + (n - args.length)) vs [.code c] (args0 0 args) [] fun e ρ σ' => (e = .normal ∨ e = .ret) ∧ ∃ v0, resOf ρ σ' P fn.results.toList = some v0 ∧ Wk [] σ' v0 v) : PureF P f args v := by
  refine ⟨hv, ?_⟩
  have := call_body (R := fun v0 σ' => Wk [] σ' v0 v) hf hb hn hname (AWp.mono (W_sound h) fun e ρ σ' ⟨h1, v0, h2, h3⟩ => ⟨h1, v0, h2, h3⟩)
  refine ⟨this.1, fun κ us h1 h2 => (this.2 κ us h1 h2).mono ?_⟩
  rintro e w' ⟨κ', v0, u, σ', rfl, rfl, g1, g2, g3, g4⟩
  refine ⟨κ'.only [], v, u, [], rfl, rfl, g1.trans ?_, ?_, g4.rel g2 g3, rfl⟩
  · exact ⟨rfl, Nat.le_refl _, fun _ _ _ => rfl, fun _ => Nat.le_refl _, fun x c h => by simp [Ctx.only] at h, rfl, rfl, rfl, fun x _ => by simp only [Ctx.only]; split <;> simp⟩
  · exact ⟨fun b d h => by simp [H.get] at h, fun b c h => by simp [Ctx.only] at h, fun b b' c h => by simp [Ctx.only] at h, g2.xlt⟩
end Go.Proofs.Hz
