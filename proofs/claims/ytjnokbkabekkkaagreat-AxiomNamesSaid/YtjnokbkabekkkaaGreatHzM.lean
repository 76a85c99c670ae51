/- Code, computed as far as it goes; calls. -/
import Derived.Test.YtjnokbkabekkkaaGreatHzDraw4
set_option linter.all false
namespace Go.Proofs.Hz
open Go

section
variable (P : Program) (N : Nat)
/-- A row of operations, computed as far as it goes. -/
def opsW (all : Array Oper) : List Oper → Env → H → (Env → H → Prop) → Prop
  | [], ρ, σ, K => K ρ σ
  | o :: l, ρ, σ, K => match guardOf ρ all o with
    | none => False
    | some false => dstOk N o = true ∧ opsW all l (ρ.put o.dst (.tup [])) σ K
    | some true => match aop P ρ σ o with
      | some (ρ', v, σ') => dstOk N o = true ∧ opsW all l (ρ'.put o.dst v) σ' K
      | none => AOp P N o ρ σ (fun ρ σ => opsW all l ρ σ K)
/-- Code, computed as far as it goes; vs: the slots that are kept in mind from one region to the next. -/
def wpc (vs : List Nat) : Code → Env → H → (Exit → Env → H → Prop) → Prop
  | .skip, ρ, σ, Q => Q .normal ρ σ
  | .label _, ρ, σ, Q => Q .normal ρ σ
  | .exit id, ρ, σ, Q => Q (.exit id) ρ σ
  | .ret, ρ, σ, Q => Q .ret ρ σ
  | .seq x y, ρ, σ, Q => wpc vs x ρ σ (andThen (fun ρ σ => wpc vs y ρ σ Q) Q)
  | .block id c, ρ, σ, Q => wpc vs c ρ σ (inBlock id Q)
  | .cond c x y, ρ, σ, Q => match ρ.ev c with
    | .bool true => wpc vs x ρ σ Q
    | .bool false => wpc vs y ρ σ Q
    | _ => False
  | .region _ ops false, ρ, σ, Q => opsW P N ops ops.toList (ρ.keep vs) σ (Q .normal)
  | c, ρ, σ, Q => AWp P N c ρ σ Q
end
/-- What an operation does in a region that draws its order. -/
inductive DAct where
  | val (v : AV)
  | heap (σ : H)
  | call
  | stuck
def dact (P : Program) (ρ : Env) (σ : H) (o : Op) : DAct :=
  match o with
  | .store t x y => match tyL P t with
    | some (_, n) => match astore n σ (ρ.ev x) (ρ.ev y) with
      | some σ' => .heap σ'
      | none => .stuck
    | none => .stuck
  | .call ⟨.value _, _, _⟩ => .call
  | op => match opv P ρ σ op with
    | some v => .val v
    | none => .stuck
section
variable (P : Program) (N : Nat)
/-- The operations of a region that draws its order, in the order of the text. -/
def opsD (all : Array Oper) : List Oper → Env → H → (Env → H → Prop) → Prop
  | [], ρ, σ, K => K ρ σ
  | o :: l, ρ, σ, K => match guardOf ρ all o with
    | none => False
    | some false => dstOk N o = true ∧ opsD all l (ρ.put o.dst (.tup [])) σ K
    | some true => match dact P ρ σ o.op with
      | .val v => dstOk N o = true ∧ opsD all l (ρ.put o.dst v) σ K
      | .heap σ' => dstOk N o = true ∧ opsD all l (ρ.put o.dst (.tup [])) σ' K
      | .call => ∃ v, PCall P ρ o.op v ∧ dstOk N o = true ∧ opsD all l (ρ.put o.dst v) σ K
      | .stuck => False
end
/-- From the run in the order of the text: the states. -/
theorem opsD_steps {P : Program} {N : Nat} {all : Array Oper} {K : Env → H → Prop} : ∀ (l : List Oper) (i : Nat) (ρ : Env) (σ : H), all.toList.drop i = l → opsD P N all l ρ σ K →
    ∃ (R : Nat → Env) (G : Nat → H) (V : Nat → AV), R i = ρ ∧ G i = σ ∧ K (R (i + l.length)) (G (i + l.length)) ∧ ∀ j o, i ≤ j → all[j]? = some o → DStep P N all o (R j) (R (j + 1)) (G j) (G (j + 1)) (V j)
  | [], i, ρ, σ, hd, h => by
    refine ⟨fun _ => ρ, fun _ => σ, fun _ => .undef, rfl, rfl, h, fun j o hj ho => ?_⟩
    have : all.toList.length ≤ i := by simpa using hd
    have h2 := (Array.getElem?_eq_some_iff.1 ho).1
    simp at this
    omega
  | o :: l, i, ρ, σ, hd, h => by
    have ho : all[i]? = some o := by
      have : (all.toList.drop i).head? = some o := by rw [hd]; rfl
      rw [List.head?_drop] at this
      simpa using this
    have hd' : all.toList.drop (i + 1) = l := by rw [← List.tail_drop, hd]; rfl
    have main : ∃ ρ' σ' v, DStep P N all o ρ ρ' σ σ' v ∧ opsD P N all l ρ' σ' K := by
      simp only [opsD] at h
      split at h
      · exact h.elim
      · rename_i hg
        exact ⟨_, _, _, ⟨h.1, rfl, .inl ⟨hg, rfl, rfl⟩⟩, h.2⟩
      · rename_i hg
        split at h
        · rename_i v hv
          refine ⟨_, _, _, ⟨h.1, rfl, .inr ⟨hg, .inl ?_⟩⟩, h.2⟩
          unfold dact at hv
          split at hv
          · split at hv
            · split at hv <;> cases hv
            · cases hv
          · cases hv
          · rename_i op hns hnc
            split at hv
            · rename_i v' hov
              cases hv
              refine ⟨?_, hov, rfl⟩
              cases hop : o.op <;> first | rfl | (exact (hns _ _ _ hop).elim)
            · cases hv
        · rename_i σ' hv
          refine ⟨_, _, _, ⟨h.1, rfl, .inr ⟨hg, .inr (.inr ?_)⟩⟩, h.2⟩
          unfold dact at hv
          split at hv
          · rename_i t x y hop
            split at hv
            · rename_i g n ht
              split at hv
              · rename_i σ2 hst
                cases hv
                exact ⟨t, x, y, g, n, hop, ht, hst, rfl⟩
              · cases hv
            · cases hv
          · cases hv
          · split at hv <;> cases hv
        · rename_i hv
          obtain ⟨v, hp, hdst, h⟩ := h
          refine ⟨_, _, v, ⟨hdst, rfl, .inr ⟨hg, .inr (.inl ?_)⟩⟩, h⟩
          have hp' := hp
          obtain ⟨x, args, ts, f, first, caps, hop, _, _⟩ := hp'
          exact ⟨by rw [hop]; rfl, by rw [hop]; rfl, hp, rfl⟩
        · exact h.elim
    obtain ⟨ρ', σ', v, hs, h'⟩ := main
    obtain ⟨R, G, V, h1, h2, h3, h4⟩ := opsD_steps l (i + 1) ρ' σ' hd' h'
    refine ⟨fun j => if j ≤ i then ρ else R j, fun j => if j ≤ i then σ else G j, fun j => if j ≤ i then v else V j, by simp, by simp, ?_, fun j x hj hx => ?_⟩
    · simp only [List.length_cons]
      rw [if_neg (by omega), if_neg (by omega), show i + (l.length + 1) = i + 1 + l.length by omega]
      exact h3
    · by_cases e : j = i
      · subst e
        rw [ho] at hx; cases hx
        simp only [Nat.le_refl, if_true]
        rw [if_neg (by omega), if_neg (by omega), h1, h2]
        exact hs
      · simp only [if_neg (show ¬ j ≤ i by omega), if_neg (show ¬ j + 1 ≤ i by omega)]
        exact h4 j x (by omega) hx
theorem awp_draw {P : Program} {N : Nat} {id : Nat} {all : Array Oper} {ρ : Env} {σ : H} {Q : Exit → Env → H → Prop} (hm : P.follows .mixedOrders = true) (hk : drawOk all = true) (h : opsD P N all all.toList ρ σ (Q .normal)) : AWp P N (.region id all true) ρ σ Q := by
  intro κ a hs
  obtain ⟨R, G, V, h1, h2, h3, h4⟩ := opsD_steps all.toList 0 ρ σ (by simp) h
  simp only [Array.length_toList, Nat.zero_add] at h3
  obtain ⟨d1, d2⟩ := drew_step hs
  refine wp_region_any hm ?_
  have z : ∀ i, (Array.replicate all.size false).getD i false = false := fun i => by
    simp only [Array.getD_eq_getD_getElem?]
    cases hh : (Array.replicate all.size false)[i]? with
    | none => rfl
    | some b =>
      have := Array.getElem?_eq_some_iff.1 hh
      obtain ⟨g1, g2⟩ := this
      simp at g2
      simp [← g2]
  have eS : ∀ m, envS all (R 0) V (fun i => (Array.replicate all.size false).getD i false) m = R 0 := by
    intro m
    induction m with
    | zero => rfl
    | succ m ih => simp only [envS, z, Bool.false_eq_true, if_false]; simpa only [z] using ih
  have hS : ∀ m, heapS all G (fun i => (Array.replicate all.size false).getD i false) m = G 0 := by
    intro m
    induction m with
    | zero => rfl
    | succ m ih => simp only [heapS, z, Bool.false_and, Bool.false_eq_true, if_false]; simpa only [z] using ih
  refine draw_main (P := P) (N := N) (R := R) (G := G) (V := V) (κ0 := κ) hk (fun j o ho => h4 j o (Nat.zero_le _) ho) ?_ all.size (Array.replicate all.size false) a { κ with w := κ.w.drew } (by simp) ?_ ?_ d1 ?_
  · intro κ' a' k1 k2
    exact ⟨κ', _, _, rfl, k1, k2, h3⟩
  · rw [cnt_none _ fun i _ => z i]; omega
  · intro i j hj
    rw [z] at hj; cases hj
  · rw [eS, hS, h1, h2]; exact d2
section
variable {P : Program} {N : Nat}
theorem aop_put {o : Oper} {ρ ρ' : Env} {σ σ' : H} {v : AV} {K : Env → H → Prop} (h : aop P ρ σ o = some (ρ', v, σ')) (hd : dstOk N o = true) (hK : K (ρ'.put o.dst v) σ') : AOp P N o ρ σ K := by
  intro Q' next κ a hs hn
  obtain ⟨κ', u, hr, h1, h2, h3⟩ := aop_sound hs h
  have h4 : SRel κ' N (ρ'.put o.dst v) σ' (a.put o.dst u) := h2.put (dstOk_spec hd) h3
  unfold Oper.wp
  rcases hr with hr | ⟨hr, rfl⟩
  · rw [hr]; exact hn κ' _ _ _ h1 h4 hK
  · rw [hr]; exact hn κ' _ _ _ h1 h4 hK
theorem opsW_sound {all : Array Oper} : ∀ (l : List Oper) (i : Nat) (ρ : Env) (σ : H) (K : Env → H → Prop), all.toList.drop i = l → opsW P N all l ρ σ K → AOps P N all (List.range' i l.length) ρ σ K
  | [], i, ρ, σ, K, _, h => aops_nil h
  | o :: l, i, ρ, σ, K, hd, h => by
    have ho : all[i]? = some o := by
      have : (all.toList.drop i).head? = some o := by rw [hd]; rfl
      rw [List.head?_drop] at this
      simpa using this
    have hd' : all.toList.drop (i + 1) = l := by rw [← List.tail_drop, hd]; rfl
    intro Q' κ a hs hq
    simp only [List.length_cons, List.range'_succ, wpOps, ho]
    simp only [opsW] at h
    split at h
    · exact h.elim
    · rename_i hg
      rw [guardOf_spec hs hg]
      simp only [Bool.false_eq_true, if_false]
      refine opsW_sound l (i + 1) _ σ K hd' h.2 Q' κ _ (hs.put (dstOk_spec h.1) ?_) hq
      simp only [VRel, Go.undef]; exact ⟨#[], rfl, by simp [VRels]⟩
    · rename_i hg
      rw [guardOf_spec hs hg]
      simp only [if_true]
      have main : AOp P N o ρ σ (fun ρ σ => opsW P N all l ρ σ K) := by
        split at h
        · rename_i ρ' v σ' ha
          exact aop_put ha h.1 h.2
        · exact h
      refine .inl (main Q' _ κ a hs ?_)
      intro κ' ρ' σ' a' h1 h2 h3
      exact opsW_sound l (i + 1) ρ' σ' K hd' h3 Q' κ' a' h2 fun κ2 ρ2 σ2 a2 k1 k2 k3 => hq κ2 ρ2 σ2 a2 (h1.trans k1) k2 k3
theorem wpc_sound {vs : List Nat} : ∀ (c : Code) (ρ : Env) (σ : H) (Q : Exit → Env → H → Prop), wpc P N vs c ρ σ Q → AWp P N c ρ σ Q
  | .skip, ρ, σ, Q, h => awp_skip h
  | .label _, ρ, σ, Q, h => awp_label h
  | .exit id, ρ, σ, Q, h => awp_exit h
  | .ret, ρ, σ, Q, h => awp_ret h
  | .seq x y, ρ, σ, Q, h => by
    refine awp_seq (AWp.mono (wpc_sound x ρ σ _ h) ?_)
    intro e ρ' σ' he
    cases e with
    | normal => exact wpc_sound y ρ' σ' Q he
    | _ => exact he
  | .block id c, ρ, σ, Q, h => awp_block (wpc_sound c ρ σ _ h)
  | .cond c x y, ρ, σ, Q, h => by
    simp only [wpc] at h
    split at h
    · rename_i hc; exact awp_cond hc (wpc_sound x ρ σ Q h)
    · rename_i hc; exact awp_cond hc (wpc_sound y ρ σ Q h)
    · exact h.elim
  | .region id ops false, ρ, σ, Q, h => by
    refine AWp.keep vs (awp_region ?_)
    have := opsW_sound ops.toList 0 (ρ.keep vs) σ (Q .normal) (by simp) h
    rwa [List.range_eq_range', ← Array.length_toList]
  | .region _ _ true, ρ, σ, Q, h => h
  | .loop _, ρ, σ, Q, h => h
  | .rangeFunc _ _ _ _, ρ, σ, Q, h => h
  | .scope _, ρ, σ, Q, h => h
  | .goto _, ρ, σ, Q, h => h
  | .refuse _, ρ, σ, Q, h => h
end
/-- What is left to do. -/
inductive It where
  | code (c : Code)
  | blk (id : Nat)
  | ops (all : Array Oper) (l : List Oper)
  | lp (R : Env → H → Prop)
  | dops (all : Array Oper) (l : List Oper)
section
variable (P : Program) (N : Nat) (vs : List Nat)
def Wx : List It → (Exit → Env → H → Prop) → Exit → Env → H → Prop
  | [], Q => Q
  | .code c :: k, Q => fun e ρ σ => match e with
    | .normal => wpc P N vs c ρ σ (Wx k Q)
    | e => Wx k Q e ρ σ
  | .blk id :: k, Q => inBlock id (Wx k Q)
  | .ops all l :: k, Q => fun e ρ σ => match e with
    | .normal => opsW P N all l ρ σ (Wx k Q .normal)
    | e => Wx k Q e ρ σ
  | .lp R :: k, Q => fun e ρ σ => match e with
    | .normal => R ρ σ
    | e => Wx k Q e ρ σ
  | .dops all l :: k, Q => fun e ρ σ => match e with
    | .normal => opsD P N all l ρ σ (Wx k Q .normal)
    | e => Wx k Q e ρ σ
/-- From (ρ, σ) on, k being left to do, all ends as Q says. -/
def W (k : List It) (ρ : Env) (σ : H) (Q : Exit → Env → H → Prop) : Prop := Wx P N vs k Q .normal ρ σ
def WExit (id : Nat) (k : List It) (ρ : Env) (σ : H) (Q : Exit → Env → H → Prop) : Prop := Wx P N vs k Q (.exit id) ρ σ
/-- A call in a region that draws its order. -/
def DCall (all : Array Oper) (o : Oper) (l : List Oper) (k : List It) (ρ : Env) (σ : H) (Q : Exit → Env → H → Prop) : Prop := ∃ v, PCall P ρ o.op v ∧ dstOk N o = true ∧ W P N vs (.dops all l :: k) (ρ.put o.dst v) σ Q
def dK (all : Array Oper) (o : Oper) (l : List Oper) (k : List It) (ρ : Env) (σ : H) (Q : Exit → Env → H → Prop) : DAct → Prop
  | .val v => dstOk N o = true ∧ W P N vs (.dops all l :: k) (ρ.put o.dst v) σ Q
  | .heap σ' => dstOk N o = true ∧ W P N vs (.dops all l :: k) (ρ.put o.dst (.tup [])) σ' Q
  | .call => DCall P N vs all o l k ρ σ Q
  | .stuck => False
def gD (all : Array Oper) (o : Oper) (l : List Oper) (k : List It) (ρ : Env) (σ : H) (Q : Exit → Env → H → Prop) : Option Bool → Prop
  | some true => dK P N vs all o l k ρ σ Q (dact P ρ σ o.op)
  | some false => dstOk N o = true ∧ W P N vs (.dops all l :: k) (ρ.put o.dst (.tup [])) σ Q
  | none => False
/-- An operation that is not computed: a call. -/
def WCall (all : Array Oper) (o : Oper) (l : List Oper) (k : List It) (ρ : Env) (σ : H) (Q : Exit → Env → H → Prop) : Prop := AOp P N o ρ σ (fun ρ σ => W P N vs (.ops all l :: k) ρ σ Q)
def opK (all : Array Oper) (o : Oper) (l : List Oper) (k : List It) (ρ : Env) (σ : H) (Q : Exit → Env → H → Prop) : Option (Env × AV × H) → Prop
  | some (ρ', v, σ') => dstOk N o = true ∧ W P N vs (.ops all l :: k) (ρ'.put o.dst v) σ' Q
  | none => WCall P N vs all o l k ρ σ Q
def gK (all : Array Oper) (o : Oper) (l : List Oper) (k : List It) (ρ : Env) (σ : H) (Q : Exit → Env → H → Prop) : Option Bool → Prop
  | some true => opK P N vs all o l k ρ σ Q (aop P ρ σ o)
  | some false => dstOk N o = true ∧ W P N vs (.ops all l :: k) (ρ.put o.dst (.tup [])) σ Q
  | none => False
end
section
variable {P : Program} {N : Nat} {vs : List Nat} {k : List It} {ρ : Env} {σ : H} {Q : Exit → Env → H → Prop}
theorem W_nil : W P N vs [] ρ σ Q = Q .normal ρ σ := rfl
theorem W_skip : W P N vs (.code .skip :: k) ρ σ Q = W P N vs k ρ σ Q := rfl
theorem W_label {l : Nat} : W P N vs (.code (.label l) :: k) ρ σ Q = W P N vs k ρ σ Q := rfl
theorem W_seq {x y : Code} : W P N vs (.code (.seq x y) :: k) ρ σ Q = W P N vs (.code x :: .code y :: k) ρ σ Q := by
  show wpc P N vs x ρ σ _ = wpc P N vs x ρ σ _
  congr 1
  funext e ρ σ
  cases e <;> rfl
theorem W_block {id : Nat} {c : Code} : W P N vs (.code (.block id c) :: k) ρ σ Q = W P N vs (.code c :: .blk id :: k) ρ σ Q := rfl
theorem W_blk {id : Nat} : W P N vs (.blk id :: k) ρ σ Q = W P N vs k ρ σ Q := rfl
theorem W_lp {R : Env → H → Prop} : W P N vs (.lp R :: k) ρ σ Q = R ρ σ := rfl
theorem W_exit {id : Nat} : W P N vs (.code (.exit id) :: k) ρ σ Q = WExit P N vs id k ρ σ Q := rfl
theorem WExit_nil {id : Nat} : WExit P N vs id [] ρ σ Q = Q (.exit id) ρ σ := rfl
theorem WExit_blk {id id' : Nat} : WExit P N vs id (.blk id' :: k) ρ σ Q = if id = id' then W P N vs k ρ σ Q else WExit P N vs id k ρ σ Q := rfl
theorem WExit_code {id : Nat} {c : Code} : WExit P N vs id (.code c :: k) ρ σ Q = WExit P N vs id k ρ σ Q := rfl
theorem WExit_ops {id : Nat} {all : Array Oper} {l : List Oper} : WExit P N vs id (.ops all l :: k) ρ σ Q = WExit P N vs id k ρ σ Q := rfl
theorem WExit_lp {id : Nat} {R : Env → H → Prop} : WExit P N vs id (.lp R :: k) ρ σ Q = WExit P N vs id k ρ σ Q := rfl
theorem Wx_ret : ∀ k : List It, Wx P N vs k Q .ret ρ σ = Q .ret ρ σ
  | [] => rfl
  | .code c :: k => Wx_ret k
  | .blk id :: k => Wx_ret k
  | .ops a l :: k => Wx_ret k
  | .lp R :: k => Wx_ret k
  | .dops a l :: k => Wx_ret k
theorem W_ret : W P N vs (.code .ret :: k) ρ σ Q = Q .ret ρ σ := Wx_ret k
theorem W_cond_t {c : Operand} {x y : Code} (h : ρ.ev c = .bool true) : W P N vs (.code (.cond c x y) :: k) ρ σ Q = W P N vs (.code x :: k) ρ σ Q := by
  show (match ρ.ev c with | .bool true => _ | .bool false => _ | _ => False) = _
  rw [h]; rfl
theorem W_cond_f {c : Operand} {x y : Code} (h : ρ.ev c = .bool false) : W P N vs (.code (.cond c x y) :: k) ρ σ Q = W P N vs (.code y :: k) ρ σ Q := by
  show (match ρ.ev c with | .bool true => _ | .bool false => _ | _ => False) = _
  rw [h]; rfl
theorem W_cond_split {c : Operand} {x y : Code} {b : Bool} (h : ρ.ev c = .bool b) (ht : b = true → W P N vs (.code x :: k) ρ σ Q) (hf : b = false → W P N vs (.code y :: k) ρ σ Q) : W P N vs (.code (.cond c x y) :: k) ρ σ Q := by
  cases b
  · rw [W_cond_f h]; exact hf rfl
  · rw [W_cond_t h]; exact ht rfl
theorem W_region {id : Nat} {ops : Array Oper} : W P N vs (.code (.region id ops false) :: k) ρ σ Q = W P N vs (.ops ops ops.toList :: k) (ρ.keep vs) σ Q := rfl
theorem W_ops_nil {all : Array Oper} : W P N vs (.ops all [] :: k) ρ σ Q = W P N vs k ρ σ Q := rfl
theorem W_op {all : Array Oper} {o : Oper} {l : List Oper} : W P N vs (.ops all (o :: l) :: k) ρ σ Q = gK P N vs all o l k ρ σ Q (guardOf ρ all o) := by
  show opsW P N all (o :: l) ρ σ _ = _
  simp only [opsW]
  cases guardOf ρ all o with
  | none => rfl
  | some b =>
    cases b
    · rfl
    · simp only [gK]
      cases aop P ρ σ o with
      | none => rfl
      | some r => obtain ⟨ρ', v, σ'⟩ := r; rfl
theorem gK_t {all : Array Oper} {o : Oper} {l : List Oper} : gK P N vs all o l k ρ σ Q (some true) = opK P N vs all o l k ρ σ Q (aop P ρ σ o) := rfl
theorem gK_f {all : Array Oper} {o : Oper} {l : List Oper} : gK P N vs all o l k ρ σ Q (some false) = (dstOk N o = true ∧ W P N vs (.ops all l :: k) (ρ.put o.dst (.tup [])) σ Q) := rfl
theorem opK_some {all : Array Oper} {o : Oper} {l : List Oper} {ρ' : Env} {v : AV} {σ' : H} : opK P N vs all o l k ρ σ Q (some (ρ', v, σ')) = (dstOk N o = true ∧ W P N vs (.ops all l :: k) (ρ'.put o.dst v) σ' Q) := rfl
theorem opK_none {all : Array Oper} {o : Oper} {l : List Oper} : opK P N vs all o l k ρ σ Q none = WCall P N vs all o l k ρ σ Q := rfl
theorem WExit_dops {id : Nat} {all : Array Oper} {l : List Oper} : WExit P N vs id (.dops all l :: k) ρ σ Q = WExit P N vs id k ρ σ Q := rfl
theorem W_dops_nil {all : Array Oper} : W P N vs (.dops all [] :: k) ρ σ Q = W P N vs k ρ σ Q := rfl
theorem W_dop {all : Array Oper} {o : Oper} {l : List Oper} : W P N vs (.dops all (o :: l) :: k) ρ σ Q = gD P N vs all o l k ρ σ Q (guardOf ρ all o) := by
  show opsD P N all (o :: l) ρ σ _ = _
  simp only [opsD]
  cases guardOf ρ all o with
  | none => rfl
  | some b =>
    cases b
    · rfl
    · simp only [gD]
      cases dact P ρ σ o.op <;> rfl
theorem gD_t {all : Array Oper} {o : Oper} {l : List Oper} : gD P N vs all o l k ρ σ Q (some true) = dK P N vs all o l k ρ σ Q (dact P ρ σ o.op) := rfl
theorem gD_f {all : Array Oper} {o : Oper} {l : List Oper} : gD P N vs all o l k ρ σ Q (some false) = (dstOk N o = true ∧ W P N vs (.dops all l :: k) (ρ.put o.dst (.tup [])) σ Q) := rfl
theorem dK_val {all : Array Oper} {o : Oper} {l : List Oper} {v : AV} : dK P N vs all o l k ρ σ Q (.val v) = (dstOk N o = true ∧ W P N vs (.dops all l :: k) (ρ.put o.dst v) σ Q) := rfl
theorem dK_heap {all : Array Oper} {o : Oper} {l : List Oper} {σ' : H} : dK P N vs all o l k ρ σ Q (.heap σ') = (dstOk N o = true ∧ W P N vs (.dops all l :: k) (ρ.put o.dst (.tup [])) σ' Q) := rfl
theorem dK_call {all : Array Oper} {o : Oper} {l : List Oper} : dK P N vs all o l k ρ σ Q .call = DCall P N vs all o l k ρ σ Q := rfl
theorem W_sound {c : Code} (h : W P N vs [.code c] ρ σ Q) : AWp P N c ρ σ Q := wpc_sound c ρ σ Q h
/-- Some code by a rule of its own. -/
theorem W_awp {c : Code} (hc : ∀ (ρ : Env) (σ : H) (Q : Exit → Env → H → Prop), wpc P N vs c ρ σ Q = AWp P N c ρ σ Q) (h : AWp P N c ρ σ (Wx P N vs k Q)) : W P N vs (.code c :: k) ρ σ Q := by
  show wpc P N vs c ρ σ _
  rw [hc]; exact h
theorem Wx_mono : ∀ (k : List It) {Q Q' : Exit → Env → H → Prop} (e : Exit) (ρ : Env) (σ : H), (∀ e ρ σ, Q e ρ σ → Q' e ρ σ) → (e = .normal → False) → Wx P N vs k Q e ρ σ → (∀ (id : Nat), e ≠ .exit id) → Wx P N vs k Q' e ρ σ
  | [], _, _, e, ρ, σ, h, _, hx, _ => h e ρ σ hx
  | .code c :: k, _, _, e, ρ, σ, h, hn, hx, hi => by cases e <;> first | exact (hn rfl).elim | exact Wx_mono k _ ρ σ h hn hx hi
  | .blk id :: k, _, _, e, ρ, σ, h, hn, hx, hi => by cases e <;> first | exact (hn rfl).elim | exact (hi _ rfl).elim | exact Wx_mono k _ ρ σ h hn hx hi
  | .ops a l :: k, _, _, e, ρ, σ, h, hn, hx, hi => by cases e <;> first | exact (hn rfl).elim | exact Wx_mono k _ ρ σ h hn hx hi
  | .lp R :: k, _, _, e, ρ, σ, h, hn, hx, hi => by cases e <;> first | exact (hn rfl).elim | exact Wx_mono k _ ρ σ h hn hx hi
  | .dops a l :: k, _, _, e, ρ, σ, h, hn, hx, hi => by cases e <;> first | exact (hn rfl).elim | exact Wx_mono k _ ρ σ h hn hx hi
/-- A region that draws its order. -/
theorem W_draw {id : Nat} {ops : Array Oper} (hm : P.follows .mixedOrders = true) (hk : drawOk ops = true) (h : W P N vs (.dops ops ops.toList :: k) (ρ.keep vs) σ Q) : W P N vs (.code (.region id ops true) :: k) ρ σ Q :=
  W_awp (fun _ _ _ => rfl) (AWp.keep vs (awp_draw hm hk h))
/-- A loop: I what holds ahead of each round, with m for what is left. -/
theorem W_loop {c : Code} (I : Nat → Env → H → Prop) (m : Nat) (h0 : I m ρ σ)
    (round : ∀ m ρ σ, I m ρ σ → W P N vs (.code c :: .lp (fun ρ' σ' => ∃ m', m' < m ∧ I m' ρ' σ') :: k) ρ σ Q) : W P N vs (.code (.loop c) :: k) ρ σ Q := by
  refine W_awp (fun _ _ _ => rfl) (awp_loop I m h0 fun m ρ σ hI => ?_)
  refine AWp.mono (wpc_sound c ρ σ _ (round m ρ σ hI)) ?_
  intro e ρ' σ' he
  cases e <;> exact he
/-- Less is kept in mind. -/
theorem W_sub_loop {c : Code} {ρ' : Env} (hs : ρ'.sub ρ) (h : W P N vs (.code (.loop c) :: k) ρ' σ Q) : W P N vs (.code (.loop c) :: k) ρ σ Q :=
  W_awp (fun _ _ _ => rfl) (AWp.sub hs h)
end
end Go.Proofs.Hz
