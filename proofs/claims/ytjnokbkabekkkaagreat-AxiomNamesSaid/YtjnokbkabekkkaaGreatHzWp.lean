/- The states of this proof, and its rules over code. -/
import Derived.Test.YtjnokbkabekkkaaGreatHzAv
set_option linter.all false
namespace Go.Proofs.Hz
open Go

inductive Blk where
  | cells (cs : List AV)
  | map (es : List (AV × AV))
abbrev H := List (Nat × Blk)
def H.get : H → Nat → Option Blk
  | [], _ => none
  | (b', d) :: σ, b => if b = b' then some d else H.get σ b
def H.del : H → Nat → H
  | [], _ => []
  | (b', d) :: σ, b => if b = b' then H.del σ b else (b', d) :: H.del σ b
def H.set : H → Nat → Blk → H
  | [], b, d => [(b, d)]
  | (b', d') :: σ, b, d => if b = b' then (b, d) :: σ else (b', d') :: H.set σ b d
def mapMen (b : Nat) : List (AV × AV) → Bool
  | [] => false
  | (k, v) :: es => k.men b || v.men b || mapMen b es
def Blk.men (b : Nat) : Blk → Bool
  | .cells cs => AV.mens b cs
  | .map es => mapMen b es
def H.men (b : Nat) : H → Bool
  | [] => false
  | (_, d) :: σ => d.men b || H.men b σ
abbrev Env := List (Nat × AV)
def Env.get : Env → Nat → Option AV
  | [], _ => none
  | (t', v) :: ρ, t => if t = t' then some v else Env.get ρ t
def Env.men (b : Nat) : Env → Bool
  | [] => false
  | (_, v) :: ρ => v.men b || Env.men b ρ
/-- A slot takes a value. -/
def Env.put (ρ : Env) : Option Nat → AV → Env
  | some t, v => (t, v) :: ρ
  | none, _ => ρ
/-- Only these slots are kept in mind. -/
def Env.keep (ρ : Env) : List Nat → Env
  | [] => []
  | t :: ts => match ρ.get t with
    | some v => (t, v) :: Env.keep ρ ts
    | none => Env.keep ρ ts

theorem H.get_set_same (σ : H) (b : Nat) (d : Blk) : (σ.set b d).get b = some d := by
  induction σ with
  | nil => simp [H.set, H.get]
  | cons p σ ih =>
    obtain ⟨b', d'⟩ := p
    simp only [H.set]
    split
    · simp [H.get]
    · rename_i h; simp [H.get, h, ih]
theorem H.get_set_ne (σ : H) {b b2 : Nat} (d : Blk) (h : b2 ≠ b) : (σ.set b d).get b2 = σ.get b2 := by
  induction σ with
  | nil => simp [H.set, H.get, h]
  | cons p σ ih =>
    obtain ⟨b', d'⟩ := p
    simp only [H.set]
    split
    · rename_i e; subst e; simp [H.get, h]
    · simp only [H.get]; split <;> simp [ih]
theorem H.get_del_same (σ : H) (b : Nat) : (σ.del b).get b = none := by
  induction σ with
  | nil => rfl
  | cons p σ ih =>
    obtain ⟨b', d'⟩ := p
    simp only [H.del]
    split
    · exact ih
    · rename_i h; simp [H.get, h, ih]
theorem H.get_del_ne (σ : H) {b b2 : Nat} (h : b2 ≠ b) : (σ.del b).get b2 = σ.get b2 := by
  induction σ with
  | nil => rfl
  | cons p σ ih =>
    obtain ⟨b', d'⟩ := p
    simp only [H.del]
    split
    · rename_i e; subst e; simp [H.get, h, ih]
    · simp only [H.get]; split <;> simp [ih]
theorem H.men_get {σ : H} {b b2 : Nat} {d : Blk} (h : σ.men b = false) (hd : σ.get b2 = some d) : d.men b = false := by
  induction σ with
  | nil => simp [H.get] at hd
  | cons p σ ih =>
    obtain ⟨b', d'⟩ := p
    simp only [H.men, Bool.or_eq_false_iff] at h
    simp only [H.get] at hd
    split at hd
    · cases hd; exact h.1
    · exact ih h.2 hd
theorem Env.men_get {ρ : Env} {b t : Nat} {v : AV} (h : ρ.men b = false) (hv : ρ.get t = some v) : v.men b = false := by
  induction ρ with
  | nil => simp [Env.get] at hv
  | cons p ρ ih =>
    obtain ⟨t', v'⟩ := p
    simp only [Env.men, Bool.or_eq_false_iff] at h
    simp only [Env.get] at hv
    split at hv
    · cases hv; exact h.1
    · exact ih h.2 hv

def MapRel (κ : Ctx) : List (AV × AV) → List MapEntry → Prop
  | [], es => es = []
  | (k, v) :: r, es => ∃ e es', es = e :: es' ∧ VRel κ k e.key ∧ VRel κ v e.val ∧ MapRel κ r es'
/-- What block c holds. -/
def BRel (κ : Ctx) (c : Nat) : Blk → Prop
  | .cells cs => ∃ arr elem, κ.w.heap[c]? = some (.cells arr elem (0, 0)) ∧ CellsRel κ cs c 0
  | .map es => ∃ ents clock, κ.w.heap[c]? = some (.map ents clock) ∧ MapRel κ es ents.toList
structure HRel (κ : Ctx) (σ : H) : Prop where
  blk : ∀ b d, σ.get b = some d → ∃ c, κ.O b = some c ∧ BRel κ c d
  dom : ∀ b c, κ.O b = some c → (σ.get b).isSome = true ∧ c < κ.w.heap.size ∧ ¬ κ.X c
  inj : ∀ b b' c, κ.O b = some c → κ.O b' = some c → b = b'
  xlt : ∀ c, κ.X c → c < κ.w.heap.size
/-- A name that the caller gave: it keeps its block. -/
def pinned (b : Nat) : Bool := decide (1000000 ≤ b) && b % 2 == 1
/-- What a piece of the run may have done. -/
structure Step (κ κ' : Ctx) : Prop where
  X : κ'.X = κ.X
  size : κ.w.heap.size ≤ κ'.w.heap.size
  keep : ∀ c, c < κ.w.heap.size → (∀ b, κ.O b ≠ some c) → κ'.w.heap[c]? = κ.w.heap[c]?
  bs : ∀ c, bsize κ.w c ≤ bsize κ'.w c
  own : ∀ b c, κ'.O b = some c → (∃ b0, κ.O b0 = some c) ∨ κ.w.heap.size ≤ c
  os : κ'.w.os = κ.w.os
  tape : κ'.w.tape = κ.w.tape
  output : κ'.w.output = κ.w.output
  pin : ∀ b, pinned b = true → κ'.O b = none ∨ κ'.O b = κ.O b
theorem Step.refl (κ : Ctx) : Step κ κ := ⟨rfl, Nat.le_refl _, fun _ _ _ => rfl, fun _ => Nat.le_refl _, fun b _ h => .inl ⟨b, h⟩, rfl, rfl, rfl, fun _ _ => .inr rfl⟩
theorem Step.trans {κ κ1 κ2 : Ctx} (h : Step κ κ1) (k : Step κ1 κ2) : Step κ κ2 where
  X := k.X.trans h.X
  size := Nat.le_trans h.size k.size
  keep := fun c hc hn => by
    rw [k.keep c (Nat.lt_of_lt_of_le hc h.size) (fun b hb => by
      rcases h.own b c hb with ⟨b0, h0⟩ | h0
      · exact hn b0 h0
      · omega)]
    exact h.keep c hc hn
  bs := fun c => Nat.le_trans (h.bs c) (k.bs c)
  own := fun b c hb => by
    rcases k.own b c hb with ⟨b0, h0⟩ | h0
    · exact h.own b0 c h0
    · exact .inr (Nat.le_trans h.size h0)
  os := k.os.trans h.os
  tape := k.tape.trans h.tape
  output := k.output.trans h.output
  pin := fun b hb => by
    rcases k.pin b hb with e | e
    · exact .inl e
    · rw [e]; exact h.pin b hb
theorem Step.le {κ κ' : Ctx} (h : Step κ κ') : κ.le κ' where
  keep := fun c ⟨h1, h2, h3⟩ => by
    refine ⟨⟨Nat.lt_of_lt_of_le h1 h.size, by rw [h.X]; exact h2, fun b hb => ?_⟩, h.keep c h1 h3⟩
    rcases h.own b c hb with ⟨b0, h0⟩ | h0
    · exact h3 b0 h0
    · omega
  bs := h.bs

/-- The machine's state is what the abstract one says. -/
structure SRel (κ : Ctx) (N : Nat) (ρ : Env) (σ : H) (a : Act) : Prop where
  size : a.tmps.size = N
  defers : a.defers = []
  env : ∀ t v, ρ.get t = some v → ∃ u, a.tmps[t]? = some u ∧ VRel κ v u
  heap : HRel κ σ

section
variable (P : Program) (N : Nat)
/-- From each state that is as (ρ, σ) says the code goes to one as Q says. -/
def AWp (c : Code) (ρ : Env) (σ : H) (Q : Exit → Env → H → Prop) : Prop :=
  ∀ κ a, SRel κ N ρ σ a → c.wp P (fun e a' w' => ∃ κ' ρ' σ', κ'.w = w' ∧ Step κ κ' ∧ SRel κ' N ρ' σ' a' ∧ Q e ρ' σ') a κ.w
/-- The same of a row of operations. -/
def AOps (ops : Array Oper) (l : List Nat) (ρ : Env) (σ : H) (K : Env → H → Prop) : Prop :=
  ∀ (Q' : Exit → Act → World → Prop) κ a, SRel κ N ρ σ a →
    (∀ κ' ρ' σ' a', Step κ κ' → SRel κ' N ρ' σ' a' → K ρ' σ' → Q' .normal a' κ'.w) → wpOps P ops Q' l a κ.w
/-- The same of one operation. -/
def AOp (o : Oper) (ρ : Env) (σ : H) (K : Env → H → Prop) : Prop :=
  ∀ (Q' : Exit → Act → World → Prop) (next : Act → World → Prop) κ a, SRel κ N ρ σ a →
    (∀ κ' ρ' σ' a', Step κ κ' → SRel κ' N ρ' σ' a' → K ρ' σ' → next a' κ'.w) → o.wp P a κ.w next Q'
end
def andThen (K : Env → H → Prop) (Q : Exit → Env → H → Prop) : Exit → Env → H → Prop
  | .normal, ρ, σ => K ρ σ
  | e, ρ, σ => Q e ρ σ
def inBlock (id : Nat) (Q : Exit → Env → H → Prop) : Exit → Env → H → Prop
  | .exit id', ρ, σ => if id' = id then Q .normal ρ σ else Q (.exit id') ρ σ
  | e, ρ, σ => Q e ρ σ

section rules
variable {P : Program} {N : Nat} {ρ : Env} {σ : H} {Q : Exit → Env → H → Prop} {K : Env → H → Prop}
theorem AWp.mono {c : Code} {Q' : Exit → Env → H → Prop} (h : AWp P N c ρ σ Q) (hq : ∀ e ρ σ, Q e ρ σ → Q' e ρ σ) : AWp P N c ρ σ Q' :=
  fun κ a hs => wp_mono (h κ a hs) fun e a w ⟨κ', ρ', σ', h1, h2, h3, h4⟩ => ⟨κ', ρ', σ', h1, h2, h3, hq _ _ _ h4⟩
theorem awp_skip (h : Q .normal ρ σ) : AWp P N .skip ρ σ Q := fun κ a hs => wp_skip ⟨κ, ρ, σ, rfl, .refl _, hs, h⟩
theorem awp_label {l : Nat} (h : Q .normal ρ σ) : AWp P N (.label l) ρ σ Q := fun κ a hs => wp_label ⟨κ, ρ, σ, rfl, .refl _, hs, h⟩
theorem awp_exit {id : Nat} (h : Q (.exit id) ρ σ) : AWp P N (.exit id) ρ σ Q := fun κ a hs => wp_exit ⟨κ, ρ, σ, rfl, .refl _, hs, h⟩
theorem awp_ret (h : Q .ret ρ σ) : AWp P N .ret ρ σ Q := fun κ a hs => wp_ret ⟨κ, ρ, σ, rfl, .refl _, hs, h⟩
theorem awp_seq {x y : Code} (h : AWp P N x ρ σ (andThen (fun ρ σ => AWp P N y ρ σ Q) Q)) : AWp P N (.seq x y) ρ σ Q := by
  intro κ a hs
  refine wp_seq (wp_mono (h κ a hs) ?_)
  rintro e a' w' ⟨κ', ρ', σ', rfl, h2, h3, h4⟩
  cases e with
  | normal =>
    refine wp_mono (h4 κ' a' h3) ?_
    rintro e a w ⟨κ2, ρ2, σ2, h5, h6, h7, h8⟩
    exact ⟨κ2, ρ2, σ2, h5, h2.trans h6, h7, h8⟩
  | _ => exact ⟨κ', ρ', σ', rfl, h2, h3, h4⟩
theorem awp_block {id : Nat} {c : Code} (h : AWp P N c ρ σ (inBlock id Q)) : AWp P N (.block id c) ρ σ Q := by
  intro κ a hs
  refine wp_block (wp_mono (h κ a hs) ?_)
  rintro e a' w' ⟨κ', ρ', σ', rfl, h2, h3, h4⟩
  cases e with
  | exit i =>
    simp only [inBlock] at h4
    simp only [Exit.inBlock]
    split <;> rename_i hi
    · rw [if_pos hi] at h4; exact ⟨κ', ρ', σ', rfl, h2, h3, h4⟩
    · rw [if_neg hi] at h4; exact ⟨κ', ρ', σ', rfl, h2, h3, h4⟩
  | _ => exact ⟨κ', ρ', σ', rfl, h2, h3, h4⟩
/-- A loop: I says what holds ahead of each round, m what is left. -/
theorem awp_loop {c : Code} (I : Nat → Env → H → Prop) (m : Nat) (h0 : I m ρ σ)
    (round : ∀ m ρ σ, I m ρ σ → AWp P N c ρ σ (andThen (fun ρ' σ' => ∃ m', m' < m ∧ I m' ρ' σ') Q)) : AWp P N (.loop c) ρ σ Q := by
  intro κ a hs b k cs
  suffices key : ∀ m κ1 ρ1 σ1 a1, Step κ κ1 → SRel κ1 N ρ1 σ1 a1 → I m ρ1 σ1 →
      ∃ e a' w', (∃ κ' ρ' σ', κ'.w = w' ∧ Step κ κ' ∧ SRel κ' N ρ' σ' a' ∧ Q e ρ' σ') ∧ Arrives P (lone (b.at a1 (.code c :: .inLoop c :: k)) cs κ1.w) b k cs e a' w' by
    obtain ⟨e, a', w', hq, harr⟩ := key m κ ρ σ a (.refl _) hs h0
    exact ⟨e, a', w', hq, .of_steps (.one step_loop) harr⟩
  intro m
  induction m using Nat.strongRecOn with
  | _ m ih =>
    intro κ1 ρ1 σ1 a1 h1 h2 h3
    obtain ⟨e, a2, w2, ⟨κ2, ρ2, σ2, rfl, h5, h6, h7⟩, harr⟩ := round m ρ1 σ1 h3 κ1 a1 h2 b (.inLoop c :: k) cs
    cases e with
    | normal =>
      obtain ⟨m', hlt, hI⟩ := h7
      obtain ⟨e3, a3, w3, hq3, harr3⟩ := ih m' hlt κ2 ρ2 σ2 a2 (h1.trans h5) h6 hI
      exact ⟨e3, a3, w3, hq3, .of_steps (Steps.trans harr (.one step_inLoop)) harr3⟩
    | exit id => exact ⟨_, a2, _, ⟨κ2, ρ2, σ2, rfl, h1.trans h5, h6, h7⟩, .pass (x := .inLoop c) rfl (fun _ _ => .inl (by simp)) harr⟩
    | goto l => exact ⟨_, a2, _, ⟨κ2, ρ2, σ2, rfl, h1.trans h5, h6, h7⟩, .pass (x := .inLoop c) rfl (fun _ _ => .inl (by simp)) harr⟩
    | ret => exact ⟨_, a2, _, ⟨κ2, ρ2, σ2, rfl, h1.trans h5, h6, h7⟩, .pass (x := .inLoop c) rfl (fun _ _ => .inl (by simp)) harr⟩
    | panic ch => exact ⟨_, a2, _, ⟨κ2, ρ2, σ2, rfl, h1.trans h5, h6, h7⟩, .pass (x := .inLoop c) rfl (fun _ _ => .inl (by simp)) harr⟩
    | outgrown => exact ⟨_, a2, _, ⟨κ2, ρ2, σ2, rfl, h1.trans h5, h6, h7⟩, .pass (x := .inLoop c) rfl (fun _ _ => .inl (by simp)) harr⟩

/-- Less is known of the slots. -/
def Env.sub (ρ' ρ : Env) : Prop := ∀ t v, ρ'.get t = some v → ρ.get t = some v
theorem Env.keep_sub (ρ : Env) (ts : List Nat) : (ρ.keep ts).sub ρ := by
  induction ts with
  | nil => intro t v h; simp [Env.keep, Env.get] at h
  | cons t ts ih =>
    intro t' v h
    simp only [Env.keep] at h
    split at h
    · rename_i v' hv
      simp only [Env.get] at h
      split at h
      · rename_i e; subst e; cases h; exact hv
      · exact ih _ _ h
    · exact ih _ _ h
theorem SRel.sub {κ : Ctx} {ρ' : Env} {a : Act} (h : SRel κ N ρ σ a) (hs : ρ'.sub ρ) : SRel κ N ρ' σ a :=
  ⟨h.size, h.defers, fun t v hv => h.env t v (hs t v hv), h.heap⟩
theorem AWp.keep {c : Code} (ts : List Nat) (h : AWp P N c (ρ.keep ts) σ Q) : AWp P N c ρ σ Q :=
  fun κ a hs => h κ a (hs.sub (Env.keep_sub ρ ts))
theorem AWp.sub {c : Code} {ρ' : Env} (hs : ρ'.sub ρ) (h : AWp P N c ρ' σ Q) : AWp P N c ρ σ Q :=
  fun κ a hr => h κ a (hr.sub hs)

/-- A constant. -/
def cv : Value → AV
  | .bool b => .bool b
  | .int k n => .int k n
  | .string s => .str s
  | .pointer none => .nilp
  | .slice none 0 0 => .nils
  | .nilFunc => .nilf
  | .nilIface => .nili
  | _ => .undef
def Env.ev (ρ : Env) : Operand → AV
  | .tmp t => (ρ.get t).getD .undef
  | .const v => cv v
  | .func f => .func f [] []
  | .global _ => .undef
theorem vrel_cv (κ : Ctx) (v : Value) : VRel κ (cv v) v := by
  unfold cv
  split <;> simp [VRel]
theorem SRel.ev {κ : Ctx} {a : Act} (h : SRel κ N ρ σ a) (x : Operand) : VRel κ (ρ.ev x) (a.eval x) := by
  cases x with
  | tmp t =>
    simp only [Env.ev, Act.eval]
    cases hv : ρ.get t with
    | none => simp [VRel]
    | some v =>
      obtain ⟨u, hu, hr⟩ := h.env t v hv
      have : a.tmps.getD t Go.undef = u := by simp [Array.getD_eq_getD_getElem?, hu]
      rw [this]; exact hr
  | const v => exact vrel_cv κ v
  | func f => simp [Env.ev, Act.eval, VRel, VRels]
  | global g => simp [Env.ev, VRel]
theorem awp_cond {c : Operand} {x y : Code} {t : Bool} (hc : ρ.ev c = .bool t) (h : AWp P N (if t then x else y) ρ σ Q) : AWp P N (.cond c x y) ρ σ Q := by
  intro κ a hs
  have hv := hs.ev c
  rw [hc] at hv
  simp only [VRel] at hv
  exact wp_cond hv (h κ a hs)
theorem awp_cond_split {c : Operand} {x y : Code} {t : Bool} (hc : ρ.ev c = .bool t) (h1 : t = true → AWp P N x ρ σ Q) (h2 : t = false → AWp P N y ρ σ Q) : AWp P N (.cond c x y) ρ σ Q := by
  refine awp_cond hc ?_
  cases t
  · exact h2 rfl
  · exact h1 rfl
theorem awp_region {id : Nat} {ops : Array Oper} (h : AOps P N ops (List.range ops.size) ρ σ (Q .normal)) : AWp P N (.region id ops false) ρ σ Q := by
  intro κ a hs
  refine wp_region (h _ κ a hs ?_)
  intro κ' ρ' σ' a' h1 h2 h3
  exact ⟨κ', ρ', σ', rfl, h1, h2, h3⟩
theorem aops_nil {ops : Array Oper} (h : K ρ σ) : AOps P N ops [] ρ σ K :=
  fun Q' κ a hs hk => hk κ ρ σ a (.refl _) hs h
/-- A slot takes a value. -/
theorem SRel.put {κ : Ctx} {a : Act} (h : SRel κ N ρ σ a) {dst : Option Nat} {v : AV} {u : Value} (hd : ∀ t, dst = some t → t < N) (hv : VRel κ v u) : SRel κ N (ρ.put dst v) σ (a.put dst u) := by
  cases dst with
  | none => exact h
  | some d =>
    refine ⟨by simp [Act.put, h.size], h.defers, ?_, h.heap⟩
    intro t v' hv'
    simp only [Env.put, Env.get] at hv'
    split at hv'
    · rename_i e; subst e; cases hv'
      exact ⟨u, by simp [Act.put, Array.getElem?_setIfInBounds, h.size, hd t rfl], hv⟩
    · rename_i e
      obtain ⟨u', h1, h2⟩ := h.env t v' hv'
      exact ⟨u', by simp only [Act.put]; rw [Array.getElem?_setIfInBounds_ne (fun h => e h.symm)]; exact h1, h2⟩
end rules
end Go.Proofs.Hz
