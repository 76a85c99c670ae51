/- Regions that draw their order: what an operation yields hangs on what it names. -/
import Derived.Test.YtjnokbkabekkkaaGreatHzDraw
set_option linter.all false
namespace Go.Proofs.Hz
open Go

theorem acells_live {σ σ' : H} (h : ∀ b, σ.live b = σ'.live b) (v : AV) : acells σ v = acells σ' v := by
  cases v <;> simp only [acells, h]
theorem afill_live {σ σ' : H} (h : ∀ b, σ.live b = σ'.live b) {p : Nat → Option (Nat × Nat)} : ∀ (ps : List (Nat × AV)) (cs : List AV), afill p σ cs ps = afill p σ' cs ps
  | [], cs => rfl
  | (i, v) :: ps, cs => by
    simp only [afill]
    cases p i with
    | none => rfl
    | some x =>
      obtain ⟨off, size⟩ := x
      simp only [acells_live h v]
      cases acells σ' v with
      | none => rfl
      | some vs =>
        simp only
        split
        · exact afill_live h ps _
        · rfl
theorem abuild_live {P : Program} {σ σ' : H} (h : ∀ b, σ.live b = σ'.live b) {t : TypeId} {ps : List (Nat × AV)} : abuild P t σ ps = abuild P t σ' ps := by
  unfold abuild
  cases zeroL P t <;> cases placesL P t <;> first | rfl | (simp only; rw [afill_live h])
theorem aaddr_live {σ σ' : H} (h : ∀ b, σ.live b = σ'.live b) (n : Nat) (v : AV) : aaddr σ n v = aaddr σ' n v := by
  cases v <;> simp only [aaddr, h]
theorem aindex_live {σ σ' : H} (h : ∀ b, σ.live b = σ'.live b) (e : Option Nat × Nat) (v : AV) (i : Int) : aindex e σ v i = aindex e σ' v i := by
  obtain ⟨e1, k⟩ := e
  cases e1 with
  | none => cases v <;> simp only [aindex, aindexS, h]
  | some n => simp only [aindex, aaddr_live h]
theorem aslice_live {σ σ' : H} (h : ∀ b, σ.live b = σ'.live b) (k : Nat) (v : AV) (lo : Int) (hi : Option Int) : aslice k σ v lo hi = aslice k σ' v lo hi := by
  cases v <;> simp only [aslice, h]
theorem asl_live {P : Program} {σ σ' : H} (h : ∀ b, σ.live b = σ'.live b) (t : TypeId) (v : AV) (lo hi : Option (IntKind × Int)) : asl P σ t v lo hi = asl P σ' t v lo hi := by
  unfold asl
  simp only [aslice_live h]
theorem eqop_live {σ σ' : H} (h : ∀ b, σ.live b = σ'.live b) (d : TypeDesc) (x y : AV) : eqop d σ x y = eqop d σ' x y := by
  unfold eqop
  simp only [h]
theorem abin_live {P : Program} {σ σ' : H} (h : ∀ b, σ.live b = σ'.live b) (op : BinOp) (t : TypeId) (x y : AV) : abin P σ op t x y = abin P σ' op t x y := by
  unfold abin
  simp only [eqop_live h]
theorem abuiltin_live {P : Program} {σ σ' : H} (h : ∀ b, σ.live b = σ'.live b) (b : Builtin) (ts : List TypeId) (xs : List AV) : abuiltin P σ b ts xs = abuiltin P σ' b ts xs := by
  have e : ∀ d x, alen d σ x = alen d σ' x := fun d x => by unfold alen; simp only [h]
  unfold abuiltin
  simp only [e]
theorem opv_live {P : Program} {ρ : Env} {σ σ' : H} (h : ∀ b, σ.live b = σ'.live b) {o : Op} (hs : isSens o = false) : opv P ρ σ o = opv P ρ σ' o := by
  cases o with
  | load => simp [isSens] at hs
  | lookup => simp [isSens] at hs
  | call c =>
    obtain ⟨cal, args, ts⟩ := c
    cases cal <;> simp only [opv, abuiltin_live h]
  | build t ps => simp only [opv, abuild_live h]
  | slice t x lo hi mx => cases mx <;> simp only [opv, asl_live h]
  | makeFunc f a c => cases f <;> rfl
  | _ => simp only [opv, h, aaddr_live h, aindex_live h, abin_live h]

theorem ev_same {ρ ρ' : Env} {x : Operand} (h : ∀ t, x = .tmp t → ρ.get t = ρ'.get t) : ρ.ev x = ρ'.ev x := by
  cases x with
  | tmp t => simp only [Env.ev, h t rfl]
  | _ => rfl
theorem opv_same {P : Program} {ρ ρ' : Env} {σ : H} {o : Op} (h : ∀ x ∈ o.operands, ρ.ev x = ρ'.ev x) : opv P ρ σ o = opv P ρ' σ o := by
  have hb : ∀ x : Option Operand, (∀ y, x = some y → ρ.ev y = ρ'.ev y) → abound ρ x = abound ρ' x := fun x hx => by
    cases x with
    | none => rfl
    | some y => simp only [abound, hx y rfl]
  cases o with
  | call c =>
    obtain ⟨cal, args, ts⟩ := c
    cases cal with
    | builtin b =>
      simp only [opv]
      have : args.toList.map ρ.ev = args.toList.map ρ'.ev := List.map_congr_left fun x hx => h x (by simp [Op.operands, Call.operands]; simpa using hx)
      rw [this]
    | _ => rfl
  | build t ps =>
    simp only [opv]
    have : (ps.toList.map fun p => (p.1, ρ.ev p.2)) = ps.toList.map fun p => (p.1, ρ'.ev p.2) := List.map_congr_left fun p hp => by
      rw [h p.2 (by simp only [Op.operands, List.mem_toArray, List.mem_map]; exact ⟨p, hp, rfl⟩)]
    rw [this]
  | slice t x lo hi mx =>
    cases mx with
    | none =>
      simp only [opv]
      rw [hb lo fun y hy => h y (by subst hy; simp [Op.operands]), hb hi fun y hy => h y (by subst hy; simp [Op.operands]), h x (by simp [Op.operands])]
    | some m => rfl
  | makeFunc f first caps =>
    cases f with
    | func f =>
      simp only [opv]
      have e1 : first.toList.map ρ.ev = first.toList.map ρ'.ev := List.map_congr_left fun x hx => h x (by simp only [Op.operands, Array.mem_append]; exact .inl (by simpa using hx))
      have e2 : caps.toList.map ρ.ev = caps.toList.map ρ'.ev := List.map_congr_left fun x hx => h x (by simp only [Op.operands, Array.mem_append]; exact .inr (by simpa using hx))
      rw [e1, e2]
    | _ => rfl
  | move x => simp only [opv]; rw [h x (by simp [Op.operands])]
  | assign x => simp only [opv]; rw [h x (by simp [Op.operands])]
  | pick c x y => simp only [opv]; rw [h x (by simp [Op.operands]), h y (by simp [Op.operands]), h c (by simp [Op.operands])]
  | load t x => simp only [opv]; rw [h x (by simp [Op.operands])]
  | nilCheck x => simp only [opv]; rw [h x (by simp [Op.operands])]
  | binOp op t x y t2 => simp only [opv]; rw [h x (by simp [Op.operands]), h y (by simp [Op.operands])]
  | unOp op t x => simp only [opv]; rw [h x (by simp [Op.operands])]
  | convert s d x => simp only [opv]; rw [h x (by simp [Op.operands])]
  | fieldAddr s x i => simp only [opv]; rw [h x (by simp [Op.operands])]
  | indexAddr t x i => simp only [opv]; rw [h x (by simp [Op.operands]), h i (by simp [Op.operands])]
  | index t x i => simp only [opv]; rw [h x (by simp [Op.operands]), h i (by simp [Op.operands])]
  | extract x i => simp only [opv]; rw [h x (by simp [Op.operands])]
  | lookup t x k c => simp only [opv]; rw [h x (by simp [Op.operands]), h k (by simp [Op.operands])]
  | _ => rfl
theorem pcall_same {P : Program} {ρ ρ' : Env} {o : Op} {v : AV} (h : ∀ x ∈ o.operands, ρ.ev x = ρ'.ev x) (hp : PCall P ρ o v) : PCall P ρ' o v := by
  obtain ⟨x, args, ts, f, first, caps, rfl, hx, hp⟩ := hp
  have e1 : ρ.ev x = ρ'.ev x := h x (by simp [Op.operands, Call.operands])
  have e2 : args.toList.map ρ.ev = args.toList.map ρ'.ev := List.map_congr_left fun y hy => h y (by simp only [Op.operands, Call.operands, Array.mem_append]; exact .inr (by simpa using hy))
  exact ⟨x, args, ts, f, first, caps, rfl, e1 ▸ hx, e2 ▸ hp⟩
theorem guard_same {ρ ρ' : Env} {all : Array Oper} {o : Oper} (h : ∀ t ∈ slotsOf all o, ρ.get t = ρ'.get t) : guardOf ρ all o = guardOf ρ' all o := by
  unfold guardOf
  cases hg : o.guard with
  | none => rfl
  | some p =>
    obtain ⟨j, want⟩ := p
    simp only
    cases hd : (all[j]?).bind (·.dst) with
    | none => rfl
    | some d =>
      simp only
      rw [h d (by simp [slotsOf, hg, hd])]
theorem ops_same {ρ ρ' : Env} {all : Array Oper} {o : Oper} (h : ∀ t ∈ slotsOf all o, ρ.get t = ρ'.get t) : ∀ x ∈ o.op.operands, ρ.ev x = ρ'.ev x := by
  intro x hx
  refine ev_same fun t ht => h t ?_
  subst ht
  simp only [slotsOf, List.mem_append, List.mem_filterMap]
  exact .inl (.inr ⟨_, by simpa using hx, rfl⟩)
end Go.Proofs.Hz
