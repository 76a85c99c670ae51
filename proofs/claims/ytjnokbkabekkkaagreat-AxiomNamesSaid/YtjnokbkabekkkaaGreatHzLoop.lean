/- Loops, what is not kept in mind being forgotten; small rules of use. -/
import Derived.Test.YtjnokbkabekkkaaGreatHzCall
set_option linter.all false
namespace Go.Proofs.Hz
open Go

/-- Only these blocks are kept in mind. -/
def H.keep (σ : H) : List Nat → H
  | [] => []
  | b :: bs => match σ.get b with
    | some d => (b, d) :: H.keep σ bs
    | none => H.keep σ bs
theorem H.keep_get (σ : H) : ∀ (bs : List Nat) (b : Nat), (σ.keep bs).get b = if b ∈ bs then σ.get b else none
  | [], b => by simp [H.keep, H.get]
  | x :: bs, b => by
    simp only [H.keep]
    cases hx : σ.get x with
    | none =>
      simp only [H.keep_get σ bs b, List.mem_cons]
      by_cases e : b = x
      · subst e; simp [hx]
      · simp [e]
    | some d =>
      simp only [H.get, H.keep_get σ bs b, List.mem_cons]
      by_cases e : b = x
      · subst e; simp [hx]
      · simp [e]
theorem keep_blocks {κ : Ctx} {N : Nat} {ρ : Env} {σ : H} {a : Act} (hs : SRel κ N ρ σ a) (bs : List Nat) :
    let κ' : Ctx := { κ with O := fun x => if x ∈ bs then κ.O x else none }
    Step κ κ' ∧ SRel κ' N ρ (σ.keep bs) a := by
  intro κ'
  have own : ∀ x c, κ'.O x = some c → κ.O x = some c ∧ x ∈ bs := fun x c h => by
    simp only [κ'] at h
    split at h
    · rename_i e; exact ⟨h, e⟩
    · cases h
  have step : Step κ κ' := ⟨rfl, Nat.le_refl _, fun _ _ _ => rfl, fun _ => Nat.le_refl _, fun x c h => .inl ⟨x, (own x c h).1⟩, rfl, rfl, rfl, fun x _ => by simp only [κ']; split <;> simp⟩
  have ids : ∀ m, Ids κ κ' m := fun m x _ => by
    simp only [κ']
    by_cases e : x ∈ bs
    · right; rw [if_pos e]
    · left; rw [if_neg e]
  refine ⟨step, hs.size, hs.defers, fun t v hv => ?_, ?_⟩
  · obtain ⟨u, h1, h2⟩ := hs.env t v hv
    exact ⟨u, h1, VRel.le step.le v u (ids _) h2⟩
  · refine ⟨fun x d hd => ?_, fun x c h => ?_, fun x y c h1 h2 => hs.heap.inj x y c (own x c h1).1 (own y c h2).1, hs.heap.xlt⟩
    · rw [H.keep_get] at hd
      split at hd
      · rename_i e
        obtain ⟨c, g1, g2⟩ := hs.heap.blk x d hd
        exact ⟨c, by simp only [κ']; rw [if_pos e]; exact g1, BRel.le step.le (ids _) rfl g2⟩
      · cases hd
    · obtain ⟨h1, h2⟩ := own x c h
      obtain ⟨g1, g2, g3⟩ := hs.heap.dom x c h1
      exact ⟨by rw [H.keep_get, if_pos h2]; exact g1, g2, g3⟩
theorem AWp.keepH {P : Program} {N : Nat} {c : Code} {ρ : Env} {σ : H} {Q : Exit → Env → H → Prop} (bs : List Nat) (h : AWp P N c ρ (σ.keep bs) Q) : AWp P N c ρ σ Q := by
  intro κ a hs
  obtain ⟨k1, k2⟩ := keep_blocks hs bs
  refine wp_mono (h { κ with O := fun x => if x ∈ bs then κ.O x else none } a k2) ?_
  rintro e a' w' ⟨κ', ρ', σ', rfl, h2, h3, h4⟩
  exact ⟨κ', ρ', σ', rfl, k1.trans h2, h3, h4⟩
section
variable {P : Program} {N : Nat} {vs : List Nat} {k : List It} {ρ : Env} {σ : H} {Q : Exit → Env → H → Prop}
/-- What a round has to come to. -/
def Rlp (ts bs : List Nat) (I : Nat → Env → H → Prop) (n : Nat) (ρ : Env) (σ : H) : Prop := ∃ m, m < n ∧ I m (ρ.keep ts) (σ.keep bs)
theorem W_rlp {ts bs : List Nat} {I : Nat → Env → H → Prop} {n : Nat} : W P N vs (.lp (Rlp ts bs I n) :: k) ρ σ Q = ∃ m, m < n ∧ I m (ρ.keep ts) (σ.keep bs) := rfl
/-- A loop; ts, bs: the slots and blocks that are kept in mind from one round to the next; n: what is left. -/
theorem W_loopk {c : Code} (ts bs : List Nat) (I : Nat → Env → H → Prop) (n : Nat) (h0 : I n (ρ.keep ts) (σ.keep bs))
    (round : ∀ n ρ σ, I n ρ σ → W P N vs (.code c :: .lp (Rlp ts bs I n) :: k) ρ σ Q) : W P N vs (.code (.loop c) :: k) ρ σ Q := by
  refine W_awp (fun _ _ _ => rfl) (awp_loop (fun n ρ σ => I n (ρ.keep ts) (σ.keep bs)) n h0 fun m ρ σ hI => ?_)
  refine AWp.keep ts (AWp.keepH bs (AWp.mono (wpc_sound c _ _ _ (round m _ _ hI)) ?_))
  intro e ρ' σ' he
  cases e <;> exact he
end
def ints (nn : Bool) (xs : List Int) : AV := .sl nn 1 (xs.map fun x => [.int .i64 x])
attribute [simp] W_seq W_skip W_label W_block W_blk W_exit WExit_blk WExit_code WExit_ops WExit_lp WExit_dops WExit_nil W_ret W_region W_ops_nil W_op gK_t gK_f opK_some opK_none W_rlp W_nil W_dops_nil W_dop gD_t gD_f dK_val dK_heap dK_call
  guardOf aop dact opv Env.ev Env.get Env.put Env.keep cv dstOk abuiltin alen abin iop eqRes aint args0 aindex aindexS aload rdCells W_cond_t W_cond_f H.keep H.get H.set H.del H.live aaddr anew freshB H.men Blk.men AV.men AV.mens Env.men
  pinned alookup aupdate afind aeq akey comma asl aslice abound eqop acells aelems solids solid astore aput resOf resVals resVal AV.noref AV.norefs allNoref sameCells eq1 abuild afill undefs anewSlice
theorem wrap_i64 {x : Int} (h1 : -9223372036854775808 ≤ x) (h2 : x ≤ 9223372036854775807) : IntKind.i64.wrap x = x := by
  unfold IntKind.wrap
  have e : (2 : Int) ^ IntKind.i64.bits = 18446744073709551616 := by decide
  have e2 : (2 : Int) ^ (IntKind.i64.bits - 1) = 9223372036854775808 := by decide
  simp only [e, e2, IntKind.signed, Bool.true_and]
  by_cases h : 0 ≤ x
  · rw [Int.emod_eq_of_lt h (by omega)]
    rw [if_neg (by simp; omega)]
  · have : x % 18446744073709551616 = x + 18446744073709551616 := by omega
    rw [this, if_pos (by simp; omega)]
    omega
theorem wrap_succ {i : Nat} (h : i < 9223372036854775807) : IntKind.i64.wrap (↑i + 1) = ((i + 1 : Nat) : Int) := by
  rw [wrap_i64 (by omega) (by omega)]; omega
theorem take_succ_eq {α : Type} {a b : List α} {i : Nat} (h1 : i < a.length) (h2 : i < b.length) (h : a.take i = b.take i) (he : a[i] = b[i]) : a.take (i + 1) = b.take (i + 1) := by
  rw [List.take_succ_eq_append_getElem h1, List.take_succ_eq_append_getElem h2, h, he]
end Go.Proofs.Hz
