/- One operation that computes a value. -/
import Derived.Test.YtjnokbkabekkkaaGreatHzMap2
set_option linter.all false
namespace Go.Proofs.Hz
open Go

def eqRes (op : BinOp) (r : Bool) : Option AV :=
  match op with
  | .eql => some (.bool r)
  | .neq => some (.bool (!r))
  | _ => none
def abin (P : Program) (σ : H) (op : BinOp) (t : TypeId) (x y : AV) : Option AV :=
  match x, y with
  | .int k a, .int k' b => match op with
    | .shl => shop .shl k a b
    | .shr => shop .shr k a b
    | op => if k = k' then iop op k a b else none
  | .str a, .str b => strop op a b
  | .agg xs, .agg ys => match flatL P t with
    | some ts => match sameCells ts xs ys with
      | some r => eqRes op r
      | none => none
    | none => none
  | x, y => match P.underlying t with
    | some d => match eqop d σ x y with
      | some r => eqRes op r
      | none => none
    | none => none
theorem eqop_forms {κ : Ctx} {σ : H} (hh : HRel κ σ) {d : TypeDesc} {x y : AV} {r : Bool} {ux uy : Value} (hx : VRel κ x ux) (hy : VRel κ y uy) (h : eqop d σ x y = some r) :
    (∀ k n, ux ≠ .int k n) ∧ (∀ s, ux ≠ .string s) ∧ (∀ k n, ux ≠ .float k n) ∧ (∀ k a b, ux ≠ .complex k a b) ∧ ux ≠ .nilIface ∧ (∀ c, ux ≠ .agg c) := by
  unfold eqop at h
  split at h
  case h_1 => simp only [VRel] at hx; subst hx; simp
  case h_2 => simp only [VRel] at hx; subst hx; simp
  case h_3 => simp only [VRel] at hx; obtain ⟨_, _, rfl, _⟩ := hx; simp
  case h_4 b _ =>
    split at h
    · rename_i hb
      obtain ⟨c, hO⟩ := hh.live hb
      simp only [VRel] at hx; rw [hx c hO]; simp
    · cases h
  case h_5 => simp only [VRel] at hx; subst hx; simp
  case h_6 => simp only [VRel] at hx; obtain ⟨_, _, _, _, rfl, _⟩ := hx; simp
  case h_7 b _ _ _ =>
    split at h
    · rename_i hb
      obtain ⟨c, hO⟩ := hh.live hb
      simp only [VRel] at hx
      obtain ⟨_, _, rfl, _⟩ := hx c hO; simp
    · cases h
  case h_8 => simp only [VRel] at hx; subst hx; simp
  case h_9 => simp only [VRel] at hx; obtain ⟨_, _, rfl, _⟩ := hx; simp
  case h_10 => cases h
theorem run_abin {P : Program} {κ : Ctx} {σ : H} (hh : HRel κ σ) {op : BinOp} {t : TypeId} {ox oy : Operand} {x y v : AV} {ux uy : Value} (hx : VRel κ x ux) (hy : VRel κ y uy) (h : abin P σ op t x y = some v) :
    ∃ u, ((do eqGuard op t ox oy ux uy; binOp op t ux uy : Sem Value)).run P κ.w = .ok u κ.w ∧ VRel κ v u := by
  unfold abin at h
  split at h
  · rename_i k a k' b
    simp only [VRel] at hx hy; subst hx hy
    split at h
    · obtain ⟨u, h1, h2⟩ := run_shop (P := P) (w := κ.w) (op := .shl) (t := t) (x := ox) (y := oy) (k' := k') h
      exact ⟨u, h1, h2 κ⟩
    · obtain ⟨u, h1, h2⟩ := run_shop (P := P) (w := κ.w) (op := .shr) (t := t) (x := ox) (y := oy) (k' := k') h
      exact ⟨u, h1, h2 κ⟩
    · split at h
      · rename_i e; subst e
        obtain ⟨u, h1, h2⟩ := run_iop (P := P) (w := κ.w) (t := t) (x := ox) (y := oy) h
        exact ⟨u, h1, h2 κ⟩
      · cases h
  · simp only [VRel] at hx hy; subst hx hy
    obtain ⟨u, h1, h2⟩ := run_strop (P := P) (w := κ.w) (t := t) (x := ox) (y := oy) h
    exact ⟨u, h1, h2 κ⟩
  · rename_i xs ys
    split at h
    · rename_i ts hts
      split at h
      · rename_i r hr
        simp only [VRel] at hx hy
        obtain ⟨us, rfl, hx⟩ := hx
        obtain ⟨zs, rfl, hy⟩ := hy
        obtain ⟨g1, g2⟩ := run_flat (P := P) (κ := κ) 9998 hts hx hy hr
        have hg : (eqGuard op t ox oy (.agg us) (.agg zs)).run P κ.w = .ok () κ.w := run_eqGuard_agg _ _ _ _ _ _ _ g2
        simp only [Sem.run_bind, hg, Result.andThen_ok]
        cases op <;> simp only [eqRes] at h <;> cases h
        · rw [run_eql_struct, g1]; exact ⟨_, rfl, by simp [VRel]⟩
        · rw [run_neq_struct, g1]; exact ⟨_, rfl, by simp [VRel]⟩
      · cases h
    · cases h
  · split at h
    · rename_i d hd
      split at h
      · rename_i r hr
        obtain ⟨f1, f2, f3, f4, f5, f6⟩ := eqop_forms hh hx hy hr
        have g := run_eqop (P := P) hd hh hx hy hr 9999
        have hg : (eqGuard op t ox oy ux uy).run P κ.w = .ok () κ.w := by
          unfold eqGuard
          cases op <;> first | rfl | (cases ux <;> first | rfl | (exfalso; first | exact f5 rfl | exact f6 _ rfl))
        simp only [Sem.run_bind, hg, Result.andThen_ok]
        cases op <;> simp only [eqRes] at h <;> cases h
        · refine ⟨.bool r, ?_, by simp [VRel]⟩
          have e : binOp .eql t ux uy = (do pure (.bool (← Op.equal t ux uy))) := by
            cases ux <;> first | rfl | (exfalso; first | exact f1 _ _ rfl | exact f2 _ rfl | exact f3 _ _ rfl | exact f4 _ _ _ rfl)
          rw [e]
          simp only [Sem.run_bind]
          show ((Op.equalIn (9999 + 1) t ux uy).run P κ.w).andThen _ = _
          rw [g]; rfl
        · refine ⟨.bool (!r), ?_, by simp [VRel]⟩
          have e : binOp .neq t ux uy = (do pure (.bool (!(← Op.equal t ux uy)))) := by
            cases ux <;> first | rfl | (exfalso; first | exact f1 _ _ rfl | exact f2 _ rfl | exact f3 _ _ rfl | exact f4 _ _ _ rfl)
          rw [e]
          simp only [Sem.run_bind]
          show ((Op.equalIn (9999 + 1) t ux uy).run P κ.w).andThen _ = _
          rw [g]; rfl
      · cases h
    · cases h

def aint : AV → Option (IntKind × Int)
  | .int k n => some (k, n)
  | _ => none
/-- A bound of a slice expression: left out, or a number. -/
def abound (ρ : Env) : Option Operand → Option (Option (IntKind × Int))
  | none => some none
  | some x => (aint (ρ.ev x)).map some
theorem abound_spec {κ : Ctx} {N : Nat} {ρ : Env} {σ : H} {a : Act} (hs : SRel κ N ρ σ a) {x : Option Operand} {b : Option (IntKind × Int)} (h : abound ρ x = some b) : x.map a.eval = b.map fun p => .int p.1 p.2 := by
  cases x with
  | none => simp only [abound, Option.some.injEq] at h; subst h; rfl
  | some x =>
    simp only [abound, Option.map_eq_some_iff] at h
    obtain ⟨p, hp, rfl⟩ := h
    have hv := hs.ev x
    unfold aint at hp
    split at hp
    · rename_i k n hk
      cases hp
      rw [hk] at hv
      simp only [VRel] at hv
      simp [hv]
    · cases hp
def asl (P : Program) (σ : H) (t : TypeId) (x : AV) (lo hi : Option (IntKind × Int)) : Option AV :=
  match P.underlying t with
  | some .string => match x with
    | .str s => astrSlice s ((lo.map (·.2)).getD 0) (hi.map (·.2))
    | _ => none
  | some (.slice e) => match (P.info? e).map (·.size) with
    | some k => aslice k σ x ((lo.map (·.2)).getD 0) (hi.map (·.2))
    | none => none
  | _ => none
def apart (P : Program) (t : TypeId) (cs : List AV) (off : Nat) : Option AV :=
  match tyL P t with
  | some (g, n) => rdCells g n cs off
  | none => none
def abuiltin (P : Program) (σ : H) (b : Builtin) (ts : List TypeId) (xs : List AV) : Option AV :=
  match b, ts, xs with
  | .len, [t], [x] => match P.underlying t with
    | some d => (alen d σ x).map (.int .i64)
    | none => none
  | .max, _, [.int k a, .int k' b] => if k = k' then some (.int k (if b > a then b else a)) else none
  | .min, _, [.int k a, .int k' b] => if k = k' then some (.int k (if b < a then b else a)) else none
  | _, _, _ => none
/-- What an operation yields that turns nothing in memory. -/
def opv (P : Program) (ρ : Env) (σ : H) (o : Op) : Option AV :=
  match o with
  | .move x => some (ρ.ev x)
  | .assign x => some (ρ.ev x)
  | .pick c x y => match ρ.ev c with
    | .bool t => some (if t then ρ.ev x else ρ.ev y)
    | _ => none
  | .load t x => match tyL P t with
    | some (g, n) => aload g n (ρ.ev x) σ
    | none => none
  | .nilCheck x => match ρ.ev x with
    | .view cs o => some (.view cs o)
    | .ref b o => if σ.live b then some (.ref b o) else none
    | .func f a c => some (.func f a c)
    | _ => none
  | .binOp op t x y _ => abin P σ op t (ρ.ev x) (ρ.ev y)
  | .unOp op _ x => match op, ρ.ev x with
    | .neg, .int k n => some (.int k (k.wrap (0 - n)))
    | .not, .bool b => some (.bool (!b))
    | _, _ => none
  | .convert s d x => match P.underlying s, P.underlying d, ρ.ev x with
    | some _, some (.int k), .int _ n => some (.int k (k.wrap n))
    | _, _, _ => none
  | .makeFunc (.func f) first caps => some (.func f (first.toList.map ρ.ev) (caps.toList.map ρ.ev))
  | .slice t x lo hi none => match abound ρ lo, abound ρ hi with
    | some l, some h => asl P σ t (ρ.ev x) l h
    | _, _ => none
  | .fieldAddr s x i => match fldL P s i with
    | some n => aaddr σ n (ρ.ev x)
    | none => none
  | .indexAddr t x i => match elL P t, aint (ρ.ev i) with
    | some e, some (_, n) => aindex e σ (ρ.ev x) n
    | _, _ => none
  | .index t x i => match P.underlying t, ρ.ev x, aint (ρ.ev i) with
    | some .string, .str s, some (_, n) => if 0 ≤ n then (s[n.toNat]?).map fun b => .int .u8 b.toNat else none
    | _, _, _ => none
  | .extract x i => match ρ.ev x with
    | .tup vs => vs[i]?
    | _ => none
  | .build t ps => abuild P t σ (ps.toList.map fun p => (p.1, ρ.ev p.2))
  | .lookup t x k c => alookup P t σ (ρ.ev x) (ρ.ev k) c
  | .call ⟨.builtin b, args, ts⟩ => abuiltin P σ b ts.toList (args.toList.map ρ.ev)
  | _ => none
theorem evs {κ : Ctx} {N : Nat} {ρ : Env} {σ : H} {a : Act} (hs : SRel κ N ρ σ a) : ∀ xs : List Operand, VRels κ (xs.map ρ.ev) (xs.map a.eval)
  | [] => by simp [VRels]
  | x :: xs => by simp only [List.map_cons, VRels]; exact ⟨_, _, rfl, hs.ev x, evs hs xs⟩
theorem run_abuiltin {P : Program} {κ : Ctx} {σ : H} (hh : HRel κ σ) {b : Builtin} {ts : Array TypeId} {ty : TypeId} {cs : Array Bool} {xs : List AV} {us : Array Value} {v : AV} (hx : VRels κ xs us.toList)
    (h : abuiltin P σ b ts.toList xs = some v) : ∃ u, (builtin b ts ty cs us).run P κ.w = .ok (.value u) κ.w ∧ VRel κ v u := by
  unfold abuiltin at h
  split at h
  · rename_i t x hts
    split at h
    · rename_i d hd
      simp only [Option.map_eq_some_iff] at h
      obtain ⟨n, hn, rfl⟩ := h
      simp only [VRels] at hx
      obtain ⟨u, us', e1, hu, e2⟩ := hx
      have et : ts = #[t] := by apply Array.ext'; simpa using hts
      have eu : us = #[u] := by apply Array.ext'; simp [e1, e2]
      subst et eu
      refine ⟨.int .i64 n, ?_, by simp only [VRel]⟩
      simp only [builtin, Sem.run_bind, run_len hd hh hu hn, Result.andThen_ok]; rfl
    · cases h
  · rename_i kx ax ky bx
    split at h
    · rename_i e; subst e
      cases h
      simp only [VRels, VRel] at hx
      obtain ⟨u, us', e1, rfl, u2, us2, e2, rfl, e3⟩ := hx
      have eu : us = #[.int kx ax, .int kx bx] := by apply Array.ext'; simp only [e1, e2, e3]
      subst eu
      exact ⟨_, by simp only [builtin, Builtin.max_, List.foldlM_cons, List.foldlM_nil, Builtin.max2, Sem.run_bind, pure, Sem.run, Result.andThen_ok]; rfl, by simp only [VRel]⟩
    · cases h
  · rename_i kx ax ky bx
    split at h
    · rename_i e; subst e
      cases h
      simp only [VRels, VRel] at hx
      obtain ⟨u, us', e1, rfl, u2, us2, e2, rfl, e3⟩ := hx
      have eu : us = #[.int kx ax, .int kx bx] := by apply Array.ext'; simp only [e1, e2, e3]
      subst eu
      exact ⟨_, by simp only [builtin, Builtin.min_, List.foldlM_cons, List.foldlM_nil, Builtin.min2, Sem.run_bind, pure, Sem.run, Result.andThen_ok]; rfl, by simp only [VRel]⟩
    · cases h
  · cases h

theorem run_asl {P : Program} {κ : Ctx} {σ : H} (hh : HRel κ σ) {t : TypeId} {x v : AV} {u : Value} {lo hi : Option (IntKind × Int)} (hx : VRel κ x u) (h : asl P σ t x lo hi = some v) :
    ∃ y, (Instr.sliceAt t u (lo.map fun p => .int p.1 p.2) (hi.map fun p => .int p.1 p.2) none).run P κ.w = .ok y κ.w ∧ VRel κ v y := by
  unfold asl at h
  split at h
  · rename_i ht
    split at h
    · simp only [VRel] at hx; subst hx
      exact run_strSlice ht h
    · cases h
  · rename_i e ht
    split at h
    · rename_i k hk
      exact run_slice ht hk hh hx h
    · cases h
  · cases h
theorem oped {P : Program} {w : World} {s : Sem Value} {u : Value} (h : s.run P w = .ok u w) : ((do pure (.value (← s)) : Sem Next)).run P w = .ok (.value u) w := by
  simp only [Sem.run_bind, h, Result.andThen_ok, pure, Sem.run]
theorem opv_sound {P : Program} {κ : Ctx} {N : Nat} {ρ : Env} {σ : H} {a : Act} (hs : SRel κ N ρ σ a) {o : Oper} {v : AV} (h : opv P ρ σ o.op = some v) :
    ∃ u, (execOp a.eval o).run P κ.w = .ok (.value u) κ.w ∧ VRel κ v u := by
  obtain ⟨dst, op, type, pos, after, guard⟩ := o
  simp only at h
  unfold opv at h
  split at h
  · cases h; exact ⟨_, rfl, hs.ev _⟩
  · cases h; exact ⟨_, rfl, hs.ev _⟩
  · rename_i c x y
    split at h
    · rename_i t ht
      cases h
      have hc := hs.ev c
      rw [ht] at hc; simp only [VRel] at hc
      refine ⟨if t then a.eval x else a.eval y, ?_, ?_⟩
      · simp only [execOp, hc, asBool, Sem.run_bind, pure, Sem.run, Result.andThen_ok]
      · cases t
        · exact hs.ev y
        · exact hs.ev x
    · cases h
  · rename_i t x
    split at h
    · rename_i g n ht
      obtain ⟨u, h1, h2⟩ := run_aload ht hs.heap (hs.ev x) h
      exact ⟨u, oped h1, h2⟩
    · cases h
  · rename_i x
    have hx := hs.ev x
    split at h
    · rename_i cs off hv
      cases h
      rw [hv] at hx
      refine ⟨_, ?_, hx⟩
      simp only [VRel] at hx
      obtain ⟨cb, co, e, _⟩ := hx
      simp only [execOp, e]; rfl
    · rename_i b off hv
      split at h
      · rename_i hb
        cases h
        rw [hv] at hx
        refine ⟨_, ?_, hx⟩
        obtain ⟨c, hO⟩ := hs.heap.live hb
        simp only [VRel] at hx
        simp only [execOp, hx c hO]; rfl
      · cases h
    · rename_i f fi ca hv
      cases h
      rw [hv] at hx
      refine ⟨_, ?_, hx⟩
      simp only [VRel] at hx
      obtain ⟨us, ws, e, _⟩ := hx
      simp only [execOp, e]; rfl
    · cases h
  · rename_i op t x y t2
    obtain ⟨u, h1, h2⟩ := run_abin hs.heap (hs.ev x) (hs.ev y) h (ox := x) (oy := y)
    exact ⟨u, oped h1, h2⟩
  · rename_i op t x
    have hx := hs.ev x
    split at h
    · rename_i k n hv
      cases h
      rw [hv] at hx; simp only [VRel] at hx
      exact ⟨.int k (k.wrap (0 - n)), by simp only [execOp, hx]; rfl, by simp only [VRel]⟩
    · rename_i b hv
      cases h
      rw [hv] at hx; simp only [VRel] at hx
      exact ⟨.bool (!b), by simp only [execOp, hx]; rfl, by simp only [VRel]⟩
    · cases h
  · rename_i s d x
    have hx := hs.ev x
    split at h
    · rename_i ds k kk n h1 h2 hv
      cases h
      rw [hv] at hx; simp only [VRel] at hx
      refine ⟨.int k (k.wrap n), oped ?_, by simp only [VRel]⟩
      simp only [convert, Sem.run_bind, run_under h1, run_under h2, Result.andThen_ok, hx]
      cases ds <;> rfl
    · cases h
  · rename_i f first caps
    cases h
    refine ⟨_, rfl, ?_⟩
    simp only [VRel]
    exact ⟨_, _, rfl, by simpa using evs hs first.toList, by simpa using evs hs caps.toList⟩
  · rename_i t x lo hi
    split at h
    · rename_i l hh h1 h2
      obtain ⟨u, g1, g2⟩ := run_asl hs.heap (hs.ev x) h
      rw [← abound_spec hs h1, ← abound_spec hs h2] at g1
      exact ⟨u, oped g1, g2⟩
    · cases h
  · rename_i s x i
    split at h
    · rename_i n hn
      obtain ⟨u, g1, g2⟩ := run_fieldAt hn hs.heap (hs.ev x) h
      exact ⟨u, oped g1, g2⟩
    · cases h
  · rename_i t x i
    split at h
    · rename_i e k n he hi
      have hv := hs.ev i
      unfold aint at hi
      split at hi
      · rename_i k' n' hk
        cases hi
        rw [hk] at hv; simp only [VRel] at hv
        obtain ⟨u, g1, g2⟩ := run_indexAt (kk := k) he hs.heap (hs.ev x) h
        refine ⟨u, oped ?_, g2⟩
        rw [hv]; exact g1
      · cases hi
    · cases h
  · rename_i t x i
    split at h
    · rename_i s k n ht hx hi
      have hv := hs.ev i
      have hv2 := hs.ev x
      rw [hx] at hv2; simp only [VRel] at hv2
      unfold aint at hi
      split at hi
      · rename_i k' n' hk
        cases hi
        rw [hk] at hv; simp only [VRel] at hv
        split at h
        · rename_i h0
          simp only [Option.map_eq_some_iff] at h
          obtain ⟨b, hb, rfl⟩ := h
          refine ⟨.int .u8 b.toNat, oped ?_, by simp only [VRel]⟩
          rw [hv, hv2]
          simp only [Instr.index, asIntOf, Sem.run_bind, pure, Sem.run, Result.andThen_ok, run_under ht, if_pos h0, hb]
        · cases h
      · cases hi
    · cases h
  · rename_i x i
    have hx := hs.ev x
    split at h
    · rename_i vs hv
      rw [hv] at hx; simp only [VRel] at hx
      obtain ⟨us, e, hr⟩ := hx
      obtain ⟨u, h1, h2⟩ := VRels.get hr h
      refine ⟨u, oped ?_, h2⟩
      rw [e]
      have : us[i]? = some u := by simpa using h1
      simp only [Instr.extract, this, pure, Sem.run]
    · cases h
  · rename_i t ps
    have hu : ∃ vs, (ps.map fun (x : Nat × Operand) => (x.1, a.eval x.2)).toList = ((ps.toList.map fun p => (p.1, ρ.ev p.2)).zip vs).map (fun p => (p.1.1, p.2)) ∧ VRels κ ((ps.toList.map fun p => (p.1, ρ.ev p.2)).map (·.2)) vs := by
      refine ⟨ps.toList.map fun p => a.eval p.2, ?_, ?_⟩
      · simp only [Array.toList_map, List.zip_map', List.map_map]
        rfl
      · have := evs hs (ps.toList.map (·.2))
        simpa [List.map_map, Function.comp_def] using this
    obtain ⟨u, g1, g2⟩ := run_build hs.heap hu h
    exact ⟨u, oped g1, g2⟩
  · rename_i t x k c
    obtain ⟨u, g1, g2⟩ := run_lookup (c := c) hs.heap (hs.ev x) (hs.ev k) h
    exact ⟨u, oped g1, g2⟩
  · rename_i b args ts
    have hx : VRels κ (args.toList.map ρ.ev) (args.map a.eval).toList := by simpa using evs hs args.toList
    obtain ⟨u, g1, g2⟩ := run_abuiltin (P := P) (ty := type) (cs := args.map fun | .const _ => true | _ => false) hs.heap hx h
    exact ⟨u, g1, g2⟩
  · cases h
end Go.Proofs.Hz
