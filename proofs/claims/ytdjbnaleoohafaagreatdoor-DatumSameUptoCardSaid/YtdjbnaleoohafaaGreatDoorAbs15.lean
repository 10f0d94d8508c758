/-
  AN ABSTRACT SEMANTICS, 15: one operation.
-/
import Derived.Test.YtdjbnaleoohafaaGreatDoorAbs14
namespace Go.Abs
open Go Go.RowKit

def nilCheckA (σ : Heap) : AV → Option AV
  | .ptr o k => some (.ptr o k)
  | .pimm cs => some (.pimm cs)
  | .prow r ver i k => if (rowAt σ r ver).isSome = true then some (.prow r ver i k) else none
  | .func (.func f) a b => some (.func (.func f) a b)
  | .iface t v => some (.iface t v)
  | _ => none

def builtinA (C : Ctx) (base : Nat) (σ : Heap) (b : Builtin) (ta : Array TypeId) (args : List AV) : Option (AV × Heap) :=
  match b, args with
  | .len, [x] => match ta[0]? with
    | some T => (lenA C.P σ T x).map (·, σ)
    | none => none
  | .append, [x, y] => appendA C.P base σ ta.toList x y
  | .copy, [x, y] => match ta[0]? with
    | some T => copyA C.P base σ T x y
    | none => none
  | .max, x :: r => (foldA maxA x r).map (·, σ)
  | .min, x :: r => (foldA minA x r).map (·, σ)
  | _, _ => none

/-- A row of the call's own against nil. -/
def ownNil (P : Program) (σ : Heap) (op : BinOp) (T : TypeId) (x : AV) (y : Operand) : Option AV :=
  match x, y with
  | .own r ver _ _, .const (.slice none 0 0) => match rowAt σ r ver, P.underlying T with
    | some _, some (.slice _) => match op with
      | .eql => some (.bool false)
      | .neq => some (.bool true)
      | _ => none
    | _, _ => none
  | _, _ => none

/-- One operation that is no call of a function. -/
def opA (C : Ctx) (base : Nat) (env : Env) (σ : Heap) (o : Oper) : Option (AV × Heap) :=
  match o.op with
  | .move x => some (evA C env x, σ)
  | .assign x => some (evA C env x, σ)
  | .pick c a b => match evA C env c with
    | .bool true => some (evA C env a, σ)
    | .bool false => some (evA C env b, σ)
    | _ => none
  | .alloc T => allocA C.P σ T
  | .box _ x => boxA σ (evA C env x)
  | .build T parts => (buildA C.P σ T (parts.toList.map fun p => (p.1, evA C env p.2))).map (·, σ)
  | .buildSlice T len parts => (buildSliceA C.P σ T len (parts.toList.map fun p => (p.1, evA C env p.2))).map (·, σ)
  | .load T x => (loadA C.P σ T (evA C env x)).map (·, σ)
  | .store T a v => (storeA C.P base σ T (evA C env a) (evA C env v)).map fun σ' => (.undef, σ')
  | .nilCheck x => (nilCheckA σ (evA C env x)).map (·, σ)
  | .binOp op T x y _ => match ownNil C.P σ op T (evA C env x) y with
    | some v => some (v, σ)
    | none => (binA C.P op T (isConst x || isConst y) (evA C env x) (evA C env y)).map (·, σ)
  | .unOp op _ x => (unA op (evA C env x)).map (·, σ)
  | .convert s d x => (convA C.P σ s d (evA C env x)).map (·, σ)
  | .makeInterface T x => (makeIfaceA C.P T (evA C env x)).map (·, σ)
  | .makeFunc fn first cap => some (.func fn (first.toList.map (evA C env)) (cap.toList.map (evA C env)), σ)
  | .makeMap T r => makeMapA C.P σ T (r.map (evA C env))
  | .makeSlice T l c => makeSliceA C.P σ T (evA C env l) (evA C env c)
  | .slice T x lo hi mx => (sliceA C.P σ T (evA C env x) (lo.map (evA C env)) (hi.map (evA C env)) (mx.map (evA C env))).map (·, σ)
  | .fieldAddr T x f => (fieldAddrA C.P σ T (evA C env x) f).map (·, σ)
  | .field T x f => (fieldA C.P T (evA C env x) f).map (·, σ)
  | .indexAddr T x i => (indexAddrA C.P σ T (evA C env x) (evA C env i)).map (·, σ)
  | .index T x i => (indexA C.P T (evA C env x) (evA C env i)).map (·, σ)
  | .lookup T x i ok => (lookupA C.P σ T (evA C env x) (evA C env i) ok).map (·, σ)
  | .mapUpdate T m k v => (mapUpdateA C.P base σ T (evA C env m) (evA C env k) (evA C env v)).map fun σ' => (.undef, σ')
  | .insert T m k v => (mapUpdateA C.P base σ T (evA C env m) (evA C env k) (evA C env v)).map fun σ' => (.undef, σ')
  | .range T x => rangeA C.P σ T (evA C env x)
  | .next it s => nextA σ (evA C env it) s
  | .typeAssert x _ asserted ok => (assertA C.P (evA C env x) asserted ok).map (·, σ)
  | .extract t i => (extractA (evA C env t) i).map (·, σ)
  | .call c => match c.callee with
    | .builtin b => builtinA C base σ b c.argTypes (c.args.toList.map (evA C env))
    | _ => none
  | _ => none

section
variable {C : Ctx} {ρ : Map} {σ : Heap} {w : World}

/-- What an operation must show. -/
def RetN (base : Nat) (ρ : Map) (σ : Heap) (w : World) (av : AV) (σ' : Heap) (r : Result Next) : Prop :=
  ∃ ρ' w', Step base ρ σ w ρ' σ' w' ∧ ((∃ v, r = .ok (.value v) w' ∧ VRel ρ' σ' w' av v) ∨ (r = .ok .skip w' ∧ av = .undef))

theorem RetN.of_ret {base : Nat} {av : AV} {σ' : Heap} {s : Sem Value} (h : Ret base ρ σ w av σ' (s.run C.P w)) : RetN base ρ σ w av σ' ((do pure (.value (← s)) : Sem Next).run C.P w) := by
  obtain ⟨ρ', w', v, h1, h2, h3⟩ := h
  exact ⟨ρ', w', h3, .inl ⟨v, by simp [h1], h2⟩⟩

theorem RetN.same {base : Nat} (hs : Sim ρ σ w) (hc : Closed base σ) {av : AV} {s : Sem Value} (h : ∃ v, s.run C.P w = .ok v w ∧ VRel ρ σ w av v) : RetN base ρ σ w av σ ((do pure (.value (← s)) : Sem Next).run C.P w) :=
  .of_ret (.same hs hc h)

theorem lrel_ev (hg : GRel C ρ σ w) {env : Env} {a : Act} (he : EnvRel ρ σ w env a) : ∀ (l : List Operand), LRel ρ σ w (l.map (evA C env)) (l.map a.eval)
  | [] => rfl
  | x :: l => ⟨_, _, rfl, evA_ok hg he x, lrel_ev hg he l⟩
theorem prel_ev (hg : GRel C ρ σ w) {env : Env} {a : Act} (he : EnvRel ρ σ w env a) : ∀ (l : List (Nat × Operand)), PRel ρ σ w (l.map fun p => (p.1, evA C env p.2)) (l.map fun p => (p.1, a.eval p.2))
  | [] => rfl
  | x :: l => ⟨_, _, rfl, evA_ok hg he x.2, prel_ev hg he l⟩
theorem orel_ev (hg : GRel C ρ σ w) {env : Env} {a : Act} (he : EnvRel ρ σ w env a) (o : Option Operand) : ORel ρ σ w (o.map (evA C env)) (o.map a.eval) := by
  cases o with
  | none => trivial
  | some x => exact evA_ok hg he x

theorem nilCheckA_ok {x av : AV} {v : Value} (hv : VRel ρ σ w x v) (h : nilCheckA σ x = some av) : av = x ∧
    ((∃ a, v = .pointer (some a)) ∨ (∃ f a b, v = .func (.func f) a b) ∨ ∃ t u, v = .iface t u) := by
  unfold nilCheckA at h
  split at h
  · cases h; obtain ⟨rfl, _⟩ := hv; exact ⟨rfl, .inl ⟨_, rfl⟩⟩
  · cases h; obtain ⟨a, rfl, _⟩ := hv; exact ⟨rfl, .inl ⟨_, rfl⟩⟩
  · split at h
    · rename_i hr
      cases h
      obtain ⟨⟨sz, xs⟩, hr⟩ := Option.isSome_iff_exists.1 hr
      obtain ⟨_, rfl⟩ := prow_row hv (rowAt_some hr); exact ⟨rfl, .inl ⟨_, rfl⟩⟩
    · cases h
  · cases h; obtain ⟨vs, us, rfl, _⟩ := hv; exact ⟨rfl, .inr (.inl ⟨_, _, _, rfl⟩)⟩
  · cases h; obtain ⟨u, rfl, _⟩ := hv; exact ⟨rfl, .inr (.inr ⟨_, _, rfl⟩)⟩
  · cases h

theorem builtinA_ok {base : Nat} (hs : Sim ρ σ w) (hc : Closed base σ) (hb : base ≤ σ.length) {b : Builtin} {ta : Array TypeId} {ty : TypeId} {cs : Array Bool} {args : List AV} {vs : List Value} {av : AV} {σ' : Heap}
    (hl : LRel ρ σ w args vs) (h : builtinA C base σ b ta args = some (av, σ')) : RetN base ρ σ w av σ' ((builtin b ta ty cs vs.toArray).run C.P w) := by
  unfold builtinA at h
  split at h
  · rename_i x
    obtain ⟨v, _, rfl, hv, rfl⟩ := hl
    split at h
    · rename_i T hT
      simp only [Option.map_eq_some_iff] at h
      obtain ⟨y, hy, he⟩ := h
      cases he
      exact .same hs hc (lenA_ok hs hT hv hy)
    · cases h
  · rename_i x y
    obtain ⟨v, _, rfl, hv, u, _, rfl, hu, rfl⟩ := hl
    exact .of_ret (appendA_ok hs hc hb hv hu h)
  · rename_i x y
    obtain ⟨v, _, rfl, hv, u, _, rfl, hu, rfl⟩ := hl
    split at h
    · rename_i T hT
      exact .of_ret (copyA_ok hs hc hT hv hu h)
    · cases h
  · rename_i x r
    obtain ⟨v, vs, rfl, hv, hl⟩ := hl
    simp only [Option.map_eq_some_iff] at h
    obtain ⟨y, hy, he⟩ := h
    cases he
    exact .same hs hc (foldA_ok (P := C.P) (g := Builtin.max2) (fun _ _ _ _ _ h1 h2 h3 => max2_ok h1 h2 h3) r vs x av v hv hl hy)
  · rename_i x r
    obtain ⟨v, vs, rfl, hv, hl⟩ := hl
    simp only [Option.map_eq_some_iff] at h
    obtain ⟨y, hy, he⟩ := h
    cases he
    exact .same hs hc (foldA_ok (P := C.P) (g := Builtin.min2) (fun _ _ _ _ _ h1 h2 h3 => min2_ok h1 h2 h3) r vs x av v hv hl hy)
  · cases h

theorem ownNil_ok {op : BinOp} {T : TypeId} {x : Operand} {ax av : AV} {vx : Value} {y : Operand} {a : Act} (hx : VRel ρ σ w ax vx) (h : ownNil C.P σ op T ax y = some av) :
    ∃ v, ((do eqGuard op T x y vx (a.eval y); binOp op T vx (a.eval y)) : Sem Value).run C.P w = .ok v w ∧ VRel ρ σ w av v := by
  unfold ownNil at h
  split at h
  · rename_i r ver off len
    split at h
    · rename_i q e hr hu
      obtain ⟨sz, xs⟩ := q
      obtain ⟨_, _, o', rfl, _⟩ := own_row hx (rowAt_some hr)
      have hg : (eqGuard op T x (.const (.slice none 0 0)) (.slice (some ⟨(ρ r).blk, o', none⟩) len ((ρ r).cap - off)) (.slice none 0 0)).run C.P w = .ok () w := run_eqGuard (fun e => by cases e) (fun _ _ e => by cases e)
      have he : (Op.equal T (.slice (some ⟨(ρ r).blk, o', none⟩) len ((ρ r).cap - off)) (.slice none 0 0)).run C.P w = .ok false w := by
        have key : ∀ D, (Op.equalIn (D + 1) T (.slice (some ⟨(ρ r).blk, o', none⟩) len ((ρ r).cap - off)) (.slice none 0 0)).run C.P w = .ok false w := fun D => by simp [Op.equalIn, run_und hu]
        obtain ⟨k, hk⟩ : ∃ k, Op.maxDepth = k + 1 := ⟨Op.maxDepth - 1, by decide⟩
        unfold Op.equal
        rw [hk]; exact key k
      simp only [Act.eval, Sem.run_bind, hg, Result.andThen_ok]
      split at h
      · cases h
        refine ⟨.bool false, ?_, rfl⟩
        rw [binOp_eql (by rfl)]
        simp [he]
      · cases h
        refine ⟨.bool true, ?_, rfl⟩
        rw [binOp_neq (by rfl)]
        simp [he]
      · cases h
    · cases h
  · cases h

theorem opA_ok {base : Nat} {env : Env} {a : Act} {o : Oper} {av : AV} {σ' : Heap} (hs : Sim ρ σ w) (hc : Closed base σ) (hb : base ≤ σ.length) (hg : GRel C ρ σ w) (he : EnvRel ρ σ w env a)
    (h : opA C base env σ o = some (av, σ')) : RetN base ρ σ w av σ' ((execOp a.eval o).run C.P w) := by
  have ev := fun x => evA_ok hg he x
  unfold opA at h
  unfold execOp
  split at h <;> rename_i hop <;> (try rw [hop]) <;> (try dsimp only)
  case h_1 => cases h; exact ⟨ρ, w, .refl hs hc, .inl ⟨_, rfl, ev _⟩⟩
  case h_2 => cases h; exact ⟨ρ, w, .refl hs hc, .inl ⟨_, rfl, ev _⟩⟩
  case h_3 c x y =>
    have hcv := ev c
    split at h
    · rename_i hcb
      rw [hcb] at hcv
      simp only [VRel] at hcv
      cases h; exact ⟨ρ, w, .refl hs hc, .inl ⟨_, by simp [hcv, asBool], ev _⟩⟩
    · rename_i hcb
      rw [hcb] at hcv
      simp only [VRel] at hcv
      cases h; exact ⟨ρ, w, .refl hs hc, .inl ⟨_, by simp [hcv, asBool], ev _⟩⟩
    · cases h
  case h_4 T => exact .of_ret (allocA_ok hs hc hb h)
  case h_5 T x => exact .of_ret (boxA_ok hs hc hb (ev x) h)
  case h_6 T parts =>
    simp only [Option.map_eq_some_iff] at h
    obtain ⟨y, hy, e⟩ := h; cases e
    have := buildA_ok (P := C.P) (prel_ev hg he parts.toList) hy
    have e : (parts.toList.map fun p => (p.1, a.eval p.2)).toArray = parts.map fun (i, x) => (i, a.eval x) := by
      apply Array.ext'; simp
    rw [e] at this
    exact .same hs hc this
  case h_7 T len parts =>
    simp only [Option.map_eq_some_iff] at h
    obtain ⟨y, hy, e⟩ := h; cases e
    have := buildSliceA_ok (P := C.P) hs hc (prel_ev hg he parts.toList) hy
    have e : (parts.toList.map fun p => (p.1, a.eval p.2)).toArray = parts.map fun (i, x) => (i, a.eval x) := by
      apply Array.ext'; simp
    rw [e] at this
    exact .of_ret this
  case h_8 T x =>
    simp only [Option.map_eq_some_iff] at h
    obtain ⟨y, hy, e⟩ := h; cases e
    exact .same hs hc (loadA_ok hs (ev x) hy)
  case h_9 T x y =>
    simp only [Option.map_eq_some_iff] at h
    obtain ⟨s, hy, e⟩ := h; cases e
    obtain ⟨w', h1, h2⟩ := storeA_ok hs hc (ev x) (ev y) hy
    exact ⟨ρ, w', h2, .inr ⟨by simp [h1], rfl⟩⟩
  case h_10 x =>
    simp only [Option.map_eq_some_iff] at h
    obtain ⟨y, hy, e⟩ := h; cases e
    obtain ⟨rfl, h2⟩ := nilCheckA_ok (ev x) hy
    refine ⟨ρ, w, .refl hs hc, .inl ⟨a.eval x, ?_, ev x⟩⟩
    rcases h2 with ⟨ad, h2⟩ | ⟨f, p, q, h2⟩ | ⟨t, u, h2⟩ <;> rw [h2] <;> rfl
  case h_11 op T x y yt =>
    split at h
    · rename_i v hy
      cases h
      exact .same hs hc (ownNil_ok (ev x) hy)
    simp only [Option.map_eq_some_iff] at h
    obtain ⟨z, hy, e⟩ := h; cases e
    exact .same hs hc (binA_ok (ev x) (ev y) hy)
  case h_12 op T x =>
    simp only [Option.map_eq_some_iff] at h
    obtain ⟨y, hy, e⟩ := h; cases e
    exact .same hs hc (unA_ok (ev x) hy)
  case h_13 s d x =>
    simp only [Option.map_eq_some_iff] at h
    obtain ⟨y, hy, e⟩ := h; cases e
    exact .of_ret (convA_ok hs hc (ev x) hy)
  case h_14 T x =>
    simp only [Option.map_eq_some_iff] at h
    obtain ⟨y, hy, e⟩ := h; cases e
    exact .same hs hc (makeIfaceA_ok (ev x) hy)
  case h_15 fn first cap =>
    cases h
    refine ⟨ρ, w, .refl hs hc, .inl ⟨_, by simp [Instr.makeFunc]; rfl, first.toList.map a.eval, cap.toList.map a.eval, ?_, lrel_ev hg he _, lrel_ev hg he _⟩⟩
    congr 1 <;> (apply Array.ext'; simp)
  case h_16 T r => exact .of_ret (makeMapA_ok hs hc hb (orel_ev hg he r) h)
  case h_17 T l c => exact .of_ret (makeSliceA_ok hs hc hb (ev l) (ev c) h)
  case h_18 T x lo hi mx =>
    simp only [Option.map_eq_some_iff] at h
    obtain ⟨y, hy, e⟩ := h; cases e
    exact .same hs hc (sliceA_ok hs (ev x) (orel_ev hg he lo) (orel_ev hg he hi) (orel_ev hg he mx) hy)
  case h_19 T x f =>
    simp only [Option.map_eq_some_iff] at h
    obtain ⟨y, hy, e⟩ := h; cases e
    exact .same hs hc (fieldAddrA_ok (ev x) hy)
  case h_20 T x f =>
    simp only [Option.map_eq_some_iff] at h
    obtain ⟨y, hy, e⟩ := h; cases e
    exact .same hs hc (fieldA_ok (ev x) hy)
  case h_21 T x i =>
    simp only [Option.map_eq_some_iff] at h
    obtain ⟨y, hy, e⟩ := h; cases e
    exact .same hs hc (indexAddrA_ok hs (ev x) (ev i) hy)
  case h_22 T x i =>
    simp only [Option.map_eq_some_iff] at h
    obtain ⟨y, hy, e⟩ := h; cases e
    exact .same hs hc (indexA_ok (ev x) (ev i) hy)
  case h_23 T x i ok =>
    simp only [Option.map_eq_some_iff] at h
    obtain ⟨y, hy, e⟩ := h; cases e
    exact .same hs hc (lookupA_ok hs (ev x) (ev i) hy)
  case h_24 T m k v =>
    simp only [Option.map_eq_some_iff] at h
    obtain ⟨s, hy, e⟩ := h; cases e
    obtain ⟨w', h1, h2⟩ := mapUpdateA_ok hs hc (ev m) (ev k) (ev v) hy
    exact ⟨ρ, w', h2, .inr ⟨by simp [h1], rfl⟩⟩
  case h_25 T m k v =>
    simp only [Option.map_eq_some_iff] at h
    obtain ⟨s, hy, e⟩ := h; cases e
    obtain ⟨w', h1, h2⟩ := mapUpdateA_ok hs hc (ev m) (ev k) (ev v) hy
    exact ⟨ρ, w', h2, .inr ⟨by simp [h1], rfl⟩⟩
  case h_26 T x => exact .of_ret (rangeA_ok hs hc hb (ev x) h)
  case h_27 it s => exact .of_ret (nextA_ok hs hc (ev it) h)
  case h_28 x xt asserted ok =>
    simp only [Option.map_eq_some_iff] at h
    obtain ⟨y, hy, e⟩ := h; cases e
    exact .same hs hc (assertA_ok (ev x) hy)
  case h_29 t i =>
    simp only [Option.map_eq_some_iff] at h
    obtain ⟨y, hy, e⟩ := h; cases e
    exact .same hs hc (extractA_ok (ev t) hy)
  case h_30 c =>
    split at h
    · rename_i b hcb
      have hl := lrel_ev hg he c.args.toList
      have := builtinA_ok (C := C) (ty := o.type) (cs := c.args.map fun | .const _ => true | _ => false) hs hc hb hl h
      have e : (c.args.toList.map a.eval).toArray = c.args.map a.eval := by apply Array.ext'; simp
      rw [e] at this
      simp only [resolve, hcb, Sem.run_bind, Sem.run_pure, Result.andThen_ok, invoke]
      exact this
    · cases h
  case h_31 => cases h
end
end Go.Abs
