/-
  AN ABSTRACT SEMANTICS, 20: functions: a contract out of a body's run; results made plain.
-/
import Derived.Test.YtdjbnaleoohafaaGreatDoorAbs19
namespace Go.Abs
open Go Go.RowKit

mutual
/-- A result made plain: rows of the call's own become slices that stay; nothing leads to what goes. -/
def freezeA (m : Nat) (σ : Heap) : AV → Option AV
  | .own r ver off len => if m ≤ r then
      (match rowAt σ r ver with
      | some (_, xs) => if off + len ≤ xs.length ∧ refsBL m ((xs.drop off).take len) = true then some (.imm ((xs.drop off).take len) [] false) else none
      | none => none)
    else some (.own r ver off len)
  | .nils => some .nils
  | .imm xs _ _ => if refsBL m xs = true then some (.imm xs [] false) else none
  | .agg cs => (freezeL m σ cs).map .agg
  | .tuple cs => (freezeL m σ cs).map .tuple
  | .iface t v => (freezeA m σ v).map (.iface t)
  | .prow r ver i off => if r < m then some (.prow r ver i off) else none
  | .ptr o off => if o < m then some (.ptr o off) else none
  | .map o => if o < m then some (.map o) else none
  | .pimm cs => if refsBL m cs = true then some (.pimm cs) else none
  | .func f a b => if refsBL m a = true ∧ refsBL m b = true then some (.func f a b) else none
  | .undef => some .undef
  | .bool b => some (.bool b)
  | .int k n => some (.int k n)
  | .float k b => some (.float k b)
  | .str s => some (.str s)
  | .nilptr => some .nilptr
  | .nilmap => some .nilmap
  | .nilfunc => some .nilfunc
  | .niliface => some .niliface
def freezeL (m : Nat) (σ : Heap) : List AV → Option (List AV)
  | [] => some []
  | c :: cs => match freezeA m σ c, freezeL m σ cs with
    | some d, some ds => some (d :: ds)
    | _, _ => none
end

section
variable {m : Nat} {ρ : Map} {σ : Heap} {w : World}

theorem keep_take (av : AV) (v : Value) (hb : av.refsB m = true) (h : VRel ρ σ w av v) : VRel ρ (σ.take m) w av v := vrel_ext (Ext.take m ρ σ w) av v hb h

mutual
theorem freezeA_ok (hs : Sim ρ σ w) : ∀ (x y : AV) (v : Value), freezeA m σ x = some y → VRel ρ σ w x v → VRel ρ (σ.take m) w y v
  | .own r ver off len, y, v, h, hv => by
    simp only [freezeA] at h
    split at h
    · rename_i hm
      split at h
      · rename_i sz xs hr
        split at h
        · rename_i hq
          cases h
          have ho := rowAt_some hr
          obtain ⟨g1, g2, o', rfl, g4⟩ := own_row hv ho
          obtain ⟨c, el, fz, f1, f2, f3, f4, f5, f6⟩ := hs.obj r _ ho
          have hlen : ((xs.drop off).take len).length = len := by simp; omega
          have hnm : ¬ Mut ρ (σ.take m) (ρ r).blk := fun hmut => by
            rcases hmut with ⟨i, o, h1, h2, h3⟩ | hf
            case inr => exact (hs.fb _ hf).2 ⟨r, _, ho, rfl, rfl⟩
            have hlt := lt_of_some h1
            simp at hlt
            rw [List.getElem?_take_of_lt (by omega)] at h1
            have := hs.inj i r o _ h1 ho h2 rfl h3
            omega
          have key := vrel_imm (ρ := ρ) (σ := σ.take m) (w := w) (xs := (xs.drop off).take len) (sp := []) (full := false) (a := some ⟨(ρ r).blk, o', none⟩) (cap := (ρ r).cap - off) (by simp; omega) (fun h => by cases h) (by rw [hlen]; exact g2) (fun h => by cases h) (fun hne => by
            have hpos : 0 < len := by
              rcases Nat.eq_zero_or_pos len with h0 | h0
              · subst h0; simp at hne
              · exact h0
            refine ⟨(ρ r).blk, o', sz, rfl, hnm, (hs.obj r _ ho).lt rfl, ?_, ?_⟩
            · rw [List.append_nil]; exact unif_take (unif_drop f5)
            · rw [List.append_nil, g4 (by omega)]
              exact rrel_ext (Ext.take m ρ σ w) _ _ _ hq.2 rfl (rrel_sub f5 f6 off len hq.1))
          rwa [hlen] at key
        · cases h
      · cases h
    · rename_i hm
      cases h
      exact keep_take _ _ (by simp only [AV.refsB, decide_eq_true_eq]; omega) hv
  | .imm xs sp f, y, v, h, hv => by
    simp only [freezeA] at h
    split at h
    · rename_i hb
      cases h
      obtain ⟨a, cap, rfl, i1, i2, i3, i4, i5⟩ := imm_all hv
      refine vrel_imm (by simp; omega) (fun h => by cases h) i3 i4 (fun hne => ?_)
      have hne' : xs ++ sp ≠ [] := by simp at hne; simp [hne]
      obtain ⟨b, off, sz, g1, g2, g3, g4, g5⟩ := i5 hne'
      rw [unif_append, Bool.and_eq_true] at g4
      rw [rrel_append] at g5
      refine ⟨b, off, sz, g1, not_mut_ext (Ext.take m ρ σ w) g3 g2, g3, by rw [List.append_nil]; exact g4.1, ?_⟩
      rw [List.append_nil]
      exact rrel_ext (Ext.take m ρ σ w) _ _ _ hb rfl g5.1
    · cases h
  | .agg cs, y, v, h, hv => by
    simp only [freezeA, Option.map_eq_some_iff] at h
    obtain ⟨ds, hd, rfl⟩ := h
    obtain ⟨vs, rfl, hv⟩ := hv
    exact ⟨vs, rfl, freezeL_ok hs cs ds vs hd hv⟩
  | .tuple cs, y, v, h, hv => by
    simp only [freezeA, Option.map_eq_some_iff] at h
    obtain ⟨ds, hd, rfl⟩ := h
    obtain ⟨vs, rfl, hv⟩ := hv
    exact ⟨vs, rfl, freezeL_ok hs cs ds vs hd hv⟩
  | .iface t x, y, v, h, hv => by
    simp only [freezeA, Option.map_eq_some_iff] at h
    obtain ⟨d, hd, rfl⟩ := h
    obtain ⟨u, rfl, hv⟩ := hv
    exact ⟨u, rfl, freezeA_ok hs x d u hd hv⟩
  | .prow r ver i off, y, v, h, hv => by
    simp only [freezeA] at h
    split at h
    · cases h; exact keep_take _ _ (by simp only [AV.refsB, decide_eq_true_eq]; assumption) hv
    · cases h
  | .ptr o off, y, v, h, hv => by
    simp only [freezeA] at h
    split at h
    · cases h; exact keep_take _ _ (by simp only [AV.refsB, decide_eq_true_eq]; assumption) hv
    · cases h
  | .map o, y, v, h, hv => by
    simp only [freezeA] at h
    split at h
    · cases h; exact keep_take _ _ (by simp only [AV.refsB, decide_eq_true_eq]; assumption) hv
    · cases h
  | .pimm cs, y, v, h, hv => by
    simp only [freezeA] at h
    split at h
    · cases h; exact keep_take _ _ (by simp only [AV.refsB]; assumption) hv
    · cases h
  | .func f a b, y, v, h, hv => by
    simp only [freezeA] at h
    split at h
    · rename_i hq
      cases h; exact keep_take _ _ (by simp only [AV.refsB, Bool.and_eq_true]; exact hq) hv
    · cases h
  | .undef, y, v, h, hv | .nils, y, v, h, hv | .bool _, y, v, h, hv | .int _ _, y, v, h, hv | .float _ _, y, v, h, hv | .str _, y, v, h, hv | .nilptr, y, v, h, hv | .nilmap, y, v, h, hv | .nilfunc, y, v, h, hv | .niliface, y, v, h, hv => by
    simp only [freezeA, Option.some.injEq] at h; subst h; exact keep_take _ _ rfl hv
theorem freezeL_ok (hs : Sim ρ σ w) : ∀ (xs ys : List AV) (vs : List Value), freezeL m σ xs = some ys → LRel ρ σ w xs vs → LRel ρ (σ.take m) w ys vs
  | [], ys, vs, h, hv => by
    simp only [freezeL, Option.some.injEq] at h; subst h
    cases hv; rfl
  | c :: cs, ys, _, h, ⟨u, us, h1, h2, h3⟩ => by
    subst h1
    simp only [freezeL] at h
    split at h
    · rename_i d ds hd hds
      cases h
      exact ⟨u, us, rfl, freezeA_ok hs c d u hd h2, freezeL_ok hs cs ds us hds h3⟩
    · cases h
end
end

/-- The slots of a call when it begins. -/
def env0 (args : List AV) : Env := fun t => args.getD t (.tuple [])

def resOneA (P : Program) (σ : Heap) (env : Env) : ResultVar → Option AV
  | .tmp t => some (env t)
  | .cell a t => loadA P σ t (env a)
def resListA (P : Program) (σ : Heap) (env : Env) : List ResultVar → Option (List AV)
  | [] => some []
  | r :: rs => match resOneA P σ env r, resListA P σ env rs with
    | some x, some xs => some (x :: xs)
    | _, _ => none
/-- A call's result. -/
def resA (P : Program) (σ : Heap) (env : Env) (rs : List ResultVar) : Option AV :=
  match resListA P σ env rs with
  | some [x] => some x
  | some xs => some (.tuple xs)
  | none => none

section
variable {C : Ctx} {lo : Nat} {ρ : Map} {σ : Heap} {w : World}

def resF (tmps : Array Value) : ResultVar → Sem Value
  | .tmp t => pure (tmps.getD t undef)
  | .cell ad t => asAddr (tmps.getD ad undef) >>= fun x => loadVar t x
theorem results_eq (fn : Func) (tmps : Array Value) : results fn tmps = (do let vs ← fn.results.mapM (resF tmps); pure (if h : vs.size = 1 then vs[0] else .tuple vs)) := by
  unfold results
  have : (fun | .tmp t => pure (tmps.getD t undef) | .cell a t => do loadVar t (← asAddr (tmps.getD a undef)) : ResultVar → Sem Value) = resF tmps := by
    funext x; cases x <;> rfl
  rw [← this]; rfl
theorem resListA_ok (hs : Sim ρ σ w) {env : Env} {a : Act} (he : EnvRel ρ σ w env a) (g : ResultVar → Sem Value) (g1 : ∀ t, g (.tmp t) = pure (a.tmps.getD t undef)) (g2 : ∀ ad t, g (.cell ad t) = (asAddr (a.tmps.getD ad undef) >>= fun x => loadVar t x)) :
    ∀ (rs : List ResultVar) (xs : List AV), resListA C.P σ env rs = some xs → ∃ vs, (rs.mapM g).run C.P w = .ok vs w ∧ LRel ρ σ w xs vs
  | [], xs, h => by
    simp only [resListA, Option.some.injEq] at h; subst h
    exact ⟨[], rfl, rfl⟩
  | r :: rs, xs, h => by
    simp only [resListA] at h
    split at h
    · rename_i x ys hx hy
      cases h
      obtain ⟨vs, h1, h2⟩ := resListA_ok hs he g g1 g2 rs ys hy
      cases r with
      | tmp t =>
        simp only [resOneA, Option.some.injEq] at hx; subst hx
        refine ⟨a.tmps.getD t undef :: vs, ?_, _, _, rfl, he t, h2⟩
        rw [List.mapM_cons, g1]; simp only [Sem.run_bind, Sem.run_pure, Result.andThen_ok, h1]
      | cell ad t =>
        simp only [resOneA] at hx
        obtain ⟨u, h3, h4⟩ := loadA_ok (P := C.P) hs (he ad) hx
        refine ⟨u :: vs, ?_, _, _, rfl, h4, h2⟩
        rw [List.mapM_cons, g2]
        have h5 : (asAddr (a.tmps.getD ad undef) >>= fun x => loadVar t x).run C.P w = .ok u w := by
          unfold Instr.loadAt Instr.sureAddr at h3
          unfold asAddr
          cases hv : a.tmps.getD ad undef with
          | pointer o => cases o with
            | none => rw [hv] at h3; simp at h3
            | some ad' => rw [hv] at h3; exact h3
          | _ => rw [hv] at h3; simp at h3
        rw [Sem.run_bind, h5]
        simp only [Result.andThen_ok, Sem.run_bind, h1, Sem.run_pure]
    · cases h

theorem resA_ok (hs : Sim ρ σ w) {env : Env} {a : Act} (he : EnvRel ρ σ w env a) {fn : Func} {r : AV} (h : resA C.P σ env fn.results.toList = some r) :
    ∃ v, (results fn a.tmps).run C.P w = .ok v w ∧ VRel ρ σ w r v := by
  unfold resA at h
  have core : ∀ xs, resListA C.P σ env fn.results.toList = some xs → ∃ vs : List Value, (results fn a.tmps).run C.P w = .ok (if h : vs.toArray.size = 1 then vs.toArray[0] else .tuple vs.toArray) w ∧ LRel ρ σ w xs vs := by
    intro xs hx
    rw [results_eq]
    simp only [Sem.run_bind]
    rw [Array.mapM_eq_mapM_toList]
    obtain ⟨vs, h1, h2⟩ := resListA_ok (C := C) hs he (resF a.tmps) (fun _ => rfl) (fun _ _ => rfl) _ _ hx
    refine ⟨vs, ?_, h2⟩
    rw [Sem.run_map, h1]
    simp only [Result.andThen_ok, Sem.run_pure]
  split at h
  · rename_i x hx
    cases h
    obtain ⟨vs, h1, u, us, rfl, h2, rfl⟩ := core _ hx
    exact ⟨u, by rw [h1]; rfl, h2⟩
  · rename_i xs hn hx
    cases h
    obtain ⟨vs, h1, h2⟩ := core _ hx
    have hl := lrel_len h2
    refine ⟨.tuple vs.toArray, ?_, vs, rfl, h2⟩
    rw [h1, dif_neg]
    intro e
    simp at e
    rw [hl] at e
    match xs, e with
    | [x], _ => exact hn x rfl
  · cases h

theorem env0_rel {args : List AV} {vs : List Value} (h : LRel ρ σ w args vs) (n : Nat) : EnvRel ρ σ w (env0 args) { tmps := vs.toArray ++ Array.replicate (n - vs.toArray.size) undef, defers := [] } := by
  intro t
  have hl := lrel_len h
  unfold env0
  by_cases ht : t < args.length
  · obtain ⟨u, h1, h2⟩ := lrel_get h t args[t] (List.getElem?_eq_getElem ht)
    have e1 : args.getD t (.tuple []) = args[t] := by simp [List.getD, ht]
    have e2 : (vs.toArray ++ Array.replicate (n - vs.toArray.size) undef).getD t undef = u := by
      have : t < vs.length := by omega
      have hu : vs[t] = u := by rw [List.getElem?_eq_getElem this] at h1; exact Option.some.inj h1
      rw [Array.getD_eq_getD_getElem?, Array.getElem?_append_left (by simpa using this)]
      simp [h1]
    rw [e1, e2]; exact h2
  · have e1 : args.getD t (.tuple []) = .tuple [] := by simp [List.getD, List.getElem?_eq_none (by omega : args.length ≤ t)]
    have e2 : (vs.toArray ++ Array.replicate (n - vs.toArray.size) undef).getD t undef = undef := by
      rw [Array.getD_eq_getD_getElem?, Array.getElem?_append_right (by simp; omega), Array.getElem?_replicate]
      split <;> rfl
    rw [e1, e2]; exact ⟨[], rfl, rfl⟩

theorem freeze_other {m : Nat} {r r' : AV} (h : freezeA m σ r = some r') (hn : ∀ l, r ≠ .tuple l) : ∀ l, r' ≠ .tuple l := by
  intro l e
  subst e
  cases r with
  | tuple vs => exact hn _ rfl
  | own r ver off len =>
    simp only [freezeA] at h
    split at h
    · split at h
      · split at h <;> cases h
      · cases h
    · cases h
  | imm xs sp f => simp only [freezeA] at h; split at h <;> cases h
  | agg cs => simp [freezeA] at h
  | iface t v => simp [freezeA] at h
  | prow r ver i off => simp only [freezeA] at h; split at h <;> cases h
  | ptr o off => simp only [freezeA] at h; split at h <;> cases h
  | map o => simp only [freezeA] at h; split at h <;> cases h
  | pimm cs => simp only [freezeA] at h; split at h <;> cases h
  | func f a b => simp only [freezeA] at h; split at h <;> cases h
  | _ => simp [freezeA] at h

theorem panOf_other {r : AV} (h : ∀ l, r ≠ .tuple l) : panOf r = none := by
  unfold panOf
  split
  · exact absurd rfl (h _)
  · rfl

/-- To make plain keeps what ends. -/
theorem freeze_body {m : Nat} {r r' : AV} (h : freezeA m σ r = some r') : freezeA m σ (bodyOf r) = some (bodyOf r') ∧ ∀ v, endOf r' v = endOf r v := by
  have other : panOf r = none → panOf r' = none → freezeA m σ (bodyOf r) = some (bodyOf r') ∧ ∀ v, endOf r' v = endOf r v := fun h1 h2 => by
    unfold bodyOf endOf; rw [h1, h2]; exact ⟨h, fun _ => rfl⟩
  by_cases hn : ∃ l, r = .tuple l
  · obtain ⟨l, rfl⟩ := hn
    simp only [freezeA, Option.map_eq_some_iff] at h
    obtain ⟨l', hl, rfl⟩ := h
    match l, hl with
    | [], hl => simp only [freezeL, Option.some.injEq] at hl; subst hl; exact other rfl rfl
    | [x], hl =>
      simp only [freezeL] at hl
      split at hl
      · rename_i d ds h1 h2
        cases h2
        cases hl
        exact ⟨h1, fun _ => rfl⟩
      · cases hl
    | x :: y :: l, hl =>
      simp only [freezeL] at hl
      split at hl
      · rename_i d ds h1 h2
        split at h2
        · cases h2; cases hl; exact other rfl rfl
        · cases h2
      · cases hl
  · have h1 : ∀ l, r ≠ .tuple l := fun l e => hn ⟨l, e⟩
    exact other (panOf_other h1) (panOf_other (freeze_other h h1))

/-- A function's contract: its own objects stay. -/
theorem fn_ok (hm : C.P.follows .mixedOrders = true) {f : FuncId} {fn : Func} {c : Code} (hf : C.P.funcs[f]? = some fn) (hb : fn.body = some c) (hc : codeOK fn.ntmps c = true) {args : List AV} (ha : args.length ≤ fn.ntmps) (hlo : lo ≤ σ.length)
    {ex : AExit} {env' : Env} {σ' : Heap} {r : AV} (h : Exec C lo c (env0 args) σ ex env' σ') (hx : ex = .normal ∨ ex = .ret) (hr : resA C.P σ' env' fn.results.toList = some r) (hn : panOf r = none) : FnOK C lo f args σ r σ' := by
  intro ρ w vs hs hg hl
  have hlen := lrel_len hl
  refine calls_of_wp hf hb (wp_mono (exec_ok (nt := fn.ntmps) (ds := []) (ρ₀ := ρ) (σ₀ := σ) (w₀ := w) hm hlo h hc ρ w _ ⟨.refl hs, hg, env0_rel hl fn.ntmps, ?_, rfl⟩) fun e a' w' he => ?_)
  · simp; omega
  · obtain ⟨ρ', he, hst⟩ := he
    obtain ⟨v, h1, h2⟩ := resA_ok hst.step.sim hst.env hr
    have hp : Post lo ρ σ w r σ' (.returned v) w' := by unfold Post; rw [hn]; exact ⟨ρ', v, rfl, h2, hst.step⟩
    rcases hx with rfl | rfl
    · obtain rfl := he; exact ⟨hst.defers, v, h1, hp⟩
    · obtain rfl := he; exact ⟨hst.defers, v, h1, hp⟩

/-- A function that panics. -/
theorem fn_pan (hm : C.P.follows .mixedOrders = true) {f : FuncId} {fn : Func} {c : Code} (hf : C.P.funcs[f]? = some fn) (hb : fn.body = some c) (hc : codeOK fn.ntmps c = true) {args : List AV} (ha : args.length ≤ fn.ntmps) (hlo : lo ≤ σ.length)
    {env' : Env} {σ' : Heap} {p : AV} (h : Exec C lo c (env0 args) σ (.pan p) env' σ') : FnOK C lo f args σ (.tuple [p]) σ' := by
  intro ρ w vs hs hg hl
  have hlen := lrel_len hl
  refine calls_of_wp hf hb (wp_mono (exec_ok (nt := fn.ntmps) (ds := []) (ρ₀ := ρ) (σ₀ := σ) (w₀ := w) hm hlo h hc ρ w _ ⟨.refl hs, hg, env0_rel hl fn.ntmps, ?_, rfl⟩) fun e a' w' he => ?_)
  · simp; omega
  · obtain ⟨ρ', ⟨u, rfl, hv⟩, hst⟩ := he
    exact ⟨hst.defers, ρ', u, rfl, hv, hst.step⟩

/-- A function's contract: its own objects go, its result is made plain. -/
theorem FnOK.plain {f : FuncId} {args : List AV} {σ' : Heap} {r r' : AV} (h : FnOK C σ.length f args σ r σ') (hlo : lo ≤ σ.length) (hfz : freezeA σ.length σ' r = some r') : FnOK C lo f args σ r' (σ'.take σ.length) := by
  intro ρ w vs hs hg hl
  refine (h ρ w vs hs hg hl).mono fun e w' hp => ?_
  obtain ⟨ρ', v, he, hv, hst⟩ := post_iff.1 hp
  obtain ⟨b1, b2⟩ := freeze_body hfz
  refine post_iff.2 ⟨ρ', v, by rw [b2]; exact he, freezeA_ok hst.sim _ _ v b1 hv, ?_⟩
  have hcl : Closed σ.length σ' := hst.closed _ (Nat.le_refl _) fun i o hi ho => (hs.obj i o ho).refs
  refine ⟨hst.sim.take hcl, hst.ext.trans (Ext.take _ _ _ _), by rw [List.length_take]; exact Nat.le_min.2 ⟨Nat.le_refl _, hst.len⟩, fun b hb hcb i o hi ho => ?_⟩
  rw [List.getElem?_take_of_lt (by omega)] at ho
  exact hst.closed b (Nat.le_trans hb hlo) hcb i o hi ho
theorem fn_pop (hm : C.P.follows .mixedOrders = true) {f : FuncId} {fn : Func} {c : Code} (hf : C.P.funcs[f]? = some fn) (hb : fn.body = some c) (hc : codeOK fn.ntmps c = true) {args : List AV} (ha : args.length ≤ fn.ntmps) (hlo : lo ≤ σ.length)
    {ex : AExit} {env' : Env} {σ' : Heap} {r r' : AV} (h : Exec C σ.length c (env0 args) σ ex env' σ') (hx : ex = .normal ∨ ex = .ret) (hr : resA C.P σ' env' fn.results.toList = some r) (hn : panOf r = none) (hfz : freezeA σ.length σ' r = some r') :
    FnOK C lo f args σ r' (σ'.take σ.length) := (fn_ok hm hf hb hc ha (Nat.le_refl _) h hx hr hn).plain hlo hfz
end
end Go.Abs
