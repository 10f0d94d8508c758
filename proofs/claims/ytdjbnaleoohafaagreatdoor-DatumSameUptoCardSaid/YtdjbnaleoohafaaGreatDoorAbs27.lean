/-
  AN ABSTRACT SEMANTICS, 27: functions that defer, run.
-/
import Derived.Test.YtdjbnaleoohafaaGreatDoorAbs26
namespace Go.Abs
open Go Go.RowKit
noncomputable section

section
variable (C : Ctx) (callee : Callee)

abbrev DRes := Option (AExit × List ADef × TM × Heap)

def isDefer (o : Oper) : Bool := match o.op with
  | .defer _ => true
  | _ => false
def isRecover (o : Oper) : Bool := match o.op with
  | .call { callee := .builtin .recover, .. } => true
  | _ => false

def goodB (f : FuncId) : Bool := goodFn C.P f

def runOpsD (ops : Array Oper) : List Oper → List ADef → TM → Heap → DRes
  | [], ds, env, σ => some (.normal, ds, env, σ)
  | o :: rest, ds, env, σ => match wantA ops o env.get with
    | some true => match o.op with
      | .defer { callee := .value fo, args, .. } => match evA C env.get fo with
        | .func (.func f) first cap => if goodFn C.P f = true then runOpsD ops rest (⟨f, first ++ args.toList.map (evA C env.get) ++ cap⟩ :: ds) (env.putO o.dst .undef) σ else none
        | _ => none
      | _ => match runOp C callee o env.get σ with
        | some (.val v σ') => runOpsD ops rest ds (env.putO o.dst v) σ'
        | _ => none
    | some false => runOpsD ops rest ds (env.putO o.dst (.tuple [])) σ
    | none => none

def keepD (ds : List ADef) (r : CRes) : DRes := match r with
  | some (ex, env, σ) => some (ex, ds, env, σ)
  | none => none

def runD (N : Nat) : Code → List ADef → TM → Heap → DRes
  | .seq a b, ds, env, σ => match runD N a ds env σ with
    | some (.normal, ds', env', σ') => runD N b ds' env' σ'
    | r => r
  | .region id ops false, ds, env, σ => if ops.toList.any isDefer = true then runOpsD C callee ops ops.toList ds env σ else keepD ds (runCode C callee N none (.region id ops false) env σ)
  | c, ds, env, σ => keepD ds (runCode C callee N none c env σ)

abbrev RRes := Option (AExit × AMode × TM × Heap)
def runOpsR (ops : Array Oper) : List Oper → AMode → TM → Heap → RRes
  | [], m, env, σ => some (.normal, m, env, σ)
  | o :: rest, m, env, σ => match wantA ops o env.get with
    | some true => match o.op with
      | .call { callee := .builtin .recover, .. } => match m with
        | .pan p => runOpsR ops rest (.rcv p) (env.putO o.dst p) σ
        | m => runOpsR ops rest m (env.putO o.dst .niliface) σ
      | _ => match runOp C callee o env.get σ with
        | some (.val v σ') => runOpsR ops rest m (env.putO o.dst v) σ'
        | _ => none
    | some false => runOpsR ops rest m (env.putO o.dst (.tuple [])) σ
    | none => none
def keepR (m : AMode) (r : CRes) : RRes := match r with
  | some (ex, env, σ) => some (ex, m, env, σ)
  | none => none
def runR (N : Nat) : Code → AMode → TM → Heap → RRes
  | .seq a b, m, env, σ => match runR N a m env σ with
    | some (.normal, m', env', σ') => runR N b m' env' σ'
    | r => r
  | .region id ops false, m, env, σ => if ops.toList.any isRecover = true then runOpsR C callee ops ops.toList m env σ else keepR m (runCode C callee N none (.region id ops false) env σ)
  | c, m, env, σ => keepR m (runCode C callee N none c env σ)

def isSome {α : Type} : Option α → Bool
  | some _ => true
  | none => false

def runDef (N : Nat) (f : FuncId) (args : List AV) (m : AMode) (σ : Heap) : Option (AMode × Heap) :=
  match C.P.funcs[f]? with
  | some fn => match fn.body with
    | some c => if args.length ≤ fn.ntmps then match runR C callee N c m (TM.ofArgs args) σ with
        | some (.normal, m', env', σ') => match resA C.P σ' env'.get fn.results.toList with
          | some _ => some (m', σ')
          | none => none
        | some (.ret, m', env', σ') => match resA C.P σ' env'.get fn.results.toList with
          | some _ => some (m', σ')
          | none => none
        | _ => none
      else none
    | none => none
  | none => none

def runLeaves (N : Nat) : List ADef → AMode → Heap → Option (AMode × Heap)
  | [], m, σ => some (m, σ)
  | d :: ds, m, σ => match runDef C callee N d.f d.args m σ with
    | some (m', σ') => runLeaves N ds (settleA m') σ'
    | none => none

def modeOf : AExit → Option AMode
  | .normal => some .ret
  | .ret => some .ret
  | .pan p => some (.pan p)
  | _ => none

def runFnD (N : Nat) (fn : Func) (args : List AV) (σ : Heap) : Option (AV × Heap) :=
  match fn.body with
  | some c => if args.length ≤ fn.ntmps then match runD C callee N c [] (TM.ofArgs args) σ with
      | some (ex, ds, env', σ₁) => match modeOf ex with
        | some m => match runLeaves C callee N ds m σ₁ with
          | some (.ret, σ') => endFn σ.length σ' (resA C.P σ' env'.get fn.results.toList)
          | some (.pan p, σ') => some (popA σ.length (.tuple [p]) σ')
          | _ => none
        | none => none
      | none => none
    else none
  | none => none
end

section
variable {C : Ctx} {callee : Callee}

theorem runOpsD_ok (hc : Good C callee) {ops : Array Oper} : ∀ (l : List Oper) (ds : List ADef) (env : TM) (σ : Heap) (ex : AExit) (ds' : List ADef) (env' : TM) (σ' : Heap), runOpsD C callee ops l ds env σ = some (ex, ds', env', σ') →
    ex = .normal ∧ aopsD C 0 ops l (fun d e s => d = ds' ∧ e = env'.get ∧ s = σ') ds env.get σ
  | [], ds, env, σ, ex, ds', env', σ', h => by
    simp only [runOpsD, Option.some.injEq, Prod.mk.injEq] at h
    obtain ⟨rfl, rfl, rfl, rfl⟩ := h
    exact ⟨rfl, rfl, rfl, rfl⟩
  | o :: rest, ds, env, σ, ex, ds', env', σ', h => by
    unfold runOpsD at h
    unfold aopsD
    split at h
    · rename_i hw
      rw [hw]
      simp only
      split at h
      · rename_i fo args ta hop
        rw [hop]
        simp only
        split at h
        · rename_i f first cap hf
          split at h
          · rename_i hg
            rw [hf]
            simp only
            obtain ⟨h1, h2⟩ := runOpsD_ok hc rest _ _ _ _ _ _ _ h
            refine ⟨h1, hg, ?_⟩
            rw [← TM.get_putO]; exact h2
          · cases h
        · cases h
      · rename_i hnd
        split at h
        · rename_i v s ho
          obtain ⟨h1, h2⟩ := runOpsD_ok hc rest _ _ _ _ _ _ _ h
          refine ⟨h1, ?_⟩
          split
          · rename_i hop; exact absurd hop (hnd _ _ _)
          · refine runOp_ok hc ho ?_
            rw [← TM.get_putO]; exact h2
        · cases h
    · rename_i hw
      rw [hw]
      simp only
      rw [← TM.get_putO]
      exact runOpsD_ok hc rest _ _ _ _ _ _ _ h
    · cases h

theorem keepD_ok (hc : Good C callee) {N : Nat} {c : Code} {ds : List ADef} {env : TM} {σ : Heap} {ex : AExit} {ds' : List ADef} {env' : TM} {σ' : Heap} (h : keepD ds (runCode C callee N none c env σ) = some (ex, ds', env', σ')) :
    ExecD C 0 c ds env.get σ ex ds' env'.get σ' := by
  unfold keepD at h
  split at h
  · rename_i ex0 e s hr
    cases h
    exact .plain ((runCode_ok hc N).1 _ _ _ _ _ _ hr)
  · cases h

theorem runD_ok (hc : Good C callee) {N : Nat} : ∀ (c : Code) (ds : List ADef) (env : TM) (σ : Heap) (ex : AExit) (ds' : List ADef) (env' : TM) (σ' : Heap), runD C callee N c ds env σ = some (ex, ds', env', σ') → ExecD C 0 c ds env.get σ ex ds' env'.get σ' := by
  intro c
  induction c with
  | seq a b iha ihb =>
    intro ds env σ ex ds' env' σ' h
    unfold runD at h
    split at h
    · rename_i ds1 e s hr
      exact .seq (iha _ _ _ _ _ _ _ hr) (ihb _ _ _ _ _ _ _ h)
    · rename_i hn
      exact .seqOut (iha _ _ _ _ _ _ _ h) (fun e => hn _ _ _ (e ▸ h))
  | region id ops d =>
    intro ds env σ ex ds' env' σ' h
    cases d with
    | false =>
      unfold runD at h
      split at h
      · obtain ⟨rfl, hr⟩ := runOpsD_ok hc _ _ _ _ _ _ _ _ h
        exact .region hr
      · exact keepD_ok hc h
    | true => exact keepD_ok hc h
  | _ => intro ds env σ ex ds' env' σ' h; exact keepD_ok hc h

theorem runOpsR_ok (hc : Good C callee) {ops : Array Oper} : ∀ (l : List Oper) (m : AMode) (env : TM) (σ : Heap) (ex : AExit) (m' : AMode) (env' : TM) (σ' : Heap), runOpsR C callee ops l m env σ = some (ex, m', env', σ') →
    ex = .normal ∧ aopsR C 0 ops l (fun d e s => d = m' ∧ e = env'.get ∧ s = σ') m env.get σ
  | [], m, env, σ, ex, m', env', σ', h => by
    simp only [runOpsR, Option.some.injEq, Prod.mk.injEq] at h
    obtain ⟨rfl, rfl, rfl, rfl⟩ := h
    exact ⟨rfl, rfl, rfl, rfl⟩
  | o :: rest, m, env, σ, ex, m', env', σ', h => by
    unfold runOpsR at h
    unfold aopsR
    split at h
    · rename_i hw
      rw [hw]
      simp only
      split at h
      · rename_i args ta hop
        rw [hop]
        simp only
        split at h
        · have := runOpsR_ok hc rest _ _ _ _ _ _ _ h
          rw [TM.get_putO] at this
          exact this
        · rename_i hnp
          have := runOpsR_ok hc rest _ _ _ _ _ _ _ h
          rw [TM.get_putO] at this
          cases m with
          | pan p => exact absurd rfl (hnp p)
          | _ => exact this
      · rename_i hnd
        split at h
        · rename_i v s ho
          obtain ⟨h1, h2⟩ := runOpsR_ok hc rest _ _ _ _ _ _ _ h
          refine ⟨h1, ?_⟩
          split
          · rename_i hop; exact absurd hop (hnd _ _)
          · refine runOp_ok hc ho ?_
            rw [← TM.get_putO]; exact h2
        · cases h
    · rename_i hw
      rw [hw]
      simp only
      rw [← TM.get_putO]
      exact runOpsR_ok hc rest _ _ _ _ _ _ _ h
    · cases h

theorem keepR_ok (hc : Good C callee) {N : Nat} {c : Code} {m : AMode} {env : TM} {σ : Heap} {ex : AExit} {m' : AMode} {env' : TM} {σ' : Heap} (h : keepR m (runCode C callee N none c env σ) = some (ex, m', env', σ')) :
    ExecR C 0 c m env.get σ ex m' env'.get σ' := by
  unfold keepR at h
  split at h
  · rename_i ex0 e s hr
    cases h
    exact .plain ((runCode_ok hc N).1 _ _ _ _ _ _ hr)
  · cases h

theorem runR_ok (hc : Good C callee) {N : Nat} : ∀ (c : Code) (m : AMode) (env : TM) (σ : Heap) (ex : AExit) (m' : AMode) (env' : TM) (σ' : Heap), runR C callee N c m env σ = some (ex, m', env', σ') → ExecR C 0 c m env.get σ ex m' env'.get σ' := by
  intro c
  induction c with
  | seq a b iha ihb =>
    intro m env σ ex m' env' σ' h
    unfold runR at h
    split at h
    · rename_i m1 e s hr
      exact .seq (iha _ _ _ _ _ _ _ hr) (ihb _ _ _ _ _ _ _ h)
    · rename_i hn
      exact .seqOut (iha _ _ _ _ _ _ _ h) (fun e => hn _ _ _ (e ▸ h))
  | region id ops d =>
    intro m env σ ex m' env' σ' h
    cases d with
    | false =>
      unfold runR at h
      split at h
      · obtain ⟨rfl, hr⟩ := runOpsR_ok hc _ _ _ _ _ _ _ _ h
        exact .region hr
      · exact keepR_ok hc h
    | true => exact keepR_ok hc h
  | _ => intro m env σ ex m' env' σ' h; exact keepR_ok hc h

theorem runDef_ok (hm : C.P.follows .mixedOrders = true) (hall : allOK C.P = true) (hc : Good C callee) {N : Nat} {f : FuncId} {args : List AV} {m m' : AMode} {σ σ' : Heap} (h : runDef C callee N f args m σ = some (m', σ')) : DefOK C 0 f args m σ m' σ' := by
  unfold runDef at h
  split at h
  · rename_i fn hf
    split at h
    · rename_i c hb
      split at h
      · rename_i ha
        split at h
        · rename_i m1 env' s hr
          split at h
          · rename_i r hres
            cases h
            have he := runR_ok hc _ _ _ _ _ _ _ _ hr
            rw [TM.get_ofArgs] at he
            exact def_ok hm hf hb (allOK_get hall hf hb).2 ha (Nat.zero_le _) he (.inl rfl) hres
          · cases h
        · rename_i m1 env' s hr
          split at h
          · rename_i r hres
            cases h
            have he := runR_ok hc _ _ _ _ _ _ _ _ hr
            rw [TM.get_ofArgs] at he
            exact def_ok hm hf hb (allOK_get hall hf hb).2 ha (Nat.zero_le _) he (.inr rfl) hres
          · cases h
        · cases h
      · cases h
    · cases h
  · cases h

theorem runLeaves_ok (hm : C.P.follows .mixedOrders = true) (hall : allOK C.P = true) (hc : Good C callee) {N : Nat} : ∀ (ds : List ADef) (m : AMode) (σ : Heap) (m' : AMode) (σ' : Heap), runLeaves C callee N ds m σ = some (m', σ') → LeavesA C 0 ds m σ m' σ'
  | [], m, σ, m', σ', h => by
    simp only [runLeaves, Option.some.injEq, Prod.mk.injEq] at h
    obtain ⟨rfl, rfl⟩ := h
    exact .nil
  | d :: ds, m, σ, m', σ', h => by
    unfold runLeaves at h
    split at h
    · rename_i m1 s1 hr
      exact .cons (runDef_ok hm hall hc hr) (runLeaves_ok hm hall hc ds _ _ _ _ h)
    · cases h

theorem runFnD_ok (hm : C.P.follows .mixedOrders = true) (hall : allOK C.P = true) (hc : Good C callee) {N : Nat} {f : FuncId} {fn : Func} (hf : C.P.funcs[f]? = some fn) {args : List AV} {σ σ' : Heap} {r : AV}
    (h : runFnD C callee N fn args σ = some (r, σ')) : FnOK C 0 f args σ r σ' := by
  unfold runFnD at h
  split at h
  · rename_i c hb
    split at h
    · rename_i ha
      split at h
      · rename_i ex ds env' s1 hr
        have he := runD_ok hc _ _ _ _ _ _ _ _ hr
        rw [TM.get_ofArgs] at he
        split at h
        · rename_i m hmo
          have hx : ((ex = .normal ∨ ex = .ret) ∧ m = .ret) ∨ ∃ p, ex = .pan p ∧ m = .pan p := by
            cases ex <;> simp [modeOf] at hmo <;> subst hmo <;> simp
          split at h
          · rename_i s2 hl
            have hl := runLeaves_ok hm hall hc _ _ _ _ _ hl
            unfold endFn at h
            split at h
            · rename_i r0 hr0
              split at h
              · rename_i hn
                have := (fnD_ok hm hf hb (allOK_get hall hf hb).2 ha (Nat.zero_le _) he hx hl (.inl ⟨rfl, hr0, hn⟩)).pop
                rwa [Option.some.inj h] at this
              · cases h
            · cases h
          · rename_i p s2 hl
            have hl := runLeaves_ok hm hall hc _ _ _ _ _ hl
            have := (fnD_ok (r := .tuple [p]) hm hf hb (allOK_get hall hf hb).2 ha (Nat.zero_le _) he hx hl (.inr ⟨p, rfl, rfl⟩)).pop
            rwa [Option.some.inj h] at this
          · cases h
        · cases h
      · cases h
    · cases h
  · cases h
end
end
end Go.Abs
