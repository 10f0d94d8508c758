/-
  AN ABSTRACT SEMANTICS, 25: the interpreter: code, functions.
-/
import Derived.Test.YtdjbnaleoohafaaGreatDoorAbs24c
namespace Go.Abs
open Go Go.RowKit
noncomputable section

/-- The objects that a call made go, if nothing leads to them. -/
def closedB (m : Nat) : Nat → Heap → Bool
  | 0, _ => true
  | _ + 1, [] => true
  | k + 1, o :: σ => o.refsB m && closedB m k σ

def dropTM (m : Nat) (t : TM) : TM := TM.rec (motive := fun _ => TM) .leaf (fun v _ _ l r => .node (Bool.rec (motive := fun _ => AV) .undef v (v.refsB m)) l r) t
theorem dropTM_get (m : Nat) : ∀ (t : TM), (dropTM m t).get = dropE m t.get := by
  intro t
  funext x
  induction t generalizing x with
  | leaf => simp [dropTM, dropE, TM.get_leaf, AV.refsB, refsBL]
  | node v l r ihl ihr =>
    have e : dropTM m (.node v l r) = .node (Bool.rec (motive := fun _ => AV) .undef v (v.refsB m)) (dropTM m l) (dropTM m r) := rfl
    rw [e]
    cases x with
    | zero =>
      rw [TM.get_zero]; unfold dropE; rw [TM.get_zero]
      cases v.refsB m <;> rfl
    | succ x =>
      rw [TM.get_succ, ihl, ihr]; unfold dropE; rw [TM.get_succ]
      split <;> rfl

def joinV (a b : AV) : AV := Bool.rec (motive := fun _ => AV) .undef a (a.beq b)
theorem joinV_ok (a b : AV) : joinV a b = .undef ∨ (joinV a b = a ∧ joinV a b = b) := by
  unfold joinV
  cases h : a.beq b with
  | false => exact .inl rfl
  | true => exact .inr ⟨rfl, AV.beq_eq _ _ h⟩
def joinLeaf : TM → TM
  | .leaf => .leaf
  | .node v l r => .node (joinV (.tuple []) v) (joinLeaf l) (joinLeaf r)
theorem joinLeaf_ok : ∀ (b : TM) (x : Nat), (joinLeaf b).get x = .undef ∨ ((joinLeaf b).get x = .tuple [] ∧ (joinLeaf b).get x = b.get x)
  | .leaf, x => .inr ⟨rfl, rfl⟩
  | .node v l r, x => by
    cases x with
    | zero => simp only [joinLeaf, TM.get_zero]; exact joinV_ok _ _
    | succ x =>
      simp only [joinLeaf, TM.get_succ]
      split
      · exact joinLeaf_ok l (x / 2)
      · exact joinLeaf_ok r (x / 2)
def joinTM : TM → TM → TM
  | .leaf, t => joinLeaf t
  | .node v l r, t => match t with
    | .leaf => .node (joinV v (.tuple [])) (joinTM l .leaf) (joinTM r .leaf)
    | .node v' l' r' => .node (joinV v v') (joinTM l l') (joinTM r r')
theorem joinTM_ok : ∀ (a b : TM) (x : Nat), (joinTM a b).get x = .undef ∨ ((joinTM a b).get x = a.get x ∧ (joinTM a b).get x = b.get x)
  | .leaf, b, x => joinLeaf_ok b x
  | .node v l r, .leaf, x => by
    cases x with
    | zero => simp only [joinTM, TM.get_zero]; exact joinV_ok _ _
    | succ x =>
      simp only [joinTM, TM.get_succ]
      split
      · have := joinTM_ok l .leaf (x / 2); simpa only [TM.get_leaf] using this
      · have := joinTM_ok r .leaf (x / 2); simpa only [TM.get_leaf] using this
  | .node v l r, .node v' l' r', x => by
    cases x with
    | zero => simp only [joinTM, TM.get_zero]; exact joinV_ok _ _
    | succ x =>
      simp only [joinTM, TM.get_succ]
      split
      · exact joinTM_ok l l' (x / 2)
      · exact joinTM_ok r r' (x / 2)

def AExit.beq : AExit → AExit → Bool
  | .normal, .normal => true
  | .exit a, .exit b => decide (a = b)
  | .ret, .ret => true
  | .goto a, .goto b => decide (a = b)
  | .pan a, .pan b => a.beq b
  | _, _ => false
theorem AExit.beq_eq (a b : AExit) (h : a.beq b = true) : a = b := by
  cases a <;> cases b <;> simp [AExit.beq] at h <;> first | rfl | (subst h; rfl) | (rw [AV.beq_eq _ _ h])

def joinRes (r1 r2 : CRes) : CRes := match r1, r2 with
  | some (x1, e1, s1), some (x2, e2, s2) => if x1.beq x2 = true ∧ beqH s1 s2 = true then some (x1, joinTM e1 e2, s1) else none
  | _, _ => none
def forkC (go : List Nat → CRes) : List (List Nat) → CRes
  | [] => none
  | [o] => go o
  | o :: r => joinRes (go o) (forkC go r)
theorem forkC_ok {go : List Nat → CRes} : ∀ (l : List (List Nat)) (ex : AExit) (e : TM) (s : Heap), forkC go l = some (ex, e, s) → ∀ o ∈ l, ∃ e2, go o = some (ex, e2, s) ∧ ∀ x, e.get x = .undef ∨ e.get x = e2.get x
  | [], _, _, _, h, _, _ => by cases h
  | [o], ex, e, s, h, o', ho => by
    rw [List.mem_singleton] at ho; subst ho
    exact ⟨e, h, fun _ => .inr rfl⟩
  | o :: o2 :: r, ex, e, s, h, o', ho => by
    have h' : joinRes (go o) (forkC go (o2 :: r)) = some (ex, e, s) := h
    unfold joinRes at h'
    split at h'
    · rename_i x1 e1 s1 x2 e2 s2 h1 h2
      split at h'
      · rename_i hq
        obtain ⟨q1, q2⟩ := hq
        cases h'
        obtain rfl := AExit.beq_eq _ _ q1
        obtain rfl := beqH_eq _ _ q2
        rcases List.mem_cons.1 ho with rfl | ho
        · exact ⟨e1, h1, fun x => (joinTM_ok e1 e2 x).imp id (·.1)⟩
        · obtain ⟨e3, h3, h4⟩ := forkC_ok (o2 :: r) _ _ _ h2 o' ho
          refine ⟨e3, h3, fun x => ?_⟩
          rcases joinTM_ok e1 e2 x with h | ⟨_, h⟩
          · exact .inl h
          · rcases h4 x with h5 | h5
            · exact .inl (h.trans h5)
            · exact .inr (h.trans h5)
      · cases h'
    · cases h'

section
variable (C : Ctx) (callee : Callee)

def seqC (k : TM → Heap → CRes) (r : CRes) : CRes :=
  match r with
  | some (.normal, e, s) => k e s
  | r => r
def blockC (id : Nat) (r : CRes) : CRes :=
  match r with
  | some (.exit i, e, s) => if i = id then some (.normal, e, s) else some (.exit i, e, s)
  | r => r
def condC (x y : TM → Heap → CRes) (env : TM) (σ : Heap) (v : AV) : CRes :=
  match v.toBool? with
  | some true => x env σ
  | some false => y env σ
  | none => none
def regionC (ops : Array Oper) (d : Bool) (env : TM) (σ : Heap) : CRes :=
  match d with
  | false => runI C callee ops (prepL C ops ops.toList) env σ
  | true => runDrawn C callee ops env σ
def scopeC (whole : Code) (k : Code → TM → Heap → CRes) (r : CRes) : CRes :=
  match r with
  | some (.goto l, e, s) => match findLabel whole l with
    | some rest => k rest e s
    | none => some (.goto l, e, s)
  | r => r

/-- Operations in a given order. -/
def runOrd (ops : Array Oper) : List Nat → TM → Heap → Option (TM × Heap)
  | [], env, σ => some (env, σ)
  | i :: rest, env, σ => match ops[i]? with
    | none => runOrd ops rest env σ
    | some o => match wantA ops o env.get with
      | some true => match runOp C callee o env.get σ with
        | some (.val v σ') => runOrd ops rest (env.putO o.dst v) σ'
        | _ => none
      | some false => runOrd ops rest (env.putO o.dst (.tuple [])) σ
      | none => none
def forkOne (ops : Array Oper) (rest : TM → Heap → CRes) (env : TM) (σ : Heap) (ord : List Nat) : CRes :=
  match runOrd C callee ops ord env σ with
  | some (e1, s1) => if closedB σ.length σ.length s1 = true then rest (dropTM σ.length e1) (s1.take σ.length) else none
  | none => none
/-- A small region whose orders come to different things. -/
def forkOps (c : Code) : Option (Array Oper) := match c with
  | .region _ ops true => if ops.size = 4 ∧ drawStatic ops = false then some ops else none
  | _ => none

def bodyC (ih : Option Code → Code → TM → Heap → CRes) (c : Code) (env : TM) (σ : Heap) : CRes :=
  match c with
  | .skip => some (.normal, env, σ)
  | .label _ => some (.normal, env, σ)
  | .region _ ops d => regionC C callee ops d env σ
  | .seq a b => match forkOps a with
    | some ops => forkC (forkOne C callee ops (ih none b) env σ) (allOrders ops ops.size (Array.replicate ops.size false))
    | none => seqC (ih none b) (ih none a env σ)
  | .cond c x y => condC (ih none x) (ih none y) env σ ((argS C c).get env)
  | .block id b => blockC id (ih none b env σ)
  | .loop b => seqC (ih none (.loop b)) (ih none b env σ)
  | .exit id => some (.exit id, env, σ)
  | .goto l => some (.goto l, env, σ)
  | .ret => some (.ret, env, σ)
  | .scope b => ih (some b) b env σ
  | _ => none

/-- Runs code; within a scope: the whole of it ahead. -/
def runCode (n : Nat) : Option Code → Code → TM → Heap → CRes :=
  Nat.rec (motive := fun _ => Option Code → Code → TM → Heap → CRes) (fun _ _ _ _ => none)
    (fun _ ih sc c env σ => Option.rec (motive := fun _ => CRes) (bodyC C callee ih c env σ) (fun whole => scopeC whole (ih (some whole)) (ih none c env σ)) sc) n

theorem runCode_none (n : Nat) (c : Code) (env : TM) (σ : Heap) : runCode C callee (n + 1) none c env σ = bodyC C callee (runCode C callee n) c env σ := rfl
theorem runCode_some (n : Nat) (w c : Code) (env : TM) (σ : Heap) : runCode C callee (n + 1) (some w) c env σ = scopeC w (runCode C callee n (some w)) (runCode C callee n none c env σ) := rfl

/-- Does the value hold a row of the call's own? -/
def popA (m : Nat) (r : AV) (σ : Heap) : AV × Heap :=
  if σ.length = m then (r, σ)
  else if closedB m m σ = true then match r with
    | .own k ver off len => if m ≤ k then match σ[k]? with
        | some (.row ver' sz xs) => if ver' = ver ∧ refsBL m xs = true then (.own m ver off len, σ.take m ++ [.row ver sz xs]) else (r, σ)
        | _ => (r, σ)
      else (r, σ.take m)
    | r => match freezeA m σ r with
      | some r' => (r', σ.take m)
      | none => (r, σ)
  else (r, σ)

/-- A call's end: its result made plain. -/
def endFn (m : Nat) (σ' : Heap) (r : Option AV) : Option (AV × Heap) := match r with
  | some r => match panOf r with
    | none => some (popA m r σ')
    | some _ => none
  | none => none

def runFn (N : Nat) (fn : Func) (args : List AV) (σ : Heap) : Option (AV × Heap) :=
  match fn.body with
  | some c => if args.length ≤ fn.ntmps then match runCode C callee N none c (TM.ofArgs args) σ with
      | some (.normal, env', σ') => endFn σ.length σ' (resA C.P σ' env'.get fn.results.toList)
      | some (.ret, env', σ') => endFn σ.length σ' (resA C.P σ' env'.get fn.results.toList)
      | some (.pan p, _, σ') => some (popA σ.length (.tuple [p]) σ')
      | _ => none
    else none
  | none => none

/-- Runs a call. -/
def callF (X : Callee → Callee) (N : Nat) : Nat → Callee
  | 0, _, _, _ => none
  | n + 1, f, args, σ => match X (callF X N n) f args σ with
    | some r => some r
    | none => match C.P.funcs[f]? with
      | some fn => runFn C (callF X N n) N fn args σ
      | none => none
end

/-- Every function's text writes into slots that there are. -/
def allOK (P : Program) : Bool := P.funcs.toList.all fun fn => fn.name != "runtime.NumGoroutine" && match fn.body with
  | some c => codeOK fn.ntmps c
  | none => true

section
variable {C : Ctx} {callee : Callee}

theorem execL_of_loop {b : Code} {env : Env} {σ : Heap} {ex : AExit} {env' : Env} {σ' : Heap} (h : Exec C 0 (.loop b) env σ ex env' σ') : ExecL C 0 b env σ ex env' σ' := by
  cases h; assumption

theorem runOrd_ok (hc : Good C callee) {ops : Array Oper} : ∀ (l : List Nat) (env : TM) (σ : Heap) (env' : TM) (σ' : Heap), runOrd C callee ops l env σ = some (env', σ') → aopsI C 0 ops l (fun x e s => x = .normal ∧ e = env'.get ∧ s = σ') env.get σ
  | [], env, σ, env', σ', h => by
    simp only [runOrd, Option.some.injEq, Prod.mk.injEq] at h
    obtain ⟨rfl, rfl⟩ := h
    exact ⟨rfl, rfl, rfl⟩
  | i :: rest, env, σ, env', σ', h => by
    unfold runOrd at h
    unfold aopsI
    split at h
    · rename_i hi
      rw [hi]
      exact runOrd_ok hc rest _ _ _ _ h
    · rename_i o hi
      rw [hi]
      simp only
      split at h
      · rename_i hw
        rw [hw]
        split at h
        · rename_i v s ho
          refine runOp_ok hc ho ?_
          rw [← TM.get_putO]
          exact runOrd_ok hc rest _ _ _ _ h
        · cases h
      · rename_i hw
        rw [hw]
        simp only
        rw [← TM.get_putO]
        exact runOrd_ok hc rest _ _ _ _ h
      · cases h

theorem closedB_ok {m : Nat} : ∀ (k : Nat) (σ : Heap), closedB m k σ = true → ∀ r o, r < k → σ[r]? = some o → o.refsB m = true
  | 0, _, _, r, o, h, _ => by omega
  | k + 1, [], _, r, o, _, h => by simp at h
  | k + 1, x :: σ, h, r, o, hr, ho => by
    simp only [closedB, Bool.and_eq_true] at h
    cases r with
    | zero => simp at ho; subst ho; exact h.1
    | succ r => simp only [List.getElem?_cons_succ] at ho; exact closedB_ok k σ h.2 r o (by omega) ho

theorem forkOps_some {c : Code} {ops : Array Oper} (h : forkOps c = some ops) : ∃ id, c = .region id ops true := by
  unfold forkOps at h
  split at h
  · split at h
    · cases h; exact ⟨_, rfl⟩
    · cases h
  · cases h

theorem forkC_exec (hc : Good C callee) {id : Nat} {ops : Array Oper} {b : Code} {rest : TM → Heap → CRes} (ih : ∀ (env : TM) (σ : Heap) (ex : AExit) (env' : TM) (σ' : Heap), rest env σ = some (ex, env', σ') → Exec C 0 b env.get σ ex env'.get σ')
    {env : TM} {σ : Heap} {ex : AExit} {env' : TM} {σ' : Heap} (h : forkC (forkOne C callee ops rest env σ) (allOrders ops ops.size (Array.replicate ops.size false)) = some (ex, env', σ')) : Exec C 0 (.seq (.region id ops true) b) env.get σ ex env'.get σ' := by
  have key := forkC_ok _ _ _ _ h
  have one : ∀ ord, ord ∈ allOrders ops ops.size (Array.replicate ops.size false) → ∃ e1 s1 e2, runOrd C callee ops ord env σ = some (e1, s1) ∧ closedB σ.length σ.length s1 = true ∧ rest (dropTM σ.length e1) (s1.take σ.length) = some (ex, e2, σ') ∧
      forkOne C callee ops rest env σ ord = some (ex, e2, σ') ∧ ∀ x, env'.get x = .undef ∨ env'.get x = e2.get x := by
    intro ord ho
    obtain ⟨e2, h1, h2⟩ := key ord ho
    have h1' := h1
    unfold forkOne at h1
    split at h1
    · rename_i e1 s1 hr
      split at h1
      · rename_i hcl; exact ⟨e1, s1, e2, hr, hcl, h1, h1', h2⟩
      · cases h1
    · cases h1
  refine .fork (fun ord => match runOrd C callee ops ord env σ with
    | some p => p.1.get
    | none => fun _ => .undef) (fun ord => match forkOne C callee ops rest env σ ord with
    | some p => p.2.1.get
    | none => fun _ => .undef) (fun ord => match runOrd C callee ops ord env σ with
    | some p => p.2
    | none => []) ?_ ?_ ?_ ?_
  · intro ord ho
    obtain ⟨e1, s1, e2, h1, h2, h3, h4, h5⟩ := one ord ho
    rw [h1]; exact runOrd_ok hc _ _ _ _ _ h1
  · intro ord ho
    obtain ⟨e1, s1, e2, h1, h2, h3, h4, h5⟩ := one ord ho
    rw [h1]; exact closedB_ok _ _ h2
  · intro ord ho
    obtain ⟨e1, s1, e2, h1, h2, h3, h4, h5⟩ := one ord ho
    rw [h1, h4]
    simp only
    rw [← dropTM_get]; exact ih _ _ _ _ _ h3
  · intro ord ho
    obtain ⟨e1, s1, e2, h1, h2, h3, h4, h5⟩ := one ord ho
    rw [h4]; exact h5

theorem runCode_ok (hc : Good C callee) : ∀ (n : Nat),
    (∀ (c : Code) (env : TM) (σ : Heap) (ex : AExit) (env' : TM) (σ' : Heap), runCode C callee n none c env σ = some (ex, env', σ') → Exec C 0 c env.get σ ex env'.get σ') ∧
    (∀ (whole c : Code) (env : TM) (σ : Heap) (ex : AExit) (env' : TM) (σ' : Heap), runCode C callee n (some whole) c env σ = some (ex, env', σ') → ExecS C 0 whole c env.get σ ex env'.get σ')
  | 0 => ⟨fun c env σ ex env' σ' h => (by cases h), fun whole c env σ ex env' σ' h => (by cases h)⟩
  | n + 1 => by
    obtain ⟨ih, ihs⟩ := runCode_ok hc n
    constructor
    · intro c env σ ex env' σ' h
      rw [runCode_none] at h
      unfold bodyC at h
      split at h
      case h_1 => cases h; exact .skip
      case h_2 => cases h; exact .label
      case h_3 id ops d =>
        unfold regionC at h
        split at h
        · exact .lits (runOpsL_ok hc _ _ (Nat.le_refl _) _ _ _ _ _ (runI_ok _ _ (Nat.le_refl _) _ _ _ h))
        · exact runDrawn_ok rfl hc h
      case h_4 a b =>
        split at h
        · rename_i ops hf
          obtain ⟨id, rfl⟩ := forkOps_some hf
          exact forkC_exec hc (fun env σ ex env' σ' h => ih b env σ ex env' σ' h) h
        · unfold seqC at h
          split at h
          · rename_i e s hr; exact .seq (ih _ _ _ _ _ _ hr) (ih _ _ _ _ _ _ h)
          · rename_i hn
            exact .seqOut (ih _ _ _ _ _ _ h) (fun e => hn _ _ (e ▸ h))
      case h_5 x a b =>
        rw [argS_eq] at h
        unfold condC at h
        split at h
        · rename_i hv; exact .condT (toBool_some hv) (ih _ _ _ _ _ _ h)
        · rename_i hv; exact .condF (toBool_some hv) (ih _ _ _ _ _ _ h)
        · cases h
      case h_6 id b =>
        unfold blockC at h
        split at h
        · rename_i i e s hr
          split at h
          · rename_i hi; cases h; subst hi; exact .blockIn (ih _ _ _ _ _ _ hr)
          · rename_i hi; cases h; exact .blockOut (ih _ _ _ _ _ _ hr) (fun e => hi (by cases e; rfl))
        · rename_i hn
          exact .blockOut (ih _ _ _ _ _ _ h) (fun e => hn _ _ _ (e ▸ h))
      case h_7 b =>
        unfold seqC at h
        split at h
        · rename_i e s hr; exact .loop (.on (ih _ _ _ _ _ _ hr) (execL_of_loop (ih _ _ _ _ _ _ h)))
        · rename_i hn
          exact .loop (.out (ih _ _ _ _ _ _ h) (fun e => hn _ _ (e ▸ h)))
      case h_8 => cases h; exact .exit
      case h_9 => cases h; exact .goto
      case h_10 => cases h; exact .ret
      case h_11 b => exact .scope (ihs _ _ _ _ _ _ _ h)
      case h_12 => cases h
    · intro whole c env σ ex env' σ' h
      rw [runCode_some] at h
      unfold scopeC at h
      split at h
      · rename_i l e s hr
        split at h
        · rename_i rest hf; exact .jump (ih _ _ _ _ _ _ hr) hf (ihs _ _ _ _ _ _ _ h)
        · rename_i hf
          cases h
          exact .out (ih _ _ _ _ _ _ hr) (fun l' e => by cases e; exact hf)
      · rename_i hn
        exact .out (ih _ _ _ _ _ _ h) (fun l e => absurd (e ▸ h) (hn _ _ _))

theorem Post.take {ρ : Map} {σ σ' : Heap} {w w' : World} {r r' : AV} {e : Ending} (h : Post 0 ρ σ w r σ' e w') (hcl : closedB σ.length σ.length σ' = true) (hfz : freezeA σ.length σ' r = some r') : Post 0 ρ σ w r' (σ'.take σ.length) e w' := by
  obtain ⟨ρ', v, he, hv, hst⟩ := post_iff.1 h
  obtain ⟨b1, b2⟩ := freeze_body hfz
  refine post_iff.2 ⟨ρ', v, by rw [b2]; exact he, freezeA_ok hst.sim _ _ v b1 hv, ?_⟩
  exact ⟨hst.sim.take (fun i o hi ho => closedB_ok _ _ hcl i o hi ho), hst.ext.trans (Ext.take _ _ _ _), by rw [List.length_take]; exact Nat.le_min.2 ⟨Nat.le_refl _, hst.len⟩, fun b hb hcb i o hi ho => by omega⟩

theorem Post.move {ρ : Map} {σ σ' : Heap} {w w' : World} {k ver off len sz : Nat} {xs : List AV} {e : Ending} (h : Post 0 ρ σ w (.own k ver off len) σ' e w') (hcl : closedB σ.length σ.length σ' = true) (hk : σ.length ≤ k) (hrow : σ'[k]? = some (.row ver sz xs)) (hx : refsBL σ.length xs = true) :
    Post 0 ρ σ w (.own σ.length ver off len) (σ'.take σ.length ++ [.row ver sz xs]) e w' := by
  obtain ⟨ρ', v, he, hv, hst⟩ := h
  generalize hm : σ.length = m at *
  have hlen : m ≤ σ'.length := hm ▸ hst.len
  have htl : (σ'.take m).length = m := by rw [List.length_take]; omega
  have hget : ∀ i, i < m → (σ'.take m ++ [AObj.row ver sz xs])[i]? = σ'[i]? := fun i hi => by
    rw [List.getElem?_append_left (by omega), List.getElem?_take_of_lt hi]
  have hlast : (σ'.take m ++ [AObj.row ver sz xs])[m]? = some (.row ver sz xs) := by
    rw [List.getElem?_append_right (by omega), htl]; simp
  have hnone : ∀ i, m < i → (σ'.take m ++ [AObj.row ver sz xs])[i]? = none := fun i hi => by
    rw [List.getElem?_append_right (by omega), htl]
    rw [List.getElem?_eq_none]; simp; omega
  have hext : Ext m ρ' σ' w' (upd ρ' m (ρ' k)) (σ'.take m ++ [.row ver sz xs]) w' := by
    refine ⟨rfl, rfl, rfl, Nat.le_refl _, fun _ _ _ => rfl, fun b ⟨i, o, h1, h2, h3⟩ => .inl ?_, rfl, fun i hi => ?_⟩
    · rcases Nat.lt_trichotomy i m with h | rfl | h
      · rw [hget i h] at h1; rw [upd_other (by omega)] at h3; exact ⟨i, o, h1, h2, h3⟩
      · rw [hlast] at h1; cases h1; rw [upd_same] at h3; exact ⟨k, _, hrow, rfl, h3⟩
      · rw [hnone i h] at h1; cases h1
    · rw [hget i hi, upd_other (by omega)]; exact .refl _ _
  have hobj := hst.sim.obj k _ hrow
  have hsim : Sim (upd ρ' m (ρ' k)) (σ'.take m ++ [.row ver sz xs]) w' := by
    refine ⟨fun i o h1 => ?_, fun i j oi oj h1 h2 h3 h4 h5 => ?_, fb_ext hst.sim hext⟩
    · rcases Nat.lt_trichotomy i m with h | rfl | h
      · rw [hget i h] at h1
        exact (hst.sim.obj i o h1).keep hext (closedB_ok _ _ hcl i o h h1) (fun _ => upd_other (by omega)) (fun _ => rfl)
      · rw [hlast] at h1; cases h1
        obtain ⟨c, el, fz, f1, f2, f3, f4, f5, f6⟩ := hobj
        refine ⟨c, el, fz, ?_⟩
        rw [upd_same]
        exact ⟨f1, f2, f3, f4, f5, rrel_ext hext xs _ _ hx rfl f6⟩
      · rw [hnone i h] at h1; cases h1
    · have hlt : ∀ {i o}, (σ'.take m ++ [AObj.row ver sz xs])[i]? = some o → i ≤ m := fun {i o} h => by
        rcases Nat.lt_or_ge m i with h' | h'
        · rw [hnone i h'] at h; cases h
        · exact h'
      have hi := hlt h1
      have hj := hlt h2
      have old : ∀ {i o}, i < m → (σ'.take m ++ [AObj.row ver sz xs])[i]? = some o → o.alive = true → (ρ' i).blk = (ρ' k).blk → False := fun {i o} hi h ha hb => by
        rw [hget i hi] at h
        have := hst.sim.inj i k o _ h hrow ha rfl hb
        omega
      by_cases hi' : i = m
      · by_cases hj' : j = m
        · omega
        · subst hi'
          rw [upd_same, upd_other hj'] at h5
          exact (old (by omega) h2 h4 h5.symm).elim
      · rw [upd_other hi'] at h5
        by_cases hj' : j = m
        · subst hj'
          rw [upd_same] at h5
          exact (old (by omega) h1 h3 h5).elim
        · rw [upd_other hj'] at h5
          rw [hget i (by omega)] at h1
          rw [hget j (by omega)] at h2
          exact hst.sim.inj i j oi oj h1 h2 h3 h4 h5
  refine ⟨upd ρ' m (ρ' k), v, he, ?_, hsim, ?_, ?_, fun b hb hcb i o hi ho => by omega⟩
  · obtain ⟨ver', sz', xs', h1, h2, h3⟩ := hv
    refine ⟨ver, sz, xs, .inl hlast, Nat.le_refl _, fun _ _ => ?_⟩
    rcases h1 with h1 | h1
    · have := hrow.symm.trans h1
      cases this
      have := h3 hrow rfl
      rw [upd_same]; exact this
    · rw [hrow] at h1; cases h1
  · have := hst.ext
    rw [hm] at this ⊢
    exact this.trans hext
  · rw [List.length_append, htl]; simp; omega

theorem FnOK.pop {f : FuncId} {args : List AV} {σ σ' : Heap} {r : AV} (h : FnOK C 0 f args σ r σ') : FnOK C 0 f args σ (popA σ.length r σ').1 (popA σ.length r σ').2 := by
  unfold popA
  split
  · exact h
  · split
    · rename_i hcl
      split
      · rename_i k ver off len
        split
        · rename_i hk
          split
          · rename_i ver' sz xs hrow
            split
            · rename_i hq
              obtain ⟨rfl, hx⟩ := hq
              intro ρ w vs hs hg hl
              exact (h ρ w vs hs hg hl).mono fun e w' hp => hp.move hcl hk hrow hx
            · exact h
          · exact h
        · rename_i hk
          intro ρ w vs hs hg hl
          refine (h ρ w vs hs hg hl).mono fun e w' hp => hp.take hcl ?_
          simp only [freezeA, if_neg hk]
      · split
        · rename_i r' hfz
          intro ρ w vs hs hg hl
          exact (h ρ w vs hs hg hl).mono fun e w' hp => hp.take hcl hfz
        · exact h
    · exact h

theorem allOK_get (h : allOK C.P = true) {f : FuncId} {fn : Func} {c : Code} (hf : C.P.funcs[f]? = some fn) (hb : fn.body = some c) : goodFn C.P f = true ∧ codeOK fn.ntmps c = true := by
  unfold allOK at h
  rw [List.all_eq_true] at h
  have := h fn (by have := Array.mem_of_getElem? hf; simpa using this)
  simp only [hb, Bool.and_eq_true] at this
  exact ⟨by simp [goodFn, hf, hb, this.1], this.2⟩

theorem runFn_ok (hm : C.P.follows .mixedOrders = true) (hall : allOK C.P = true) (hc : Good C callee) {N : Nat} {f : FuncId} {fn : Func} (hf : C.P.funcs[f]? = some fn) {args : List AV} {σ σ' : Heap} {r : AV}
    (h : runFn C callee N fn args σ = some (r, σ')) : FnOK C 0 f args σ r σ' := by
  unfold runFn at h
  split at h
  · rename_i c hb
    obtain ⟨_, hco⟩ := allOK_get hall hf hb
    have key : ∀ ex env' s, runCode C callee N none c (TM.ofArgs args) σ = some (ex, env', s) → ex = .normal ∨ ex = .ret → endFn σ.length s (resA C.P s env'.get fn.results.toList) = some (r, σ') → args.length ≤ fn.ntmps → FnOK C 0 f args σ r σ' := by
      intro ex env' s hr hx hres ha
      have he := (runCode_ok hc N).1 _ _ _ _ _ _ hr
      rw [TM.get_ofArgs] at he
      unfold endFn at hres
      split at hres
      · rename_i r0 hr0
        split at hres
        · rename_i hn
          have hfn := fn_ok hm hf hb hco ha (Nat.zero_le _) he hx hr0 hn
          have := hfn.pop
          rwa [Option.some.inj hres] at this
        · cases hres
      · cases hres
    split at h
    · rename_i ha
      split at h
      · rename_i env' s hr; exact key _ _ _ hr (.inl rfl) h ha
      · rename_i env' s hr; exact key _ _ _ hr (.inr rfl) h ha
      · rename_i p env' s hr
        have he := (runCode_ok hc N).1 _ _ _ _ _ _ hr
        rw [TM.get_ofArgs] at he
        have := (fn_pan hm hf hb hco ha (Nat.zero_le _) he).pop
        rwa [Option.some.inj h] at this
      · cases h
    · cases h
  · cases h

/-- Handlers of calls that are shown otherwise. -/
def GoodX (C : Ctx) (X : Callee → Callee) : Prop := ∀ callee, Good C callee → Good C (X callee)

theorem callF_ok (hm : C.P.follows .mixedOrders = true) (hall : allOK C.P = true) {X : Callee → Callee} (hX : GoodX C X) {N : Nat} : ∀ n, Good C (callF C X N n)
  | 0 => fun f args σ r σ' h => by simp [callF] at h
  | n + 1 => fun f args σ r σ' h => by
    have ih := callF_ok hm hall hX (N := N) n
    unfold callF at h
    split at h
    · rename_i x hx
      cases h
      exact hX _ ih _ _ _ _ _ hx
    · split at h
      · rename_i fn hf
        refine .inl ⟨?_, runFn_ok hm hall ih hf h⟩
        unfold runFn at h
        split at h
        · rename_i c hb; exact (allOK_get hall hf hb).1
        · cases h
      · cases h

/-- A closed call. -/
theorem pure_of_run (hm : C.P.follows .mixedOrders = true) (hall : allOK C.P = true) {X : Callee → Callee} (hX : GoodX C X) {N n : Nat} {f : FuncId} {fn : Func} (hf : C.P.funcs[f]? = some fn) {args : List AV} {r : AV}
    (h : runFn C (callF C X N n) N fn args [] = some (r, [])) : PureOK C f args r := runFn_ok hm hall (callF_ok hm hall hX n) hf h
end
end
end Go.Abs
