/-
  AN ABSTRACT SEMANTICS, 23: the interpreter: operations, regions.
-/
import Derived.Test.YtdjbnaleoohafaaGreatDoorAbs22
namespace Go.Abs
open Go Go.RowKit
noncomputable section

section
variable {C : Ctx} {lo : Nat} {env : Env} {σ : Heap}

/-- Does what an operation answers hang on what is owned? -/
def heapOp : Op → Bool
  | .binOp _ _ _ (.const (.slice none 0 0)) _ => true
  | .move _ | .assign _ | .pick .. | .binOp .. | .unOp .. | .makeInterface .. | .makeFunc .. | .field .. | .index .. | .typeAssert .. | .extract .. => false
  | _ => true

theorem ownNil_none {P : Program} {σ : Heap} {op : BinOp} {T : TypeId} {x : AV} {y : Operand} (h : y ≠ .const (.slice none 0 0)) : ownNil P σ op T x y = none := by
  unfold ownNil
  split
  · exact absurd rfl h
  · rfl

theorem opA_same {o : Oper} {v : AV} {σ' : Heap} (he : effOp o.op = false) (h : opA C lo env σ o = some (v, σ')) : σ' = σ := by
  unfold opA at h
  split at h
  case h_31 => cases h
  all_goals rename_i hop; rw [hop] at he; (try (simp only [effOp, Bool.true_eq_false] at he)); (try (cases h; rfl))
  case h_3 =>
    split at h <;> cases h <;> rfl
  case h_30 =>
    split at h
    · rename_i x c y b hb
      unfold builtinA at h
      obtain ⟨callee, args, argTypes⟩ := c
      simp only at hb h he
      subst hb
      split at h
      · split at h
        · simp only [Option.map_eq_some_iff] at h; obtain ⟨_, _, e⟩ := h; cases e; rfl
        · cases h
      · simp at he
      · simp at he
      · simp only [Option.map_eq_some_iff] at h; obtain ⟨_, _, e⟩ := h; cases e; rfl
      · simp only [Option.map_eq_some_iff] at h; obtain ⟨_, _, e⟩ := h; cases e; rfl
      · cases h
    · cases h
  case h_11 =>
    split at h
    · cases h; rfl
    · simp only [Option.map_eq_some_iff] at h
      obtain ⟨_, _, e⟩ := h
      cases e; rfl
  all_goals
    simp only [Option.map_eq_some_iff] at h
    obtain ⟨_, _, e⟩ := h
    cases e; rfl

theorem opA_free {o : Oper} {v : AV} {σ' : Heap} (hf : heapOp o.op = false) (h : opA C lo env σ o = some (v, σ')) (σ₂ : Heap) : opA C lo env σ₂ o = some (v, σ₂) := by
  unfold opA at h ⊢
  split at h
  case h_31 => cases h
  all_goals rename_i hop; rw [hop] at hf; (try (simp only [heapOp, Bool.true_eq_false] at hf)); (try (cases h; rfl))
  case h_3 =>
    split at h <;> cases h <;> rfl
  case h_11 op T x y yt =>
    have hy : y ≠ .const (.slice none 0 0) := fun e => by subst e; simp [heapOp] at hf
    rw [ownNil_none hy] at h ⊢
    simp only [Option.map_eq_some_iff] at h ⊢
    obtain ⟨u, hx, e⟩ := h
    cases e
    exact ⟨_, hx, rfl⟩
  all_goals
    simp only [Option.map_eq_some_iff] at h
    obtain ⟨_, hx, e⟩ := h
    cases e
    simp only [hx, Option.map_some]
end

abbrev Callee := FuncId → List AV → Heap → Option (AV × Heap)

/-- Which function a method of a type is: on the value itself. -/
def methodA (P : Program) (t : TypeId) (name : String) : Option FuncId :=
  match P.info? t with
  | some i => match i.methods.find? (·.name == name) with
    | some m => match m.func, m.path.toList with
      | some (f, pr), [] => match P.underlying t, pr with
        | some (.pointer _), true => some f
        | some (.pointer _), false => none
        | some _, false => some f
        | _, _ => none
      | _, _ => none
    | none => none
  | none => none

theorem methodA_ok {C : Ctx} {t : TypeId} {name : String} {f : FuncId} (h : methodA C.P t name = some f) : MethOK C t name f := by
  intro v w
  unfold methodA at h
  split at h
  · rename_i i hi
    split at h
    · rename_i m hm
      split at h
      · rename_i f' pr hf hp
        have key : (receiverAt t (.val v) pr (if m.path.isEmpty then some ((name.splitOn ".").getLastD name) else none)).run C.P w = .ok v w ∧ f' = f := by
          split at h
          · rename_i e hu
            cases h
            refine ⟨?_, rfl⟩
            simp [receiverAt, underlying, hu, Place.get]
          · cases h
          · rename_i d hn hu
            cases h
            refine ⟨?_, rfl⟩
            cases d <;> first | (exact absurd rfl (hn _)) | simp [receiverAt, underlying, hu, Place.get]
          · cases h
        obtain ⟨k1, rfl⟩ := key
        show (method (_ + 1) t v name).run C.P w = _
        unfold method
        simp only [typeInfo, hp, follow, hf, Sem.run_bind, run_program, Result.andThen_ok, hi, hm, Sem.run_pure, k1]
      · cases h
    · cases h
  · cases h

/-- What one operation comes to. -/
inductive OR where
  | val (v : AV) (σ : Heap)
  | pan (p : AV) (σ : Heap)
def ofCall (x : Option (AV × Heap)) : Option OR := match x with
  | some (r, σ) => match panOf r with
    | none => some (.val r σ)
    | some p => some (.pan p σ)
  | none => none
def ofOp (x : Option (AV × Heap)) : Option OR := match x with
  | some (r, σ) => some (.val r σ)
  | none => none
theorem ofCall_val {x : Option (AV × Heap)} {v : AV} {σ : Heap} (h : ofCall x = some (.val v σ)) : x = some (v, σ) ∧ panOf v = none := by
  unfold ofCall at h
  split at h
  · split at h
    · rename_i hp; cases h; exact ⟨rfl, hp⟩
    · cases h
  · cases h
theorem ofCall_pan {x : Option (AV × Heap)} {p : AV} {σ : Heap} (h : ofCall x = some (.pan p σ)) : x = some (.tuple [p], σ) := by
  unfold ofCall at h
  split at h
  · split at h
    · cases h
    · rename_i hp; cases h; rw [panOf_some hp]
  · cases h
theorem ofOp_val {x : Option (AV × Heap)} {v : AV} {σ : Heap} (h : ofOp x = some (.val v σ)) : x = some (v, σ) := by
  unfold ofOp at h
  split at h
  · cases h; rfl
  · cases h
theorem ofOp_pan {x : Option (AV × Heap)} {p : AV} {σ : Heap} (h : ofOp x = some (.pan p σ)) : False := by
  unfold ofOp at h
  split at h <;> cases h

abbrev CRes := Option (AExit × TM × Heap)

section
variable (C : Ctx) (callee : Callee)

def runOp (o : Oper) (env : Env) (σ : Heap) : Option OR :=
  match o.op with
  | .call { callee := .value fo, args, .. } => match evA C env fo with
    | .func (.func f) first cap => ofCall (callee f (first ++ args.toList.map (evA C env) ++ cap) σ)
    | _ => none
  | .call { callee := .invoke recv name, args, .. } => match evA C env recv with
    | .iface t v => match methodA C.P t name with
      | some f => ofCall (callee f (v :: args.toList.map (evA C env)) σ)
      | none => none
    | _ => none
  | .panic x => match evA C env x with
    | .iface t v => some (.pan (.iface t v) σ)
    | _ => none
  | _ => ofOp (opA C 0 env σ o)

def runOps (ops : Array Oper) : List Oper → TM → Heap → CRes
  | [], env, σ => some (.normal, env, σ)
  | o :: rest, env, σ => match wantA ops o env.get with
    | some true => match runOp C callee o env.get σ with
      | some (.val v σ') => runOps ops rest (env.putO o.dst v) σ'
      | some (.pan p σ') => some (.pan p, env, σ')
      | none => none
    | some false => runOps ops rest (env.putO o.dst (.tuple [])) σ
    | none => none

/-- The same, where literals of bytes are turned. -/
def runOpsL (ops : Array Oper) : List Oper → TM → Heap → CRes
  | [], env, σ => some (.normal, env, σ)
  | [o], env, σ => runOps C callee ops [o] env σ
  | o :: o' :: rest, env, σ => match litA C env.get σ o o' with
    | some (d, x) => runOpsL ops rest ((env.put d x).putO o'.dst x) σ
    | none => match wantA ops o env.get with
      | some true => match runOp C callee o env.get σ with
        | some (.val v σ') => runOpsL ops (o' :: rest) (env.putO o.dst v) σ'
        | some (.pan p σ') => some (.pan p, env, σ')
        | none => none
      | some false => runOpsL ops (o' :: rest) (env.putO o.dst (.tuple [])) σ
      | none => none

/-- In the text's order, with what each operation saw and left; up to a panic. -/
def runTr (ops : Array Oper) : List Oper → TM → Heap → Option (List (TM × AV × Heap) × Option AV × TM × Heap)
  | [], env, σ => some ([], none, env, σ)
  | o :: rest, env, σ => match wantA ops o env.get with
    | some true => match runOp C callee o env.get σ with
      | some (.val v σ') => match runTr ops rest (env.putO o.dst v) σ' with
        | some (tr, q, e, s) => some ((env, v, σ') :: tr, q, e, s)
        | none => none
      | some (.pan p σ') => some ([], some p, env, σ')
      | none => none
    | some false => match runTr ops rest (env.putO o.dst (.tuple [])) σ with
        | some (tr, q, e, s) => some ((env, .tuple [], σ) :: tr, q, e, s)
        | none => none
    | none => none
end

/-- Those pairs of a reading and a writing operation of which either may come first. -/
def drawPairsI (anc : List Nat) (i : Nat) (oi : Oper) : Nat → List Oper → List (Nat × Oper × Nat)
  | _, [] => []
  | e, oe :: r =>
    if effOp oi.op = false ∧ heapOp oi.op = true ∧ effOp oe.op = true ∧ ((e < i ∧ (anc.getD i 0).testBit e = false) ∨ (i < e ∧ (anc.getD e 0).testBit i = false)) then (i, oi, e) :: drawPairsI anc i oi (e + 1) r
    else drawPairsI anc i oi (e + 1) r
def drawPairsGo (anc : List Nat) (all : List Oper) : Nat → List Oper → List (Nat × Oper × Nat)
  | _, [] => []
  | i, oi :: r => drawPairsI anc i oi 0 all ++ drawPairsGo anc all (i + 1) r
def drawPairs (ops : List Oper) : List (Nat × Oper × Nat) := drawPairsGo (ancs ops) ops 0 ops

def hpOf (σ : Heap) (tr : List (TM × AV × Heap)) : Nat → Heap
  | 0 => σ
  | n + 1 => match tr[n]? with
    | some x => x.2.2
    | none => []
def valOf (tr : List (TM × AV × Heap)) (i : Nat) : AV := match tr[i]? with
  | some x => x.2.1
  | none => .undef

def sameAns (v : AV) : Option (AV × Heap) → Bool
  | some (u, _) => u.beq v
  | none => false

def pairSame (C : Ctx) (ops : Array Oper) (σ : Heap) (tr : List (TM × AV × Heap)) (p : Nat × Oper × Nat) : Bool :=
  match tr[p.1]? with
  | some (env, v, _) => match wantA ops p.2.1 env.get with
    | some true => sameAns v (opA C 0 env.get (hpOf σ tr (if p.2.2 < p.1 then p.2.2 else p.2.2 + 1)) p.2.1)
    | _ => true
  | none => false

/-- Is what was written ahead of an operation written ahead of it in every order? -/
def effAhead (ops : Array Oper) (anc : Nat) : Nat → List Oper → List (TM × AV × Heap) → Bool
  | i, o :: l, x :: tr => (if effOp o.op = true ∧ wantA ops o x.1.get = some true then anc.testBit i else true) && effAhead ops anc (i + 1) l tr
  | _, _, _ => true
/-- What may come ahead of an operation that panics, though it stands behind it in the text. -/
def runTail (C : Ctx) (ops : Array Oper) (anc : List Nat) (n : Nat) : Nat → List Oper → TM → Heap → Option (List (TM × AV × Heap))
  | _, [], _, _ => some []
  | i, o :: rest, env, σ => if (anc.getD i 0).testBit n = true then (runTail C ops anc n (i + 1) rest (env.putO o.dst .undef) σ).map ((env, .undef, σ) :: ·)
    else match wantA ops o env.get with
      | some true => if effOp o.op = true then none else match opA C 0 env.get σ o with
        | some (v, _) => (runTail C ops anc n (i + 1) rest (env.putO o.dst v) σ).map ((env, v, σ) :: ·)
        | none => none
      | some false => (runTail C ops anc n (i + 1) rest (env.putO o.dst (.tuple [])) σ).map ((env, .tuple [], σ) :: ·)
      | none => none
def befB (anc : List Nat) (n i : Nat) : Bool := !(i == n) && !(anc.getD i 0).testBit n
def panTrace (C : Ctx) (ops : Array Oper) (σ : Heap) (tr : List (TM × AV × Heap)) (en : TM) : Option (List (TM × AV × Heap)) :=
  match ops[tr.length]? with
  | some o => (runTail C ops (ancs ops.toList) tr.length (tr.length + 1) (ops.toList.drop (tr.length + 1)) (en.putO o.dst .undef) (hpOf σ tr tr.length)).map fun tl => tr ++ (en, .undef, hpOf σ tr tr.length) :: tl
  | none => none
def panOK (C : Ctx) (ops : Array Oper) (σ : Heap) (n : Nat) (tr' : List (TM × AV × Heap)) : Bool :=
  (List.range n).all (fun i => !((ancs ops.toList).getD i 0).testBit n) && effAhead ops ((ancs ops.toList).getD n 0) 0 (ops.toList.take n) tr' &&
    (drawPairs ops.toList).all fun p => !(befB (ancs ops.toList) n p.1 && befB (ancs ops.toList) n p.2.2) || pairSame C ops σ tr' p

def undefAll : List Oper → TM → TM
  | [], t => t
  | o :: l, t => undefAll l (t.putO o.dst .undef)

def runDraw (C : Ctx) (callee : Callee) (ops : Array Oper) (env : TM) (σ : Heap) : CRes :=
  if drawStatic ops = true then
    match runTr C callee ops ops.toList env σ with
    | some (tr, none, env', σ') => if (drawPairs ops.toList).all (pairSame C ops σ tr) = true then some (.normal, env', σ') else none
    | some (tr, some p, en, σ') => match panTrace C ops σ tr en with
      | some tr' => if panOK C ops σ tr.length tr' = true then some (.pan p, undefAll ops.toList env, σ') else none
      | none => none
    | none => none
  else none
end
end Go.Abs
