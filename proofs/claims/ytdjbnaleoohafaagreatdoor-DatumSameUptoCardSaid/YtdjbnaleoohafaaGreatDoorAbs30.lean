/-
  AN ABSTRACT SEMANTICS, 30: runs with open values: what is not decided by the text is told ahead, and owed.
-/
import Derived.Test.YtdjbnaleoohafaaGreatDoorAbs29
namespace Go.Abs
open Go Go.RowKit
noncomputable section

/-- What is told ahead: how a comparison comes out, what a call gives, what the operation that writes a slot gives, what a loop comes to (from what slots on, over what slots). -/
inductive Told where
  | b (c : Bool)
  | pure (r : AV)
  | call (r : AV) (σ : Heap)
  | op (d : Nat) (v : AV)
  | opH (d : Nat) (v : AV) (σ : Heap)
  | loop (n : Nat) (l : List (Nat × AV)) (ex : AExit) (env : TM) (σ : Heap)

/-- All of it holds. -/
def AllP : List Prop → Prop
  | [] => True
  | p :: l => p ∧ AllP l

def TM.getK {β : Type} (t : TM) (x : Nat) (k : AV → β) : β :=
  TM.rec (motive := fun _ => Nat → (AV → β) → β) (fun _ k => k (.tuple [])) (fun v _ _ gl gr n k => Nat.rec (motive := fun _ => β) (k v) (fun n _ => Bool.rec (motive := fun _ => β) (gr (Nat.div n 2) k) (gl (Nat.div n 2) k) (Nat.beq (Nat.mod n 2) 0)) n) t x k
theorem TM.getK_eq {β : Type} : ∀ (t : TM) (x : Nat) (k : AV → β), t.getK x k = k (t.get x) := by
  intro t
  induction t with
  | leaf => intro x k; rfl
  | node v l r ihl ihr =>
    intro x k
    cases x with
    | zero => rfl
    | succ n =>
      show Bool.rec (motive := fun _ => β) (r.getK (n / 2) k) (l.getK (n / 2) k) (Nat.beq (n % 2) 0) = k (Bool.rec (motive := fun _ => AV) (r.get (n / 2)) (l.get (n / 2)) (Nat.beq (n % 2) 0))
      cases Nat.beq (n % 2) 0
      · exact ihr _ _
      · exact ihl _ _

def TM.putK {β : Type} (t : TM) (d : Nat) (v : AV) (k : TM → β) : β :=
  TM.rec (motive := fun _ => Nat → (TM → β) → β) (fun d k => k (setF (d + 1) .leaf d v))
    (fun x l r pl pr d k => Nat.rec (motive := fun _ => β) (k (.node v l r)) (fun n _ => Bool.rec (motive := fun _ => β) (pr (Nat.div n 2) fun r' => k (.node x l r')) (pl (Nat.div n 2) fun l' => k (.node x l' r)) (Nat.beq (Nat.mod n 2) 0)) d) t d k
theorem TM.putK_eq {β : Type} : ∀ (t : TM) (d : Nat) (v : AV) (k : TM → β), t.putK d v k = k (t.put d v) := by
  intro t
  induction t with
  | leaf => intro d v k; rfl
  | node x l r ihl ihr =>
    intro d v k
    cases d with
    | zero => rfl
    | succ n =>
      show Bool.rec (motive := fun _ => β) (r.putK (n / 2) v fun r' => k (.node x l r')) (l.putK (n / 2) v fun l' => k (.node x l' r)) (Nat.beq (n % 2) 0) = k (Bool.rec (motive := fun _ => TM) (.node x l (r.put (n / 2) v)) (.node x (l.put (n / 2) v) r) (Nat.beq (n % 2) 0))
      cases Nat.beq (n % 2) 0
      · exact ihr _ _ _
      · exact ihl _ _ _
def putOK {β : Type} (t : TM) (d : Option Tmp) (v : AV) (k : TM → β) : β := match d with
  | some d => t.putK d v k
  | none => k t
theorem putOK_eq {β : Type} (t : TM) (d : Option Tmp) (v : AV) (k : TM → β) : putOK t d v k = k (t.putO d v) := by
  cases d with
  | none => rfl
  | some d => exact TM.putK_eq t d v k

def argK {β : Type} (C : Ctx) (x : Operand) (env : TM) (k : AV → β) : β := match x with
  | .tmp t => env.getK t k
  | x => k (evA C (fun _ => .undef) x)
theorem argK_eq {β : Type} (C : Ctx) (x : Operand) (env : TM) (k : AV → β) : argK C x env k = k (evA C env.get x) := by
  cases x with
  | tmp t => exact TM.getK_eq env t k
  | _ => rfl
def argsK {β : Type} (C : Ctx) (env : TM) : List Operand → (List AV → β) → β
  | [], k => k []
  | x :: l, k => argK C x env fun v => argsK C env l fun vs => k (v :: vs)
theorem argsK_eq {β : Type} (C : Ctx) (env : TM) : ∀ (l : List Operand) (k : List AV → β), argsK C env l k = k (l.map (evA C env.get))
  | [], k => rfl
  | x :: l, k => by rw [argsK, argK_eq, argsK_eq C env l]; rfl

/-- Few slots. -/
def alEnv : List (Nat × AV) → Env
  | [], _ => .tuple []
  | (t, v) :: l, x => if x = t then v else alEnv l x
def gatherK {β : Type} (env : TM) : List Operand → (List (Nat × AV) → β) → β
  | [], k => k []
  | .tmp t :: l, k => env.getK t fun v => gatherK env l fun al => k ((t, v) :: al)
  | _ :: l, k => gatherK env l k
theorem gatherK_eq {β : Type} (C : Ctx) (env : TM) : ∀ (l : List Operand) (k : List (Nat × AV) → β), ∃ al, gatherK env l k = k al ∧ ∀ x ∈ l, evA C (alEnv al) x = evA C env.get x
  | [], k => ⟨[], rfl, fun x hx => by simp at hx⟩
  | .tmp t :: l, k => by
    obtain ⟨al, h1, h2⟩ := gatherK_eq C env l fun al => k ((t, env.get t) :: al)
    refine ⟨(t, env.get t) :: al, by rw [gatherK, TM.getK_eq]; exact h1, fun x hx => ?_⟩
    have key : ∀ y, evA C (alEnv al) (.tmp y) = evA C env.get (.tmp y) → evA C (alEnv ((t, env.get t) :: al)) (.tmp y) = evA C env.get (.tmp y) := fun y hy => by
      show (if y = t then env.get t else alEnv al y) = env.get y
      split
      · rename_i e; rw [e]
      · exact hy
    rcases List.mem_cons.1 hx with rfl | hx
    · show (if t = t then env.get t else alEnv al t) = env.get t
      rw [if_pos rfl]
    · have := h2 x hx
      cases x with
      | tmp y => exact key y this
      | _ => exact this
  | .const v :: l, k => by
    obtain ⟨al, h1, h2⟩ := gatherK_eq C env l k
    exact ⟨al, h1, fun x hx => (List.mem_cons.1 hx).elim (fun e => by subst e; rfl) (h2 x)⟩
  | .global v :: l, k => by
    obtain ⟨al, h1, h2⟩ := gatherK_eq C env l k
    exact ⟨al, h1, fun x hx => (List.mem_cons.1 hx).elim (fun e => by subst e; rfl) (h2 x)⟩
  | .func v :: l, k => by
    obtain ⟨al, h1, h2⟩ := gatherK_eq C env l k
    exact ⟨al, h1, fun x hx => (List.mem_cons.1 hx).elim (fun e => by subst e; rfl) (h2 x)⟩

/-- Does an operation give a bool that may be open? -/
def opens : Op → Bool
  | .binOp op _ _ _ _ => match op with
    | .eql | .neq | .lss | .leq | .gtr | .geq => true
    | _ => false
  | _ => false

section
variable (C : Ctx) {R : Type}

abbrev SK (R : Type) := AV → Heap → List Told → List Prop → Option R

/-- A call, by what is told. -/
def callS (f : FuncId) (args : List AV) (σ : Heap) (or : List Told) (ob : List Prop) (k : SK R) : Option R :=
  match or with
  | .pure r :: or' => match panOf r with
    | none => k r σ or' (CallOK C 0 f args σ r σ :: ob)
    | some _ => none
  | .call r σ' :: or' => match panOf r with
    | none => k r σ' or' (CallOK C 0 f args σ r σ' :: ob)
    | some _ => none
  | _ => none

def openS (o : Oper) (v : AV) (σ : Heap) (or : List Told) (ob : List Prop) (k : SK R) : Option R :=
  match opens o.op with
  | true => match v, or with
    | .bool b, .b c :: or' => k (.bool c) σ or' ((b = c) :: ob)
    | _, _ => none
  | false => k v σ or ob

/-- An operation that is no call, by what is told or by itself. -/
def stepG (o : Oper) (env : TM) (σ : Heap) (or : List Told) (ob : List Prop) (k : SK R) : Option R :=
  gatherK env o.op.operands.toList fun al => match or with
    | .op d v :: or' => match decide (o.dst = some d) with
      | true => k v σ or' ((opA C 0 (alEnv al) σ o = some (v, σ)) :: ob)
      | false => match opA C 0 (alEnv al) σ o with
        | some (v, σ') => openS o v σ' or ob k
        | none => none
    | .opH d v σ' :: or' => match decide (o.dst = some d) with
      | true => k v σ' or' ((opA C 0 (alEnv al) σ o = some (v, σ')) :: ob)
      | false => match opA C 0 (alEnv al) σ o with
        | some (v, σ') => openS o v σ' or ob k
        | none => none
    | or => match opA C 0 (alEnv al) σ o with
      | some (v, σ') => openS o v σ' or ob k
      | none => none

def stepS (o : Oper) (env : TM) (σ : Heap) (or : List Told) (ob : List Prop) (k : SK R) : Option R :=
  match o.op with
  | .move x => argK C x env fun v => k v σ or ob
  | .assign x => argK C x env fun v => k v σ or ob
  | .pick c a b => argK C c env fun vc => match vc.toBool? with
    | some true => argK C a env fun v => k v σ or ob
    | some false => argK C b env fun v => k v σ or ob
    | none => none
  | .call { callee := .value fo, args, .. } => argK C fo env fun vf => argsK C env args.toList fun vs => match vf with
    | .func (.func f) first cap => callS C f (first ++ vs ++ cap) σ or ob k
    | _ => none
  | .call { callee := .invoke _ _, .. } => none
  | .panic _ => none
  | _ => stepG C o env σ or ob k

/-- What is shown of one operation. -/
def StepSh (o : Oper) (env : TM) (σ : Heap) (ob : List Prop) (v : AV) (σ' : Heap) (ob' : List Prop) : Prop :=
  AllP ob' → AllP ob ∧ (effOp o.op = false → opA C 0 env.get σ o = some (v, σ')) ∧ ∀ K Kp : AV → Heap → Prop, K v σ' → aop C 0 o K Kp env.get σ

theorem stepS_ok {o : Oper} {env : TM} {σ : Heap} {or : List Told} {ob : List Prop} {k : SK R} {r : R} (h : stepS C o env σ or ob k = some r) :
    ∃ v σ' or' ob', k v σ' or' ob' = some r ∧ StepSh C o env σ ob v σ' ob' := by
  have plain : ∀ {v : AV} {σ' : Heap}, opA C 0 env.get σ o = some (v, σ') → StepSh C o env σ ob v σ' ob := fun ho hob => ⟨hob, fun _ => ho, fun K Kp hk => aop_of_opA ho hk⟩
  have gen : stepG C o env σ or ob k = some r → ∃ v σ' or' ob', k v σ' or' ob' = some r ∧ StepSh C o env σ ob v σ' ob' := by
    intro h
    unfold stepG at h
    obtain ⟨al, h1, h2⟩ := gatherK_eq C env o.op.operands.toList fun al => match or with
      | .op d v :: or' => match decide (o.dst = some d) with
        | true => k v σ or' ((opA C 0 (alEnv al) σ o = some (v, σ)) :: ob)
        | false => match opA C 0 (alEnv al) σ o with
          | some (v, σ') => openS o v σ' or ob k
          | none => none
      | .opH d v σ' :: or' => match decide (o.dst = some d) with
        | true => k v σ' or' ((opA C 0 (alEnv al) σ o = some (v, σ')) :: ob)
        | false => match opA C 0 (alEnv al) σ o with
          | some (v, σ') => openS o v σ' or ob k
          | none => none
      | or => match opA C 0 (alEnv al) σ o with
        | some (v, σ') => openS o v σ' or ob k
        | none => none
    rw [h1] at h
    have hc : opA C 0 (alEnv al) σ o = opA C 0 env.get σ o := opA_congr fun x hx => h2 x (by simpa using hx)
    have self : ∀ or, (match opA C 0 (alEnv al) σ o with
        | some (v, σ') => openS o v σ' or ob k
        | none => none) = some r → ∃ v σ' or' ob', k v σ' or' ob' = some r ∧ StepSh C o env σ ob v σ' ob' := by
      intro or h
      split at h
      · rename_i v σ' ho
        rw [hc] at ho
        unfold openS at h
        split at h
        · split at h
          · rename_i b c or'
            exact ⟨_, _, _, _, h, fun ⟨hbc, hob⟩ => plain (by rw [← hbc]; exact ho) hob⟩
          · cases h
        · exact ⟨_, _, _, _, h, plain ho⟩
      · cases h
    split at h
    · split at h
      · exact ⟨_, _, _, _, h, fun ⟨ho, hob⟩ => plain (by rw [← hc]; exact ho) hob⟩
      · exact self _ h
    · split at h
      · exact ⟨_, _, _, _, h, fun ⟨ho, hob⟩ => plain (by rw [← hc]; exact ho) hob⟩
      · exact self _ h
    · exact self _ h
  unfold stepS at h
  split at h
  · rename_i x hop
    rw [argK_eq] at h
    exact ⟨_, _, _, _, h, plain (by unfold opA; rw [hop])⟩
  · rename_i x hop
    rw [argK_eq] at h
    exact ⟨_, _, _, _, h, plain (by unfold opA; rw [hop])⟩
  · rename_i c a b hop
    rw [argK_eq] at h
    split at h
    · rename_i hc
      rw [argK_eq] at h
      exact ⟨_, _, _, _, h, plain (by unfold opA; rw [hop]; simp only [toBool_some hc])⟩
    · rename_i hc
      rw [argK_eq] at h
      exact ⟨_, _, _, _, h, plain (by unfold opA; rw [hop]; simp only [toBool_some hc])⟩
    · cases h
  · rename_i fo args ta hop
    rw [argK_eq, argsK_eq] at h
    split at h
    · rename_i f first cap hf
      have eff : effOp o.op = true := by rw [hop]; rfl
      unfold callS at h
      split at h
      · split at h
        · rename_i hp
          exact ⟨_, _, _, _, h, fun ⟨hc, hob⟩ => ⟨hob, fun he => (by rw [eff] at he; cases he), fun K Kp hk => aop_value hop hf hc (by unfold afterA; rw [hp]; exact hk)⟩⟩
        · cases h
      · split at h
        · rename_i hp
          exact ⟨_, _, _, _, h, fun ⟨hc, hob⟩ => ⟨hob, fun he => (by rw [eff] at he; cases he), fun K Kp hk => aop_value hop hf hc (by unfold afterA; rw [hp]; exact hk)⟩⟩
        · cases h
      · cases h
    · cases h
  · cases h
  · cases h
  · exact gen h

/-- Operations in the order of the text. -/
def opsS (ops : Array Oper) : List Oper → TM → Heap → List Told → List Prop → (TM → Heap → List Told → List Prop → Option R) → Option R
  | [], env, σ, or, ob, k => k env σ or ob
  | o :: rest, env, σ, or, ob, k => match wantA ops o env.get with
    | some true => stepS C o env σ or ob fun v σ' or' ob' => putOK env o.dst v fun env' => opsS ops rest env' σ' or' ob' k
    | some false => putOK env o.dst (.tuple []) fun env' => opsS ops rest env' σ or ob k
    | none => none

theorem opsS_ok {ops : Array Oper} : ∀ (l : List Oper) (env : TM) (σ : Heap) (or : List Told) (ob : List Prop) (k : TM → Heap → List Told → List Prop → Option R) (r : R), opsS C ops l env σ or ob k = some r →
    ∃ env' σ' or' ob', k env' σ' or' ob' = some r ∧ (AllP ob' → AllP ob ∧ ∀ K : AExit → Env → Heap → Prop, K .normal env'.get σ' → aops C 0 ops l K env.get σ)
  | [], env, σ, or, ob, k, r, h => ⟨env, σ, or, ob, h, fun hob => ⟨hob, fun K hk => hk⟩⟩
  | o :: rest, env, σ, or, ob, k, r, h => by
    unfold opsS at h
    split at h
    · rename_i hw
      obtain ⟨v, σ', or', ob', h1, h2⟩ := stepS_ok C h
      rw [putOK_eq] at h1
      obtain ⟨env2, σ2, or2, ob2, h3, h4⟩ := opsS_ok rest _ _ _ _ _ _ h1
      refine ⟨env2, σ2, or2, ob2, h3, fun hob => ?_⟩
      obtain ⟨g1, g2⟩ := h4 hob
      obtain ⟨g3, _, g4⟩ := h2 g1
      refine ⟨g3, fun K hk => ?_⟩
      unfold aops
      rw [hw]
      refine g4 _ _ ?_
      rw [← TM.get_putO]
      exact g2 K hk
    · rename_i hw
      rw [putOK_eq] at h
      obtain ⟨env2, σ2, or2, ob2, h3, h4⟩ := opsS_ok rest _ _ _ _ _ _ h
      refine ⟨env2, σ2, or2, ob2, h3, fun hob => ?_⟩
      obtain ⟨g1, g2⟩ := h4 hob
      refine ⟨g1, fun K hk => ?_⟩
      unfold aops
      rw [hw]
      simp only
      rw [← TM.get_putO]
      exact g2 K hk
    · cases h

/-- The same, with what each operation saw and left. -/
def trS (ops : Array Oper) : List Oper → List (TM × AV × Heap) → TM → Heap → List Told → List Prop → (List (TM × AV × Heap) → TM → Heap → List Told → List Prop → Option R) → Option R
  | [], tr, env, σ, or, ob, k => k tr.reverse env σ or ob
  | o :: rest, tr, env, σ, or, ob, k => match wantA ops o env.get with
    | some true => stepS C o env σ or ob fun v σ' or' ob' => putOK env o.dst v fun env' => trS ops rest ((env, v, σ') :: tr) env' σ' or' ob' k
    | some false => putOK env o.dst (.tuple []) fun env' => trS ops rest ((env, .tuple [], σ) :: tr) env' σ or ob k
    | none => none

/-- What is owed of a reading and a writing operation of which either may come first. -/
def PairP (ops : Array Oper) (σ : Heap) (tr : List (TM × AV × Heap)) (p : Nat × Oper × Nat) : Prop :=
  match tr[p.1]? with
  | some (env, v, _) => wantA ops p.2.1 env.get = some true → opA C 0 env.get (hpOf σ tr (if p.2.2 < p.1 then p.2.2 else p.2.2 + 1)) p.2.1 = some (v, hpOf σ tr (if p.2.2 < p.1 then p.2.2 else p.2.2 + 1))
  | none => False

theorem trS_ok {ops : Array Oper} {env0 : Env} {σ0 : Heap} : ∀ (l : List Oper) (n : Nat) (tr : List (TM × AV × Heap)) (env : TM) (σ : Heap) (or : List Told) (ob : List Prop) (k : List (TM × AV × Heap) → TM → Heap → List Told → List Prop → Option R) (r : R),
    ops.toList.drop n = l → n ≤ ops.size → tr.length = n → trS C ops l tr env σ or ob k = some r →
    ∃ tr0 env' σ' or' ob', k tr0 env' σ' or' ob' = some r ∧ tr0.take n = tr.reverse ∧ tr0.length = ops.size ∧ (AllP ob' → AllP ob ∧ (envC ops env0 (valOf tr0) n = env.get → hpOf σ0 tr0 n = σ →
      (∀ i o, n ≤ i → ops[i]? = some o → ∃ e, tr0[i]? = some (e, valOf tr0 i, hpOf σ0 tr0 (i + 1)) ∧ envC ops env0 (valOf tr0) i = TM.get e ∧
        ((wantA ops o e.get = some false ∧ valOf tr0 i = .tuple [] ∧ hpOf σ0 tr0 (i + 1) = hpOf σ0 tr0 i) ∨
         (wantA ops o e.get = some true ∧ (effOp o.op = false → opA C 0 e.get (hpOf σ0 tr0 i) o = some (valOf tr0 i, hpOf σ0 tr0 (i + 1))) ∧ ∀ K Kp : AV → Heap → Prop, K (valOf tr0 i) (hpOf σ0 tr0 (i + 1)) → aop C 0 o K Kp e.get (hpOf σ0 tr0 i)))) ∧
      env'.get = envC ops env0 (valOf tr0) ops.size ∧ σ' = hpOf σ0 tr0 ops.size))
  | [], n, tr, env, σ, or, ob, k, r, hl, hn, ht, h => by
    have hlen : ops.size ≤ n := by
      have := congrArg List.length hl
      simp at this; omega
    obtain rfl : n = ops.size := by omega
    refine ⟨tr.reverse, env, σ, or, ob, h, by rw [List.take_of_length_le]; simp; omega, by simpa using ht, fun hob => ⟨hob, fun he hs => ⟨fun i o hi ho => ?_, he.symm, hs.symm⟩⟩⟩
    rw [Array.getElem?_eq_none hi] at ho; cases ho
  | o :: rest, n, tr, env, σ, or, ob, k, r, hl, hn, ht, h => by
    have hko : ops[n]? = some o := by
      have := congrArg (fun l => l[0]?) hl
      simpa [List.getElem?_drop] using this
    have hrest : ops.toList.drop (n + 1) = rest := by
      have := congrArg (List.drop 1) hl
      rw [List.drop_drop] at this
      simpa [Nat.add_comm] using this
    have hk1 : n + 1 ≤ ops.size := by
      rcases Nat.lt_or_ge n ops.size with h' | h'
      · exact h'
      · rw [Array.getElem?_eq_none h'] at hko; cases hko
    have go : ∀ (v : AV) (s : Heap) (or1 : List Told) (ob1 : List Prop), trS C ops rest ((env, v, s) :: tr) (env.putO o.dst v) s or1 ob1 k = some r →
        (AllP ob1 → AllP ob ∧ ((wantA ops o env.get = some false ∧ v = .tuple [] ∧ s = σ) ∨ (wantA ops o env.get = some true ∧ (effOp o.op = false → opA C 0 env.get σ o = some (v, s)) ∧ ∀ K Kp : AV → Heap → Prop, K v s → aop C 0 o K Kp env.get σ))) →
        ∃ tr0 env' σ' or' ob', k tr0 env' σ' or' ob' = some r ∧ tr0.take n = tr.reverse ∧ tr0.length = ops.size ∧ (AllP ob' → AllP ob ∧ (envC ops env0 (valOf tr0) n = env.get → hpOf σ0 tr0 n = σ →
          (∀ i o, n ≤ i → ops[i]? = some o → ∃ e, tr0[i]? = some (e, valOf tr0 i, hpOf σ0 tr0 (i + 1)) ∧ envC ops env0 (valOf tr0) i = TM.get e ∧
            ((wantA ops o e.get = some false ∧ valOf tr0 i = .tuple [] ∧ hpOf σ0 tr0 (i + 1) = hpOf σ0 tr0 i) ∨
             (wantA ops o e.get = some true ∧ (effOp o.op = false → opA C 0 e.get (hpOf σ0 tr0 i) o = some (valOf tr0 i, hpOf σ0 tr0 (i + 1))) ∧ ∀ K Kp : AV → Heap → Prop, K (valOf tr0 i) (hpOf σ0 tr0 (i + 1)) → aop C 0 o K Kp e.get (hpOf σ0 tr0 i)))) ∧
          env'.get = envC ops env0 (valOf tr0) ops.size ∧ σ' = hpOf σ0 tr0 ops.size)) := by
      intro v s or1 ob1 hrun hcase
      obtain ⟨tr0, env', σ', or', ob', q1, q2, q3, q4⟩ := trS_ok (env0 := env0) (σ0 := σ0) rest (n + 1) _ _ _ _ _ _ _ hrest hk1 (by simp [ht]) hrun
      have htake : tr0.take n = tr.reverse := by
        have := congrArg (List.take n) q2
        rw [List.take_take, Nat.min_eq_left (Nat.le_succ n)] at this
        rw [this, List.reverse_cons, List.take_append_of_le_length (by simp; omega), List.take_of_length_le (by simp; omega)]
      have hget : tr0[n]? = some (env, v, s) := by
        have : (tr0.take (n + 1))[n]? = some (env, v, s) := by
          rw [q2, List.reverse_cons, List.getElem?_append_right (by simp; omega)]; simp [ht]
        rwa [List.getElem?_take_of_lt (by omega)] at this
      have hv : valOf tr0 n = v := by simp [valOf, hget]
      have hh : hpOf σ0 tr0 (n + 1) = s := by simp [hpOf, hget]
      refine ⟨tr0, env', σ', or', ob', q1, htake, q3, fun hob => ?_⟩
      obtain ⟨g1, g2⟩ := q4 hob
      obtain ⟨g3, g4⟩ := hcase g1
      refine ⟨g3, fun he hs => ?_⟩
      obtain ⟨i1, i2, i3⟩ := g2 (by rw [TM.get_putO, ← he, ← hv]; simp [envC, envOf, hko]) hh
      refine ⟨fun i oi hi hoi => ?_, i2, i3⟩
      rcases Nat.lt_or_ge n i with h' | h'
      · exact i1 i oi h' hoi
      · obtain rfl : i = n := by omega
        obtain rfl : o = oi := Option.some.inj (hko.symm.trans hoi)
        refine ⟨env, by rw [hv, hh]; exact hget, he, ?_⟩
        rw [hv, hh, hs]
        exact g4
    unfold trS at h
    split at h
    · rename_i hw
      obtain ⟨v, σ', or', ob', h1, h2⟩ := stepS_ok C h
      rw [putOK_eq] at h1
      exact go v σ' or' ob' h1 fun hob => let ⟨g1, g2, g3⟩ := h2 hob; ⟨g1, .inr ⟨hw, g2, g3⟩⟩
    · rename_i hw
      rw [putOK_eq] at h
      exact go _ _ _ _ h fun hob => ⟨hob, .inl ⟨hw, rfl, rfl⟩⟩
    · cases h

/-- The memory stayed as it was. -/
def allHp (σ : Heap) : List (TM × AV × Heap) → Prop
  | [] => True
  | x :: l => x.2.2 = σ ∧ allHp σ l
theorem allHp_get {σ : Heap} : ∀ {l : List (TM × AV × Heap)}, allHp σ l → ∀ {i : Nat} {x : TM × AV × Heap}, l[i]? = some x → x.2.2 = σ
  | [], _, i, x, h => by simp at h
  | y :: l, ⟨h1, h2⟩, 0, x, h => by simp at h; subst h; exact h1
  | y :: l, ⟨h1, h2⟩, i + 1, x, h => allHp_get h2 (by simpa using h)
theorem allHp_hp {σ : Heap} {tr : List (TM × AV × Heap)} (h : allHp σ tr) : ∀ {n : Nat}, n ≤ tr.length → hpOf σ tr n = σ
  | 0, _ => rfl
  | n + 1, hn => by
    obtain ⟨x, hx⟩ : ∃ x, tr[n]? = some x := ⟨tr[n], List.getElem?_eq_getElem (by omega)⟩
    simp only [hpOf, hx]
    exact allHp_get h hx

def drawS (ops : Array Oper) (env : TM) (σ : Heap) (or : List Told) (ob : List Prop) (k : TM → Heap → List Told → List Prop → Option R) : Option R :=
  trS C ops ops.toList [] env σ or ob fun tr env' σ' or' ob' => k env' σ' or' ((drawStatic ops = true) :: (drawPairs ops.toList = [] ∨ allHp σ tr ∨ AllP ((drawPairs ops.toList).map (PairP C ops σ tr))) :: ob')

theorem allP_append : ∀ {a b : List Prop}, AllP (a ++ b) → AllP a ∧ AllP b
  | [], _, h => ⟨trivial, h⟩
  | _ :: a, _, ⟨h1, h2⟩ => let ⟨h3, h4⟩ := allP_append (a := a) h2; ⟨⟨h1, h3⟩, h4⟩
theorem allP_map {α : Type} {f : α → Prop} : ∀ {l : List α}, AllP (l.map f) → ∀ x ∈ l, f x
  | [], _, x, hx => by simp at hx
  | a :: l, ⟨h1, h2⟩, x, hx => (List.mem_cons.1 hx).elim (fun e => e ▸ h1) (allP_map h2 x)

theorem drawS_ok {ops : Array Oper} {env : TM} {σ : Heap} {or : List Told} {ob : List Prop} {k : TM → Heap → List Told → List Prop → Option R} {r : R} (h : drawS C ops env σ or ob k = some r) :
    ∃ env' σ' or' ob', k env' σ' or' ob' = some r ∧ (AllP ob' → AllP ob ∧ DrawOK C 0 ops env.get σ env'.get σ') := by
  unfold drawS at h
  obtain ⟨tr, env', σ', or', ob', h1, _, h2, h3⟩ := trS_ok C (env0 := env.get) (σ0 := σ) ops.toList 0 [] env σ or ob _ r rfl (Nat.zero_le _) rfl h
  refine ⟨env', σ', or', _, h1, fun hob => ?_⟩
  obtain ⟨hstat, hp, hob⟩ := hob
  obtain ⟨g1, g2⟩ := h3 hob
  obtain ⟨t1, t3, t4⟩ := g2 rfl rfl
  refine ⟨g1, hstat, valOf tr, hpOf σ tr, ⟨rfl, fun i o ho => ?_⟩, t3, t4⟩
  obtain ⟨ti, e1, e2, e3⟩ := t1 i o (Nat.zero_le _) ho
  rw [e2]
  rcases e3 with e3 | ⟨e3, e4, e5⟩
  · exact .inl e3
  · by_cases he : effOp o.op = true
    · exact .inr (.inl ⟨e3, he, e5 _ _ ⟨rfl, rfl⟩⟩)
    · have he' : effOp o.op = false := by simpa using he
      have e4 := e4 he'
      have hsame := opA_same he' e4
      rw [hsame] at e4
      have hall : ∀ e, (∃ oe, ops[e]? = some oe) → (∃ oe, (i, o, e) ∈ drawPairs ops.toList ∨ oe = e) → heapOp o.op = true → (i, o, e) ∈ drawPairs ops.toList → opA C 0 ti.get (hpOf σ tr (if e < i then e else e + 1)) o = some (valOf tr i, hpOf σ tr (if e < i then e else e + 1)) := by
        intro e ⟨oe, hoe⟩ _ _ hm
        rcases hp with hp | hp | hp
        · rw [hp] at hm; cases hm
        · have hes : e < ops.size := (Array.getElem?_eq_some_iff.1 hoe).1
          have his : i < ops.size := (Array.getElem?_eq_some_iff.1 ho).1
          rw [allHp_hp hp (n := i) (by omega)] at e4
          rw [allHp_hp hp (by split <;> omega)]
          exact e4
        · have hp := allP_map hp _ hm
          simp only [PairP, e1] at hp
          exact hp e3
      refine .inr (.inr ⟨e3, he', hsame, e4, ?_, ?_⟩)
      · intro e hei ⟨oe, hoe, heff, _⟩ hbit
        by_cases hh : heapOp o.op = true
        · have hm := drawPairsGo_mem (all := ops.toList) ops.toList 0 i o (by simpa using ho) _ (drawPairsI_mem he' hh ops.toList 0 e oe (by simpa using hoe) heff (.inl (by simpa using ⟨hei, hbit⟩)))
          simp only [Nat.zero_add] at hm
          have := hall e ⟨oe, hoe⟩ ⟨e, .inr rfl⟩ hh hm
          rwa [if_pos hei] at this
        · exact opA_free (by simpa using hh) e4 _
      · intro e hei ⟨oe, hoe, heff, _⟩ hbit
        by_cases hh : heapOp o.op = true
        · have hm := drawPairsGo_mem (all := ops.toList) ops.toList 0 i o (by simpa using ho) _ (drawPairsI_mem he' hh ops.toList 0 e oe (by simpa using hoe) heff (.inr (by simpa using ⟨hei, hbit⟩)))
          simp only [Nat.zero_add] at hm
          have := hall e ⟨oe, hoe⟩ ⟨e, .inr rfl⟩ hh hm
          rwa [if_neg (show ¬ e < i from by omega)] at this
        · exact opA_free (by simpa using hh) e4 _

/-- Of the slots, no more than this is known. -/
def subP : TM → TM → Prop
  | .leaf, .leaf => True
  | .leaf, .node v l r => v = .tuple [] ∧ subP .leaf l ∧ subP .leaf r
  | .node v l r, .leaf => match v with
    | .undef => subP l .leaf ∧ subP r .leaf
    | v => v = .tuple [] ∧ subP l .leaf ∧ subP r .leaf
  | .node v l r, .node v' l' r' => match v with
    | .undef => subP l l' ∧ subP r r'
    | v => v = v' ∧ subP l l' ∧ subP r r'
theorem subP_get : ∀ (a b : TM), subP a b → ∀ x, a.get x = .undef ∨ a.get x = b.get x
  | .leaf, .leaf, _, x => .inr rfl
  | .leaf, .node v l r, h, x => by
    simp only [subP] at h
    obtain ⟨h1, h2, h3⟩ := h
    cases x with
    | zero => exact .inr h1.symm
    | succ x =>
      simp only [TM.get_succ, TM.get_leaf]
      split
      · have := subP_get .leaf l h2 (x / 2); simpa only [TM.get_leaf] using this
      · have := subP_get .leaf r h3 (x / 2); simpa only [TM.get_leaf] using this
  | .node v l r, .leaf, h, x => by
    unfold subP at h
    split at h
    · cases x with
      | zero => exact .inl rfl
      | succ x =>
        simp only [TM.get_succ, TM.get_leaf]
        split
        · have := subP_get l .leaf h.1 (x / 2); simpa only [TM.get_leaf] using this
        · have := subP_get r .leaf h.2 (x / 2); simpa only [TM.get_leaf] using this
    · cases x with
      | zero => exact .inr h.1
      | succ x =>
        simp only [TM.get_succ, TM.get_leaf]
        split
        · have := subP_get l .leaf h.2.1 (x / 2); simpa only [TM.get_leaf] using this
        · have := subP_get r .leaf h.2.2 (x / 2); simpa only [TM.get_leaf] using this
  | .node v l r, .node v' l' r', h, x => by
    unfold subP at h
    split at h
    · cases x with
      | zero => exact .inl rfl
      | succ x =>
        simp only [TM.get_succ]
        split
        · exact subP_get l l' h.1 (x / 2)
        · exact subP_get r r' h.2 (x / 2)
    · cases x with
      | zero => exact .inr h.1
      | succ x =>
        simp only [TM.get_succ]
        split
        · exact subP_get l l' h.2.1 (x / 2)
        · exact subP_get r r' h.2.2 (x / 2)

/-- Nothing known of any slot; then some. -/
def fullU : Nat → TM
  | 0 => .leaf
  | n + 1 => .node .undef (fullU n) (fullU n)
def putAll : List (Nat × AV) → TM → TM
  | [], t => t
  | (d, v) :: l, t => t.putK d v fun t => putAll l t
/-- The slots that are known, the others not. -/
def hdT (n : Nat) (l : List (Nat × AV)) : TM := putAll l (fullU n)
def depthB : Nat → TM → Bool
  | 0, .leaf => true
  | 0, .node .. => false
  | _ + 1, .leaf => true
  | n + 1, .node _ l r => depthB n l && depthB n r
def getsL : List (Nat × AV) → TM → Prop
  | [], _ => True
  | (d, v) :: l, e => e.get d = v ∧ getsL l e
def getsP (n : Nat) (l : List (Nat × AV)) (e : TM) : Prop := depthB n e = true ∧ getsL l e
theorem fullU_sub : ∀ (n : Nat) (e : TM), depthB n e = true → ∀ x, (fullU n).get x = .undef ∨ (fullU n).get x = e.get x
  | 0, .leaf, _, x => .inr rfl
  | n + 1, .leaf, _, 0 => .inl rfl
  | n + 1, .leaf, _, x + 1 => by
    simp only [fullU, TM.get_succ, TM.get_leaf]
    split
    · have := fullU_sub n .leaf (by cases n <;> rfl) (x / 2); simpa only [TM.get_leaf] using this
    · have := fullU_sub n .leaf (by cases n <;> rfl) (x / 2); simpa only [TM.get_leaf] using this
  | n + 1, .node _ l r, _, 0 => .inl rfl
  | n + 1, .node _ l r, h, x + 1 => by
    simp only [depthB, Bool.and_eq_true] at h
    simp only [fullU, TM.get_succ]
    split
    · exact fullU_sub n l h.1 (x / 2)
    · exact fullU_sub n r h.2 (x / 2)
theorem putAll_sub : ∀ (l : List (Nat × AV)) (t e : TM), (∀ x, t.get x = .undef ∨ t.get x = e.get x) → getsL l e → ∀ x, (putAll l t).get x = .undef ∨ (putAll l t).get x = e.get x
  | [], _, _, h, _, x => h x
  | (d, v) :: l, t, e, h, ⟨h1, h2⟩, x => by
    unfold putAll
    rw [TM.putK_eq]
    refine putAll_sub l _ e (fun y => ?_) h2 x
    rw [TM.get_put_at]
    split
    · rename_i hy; subst hy; exact .inr h1.symm
    · exact h y
theorem getsP_sub {n : Nat} {l : List (Nat × AV)} {e : TM} (h : getsP n l e) : ∀ x, (hdT n l).get x = .undef ∨ (hdT n l).get x = e.get x :=
  putAll_sub l _ e (fullU_sub n e h.1) h.2

abbrev CK (R : Type) := AExit → TM → Heap → List Told → List Prop → Option R

def codeS : Code → TM → Heap → List Told → List Prop → CK R → Option R
  | .skip, env, σ, or, ob, k => k .normal env σ or ob
  | .label _, env, σ, or, ob, k => k .normal env σ or ob
  | .region _ ops false, env, σ, or, ob, k => opsS C ops ops.toList env σ or ob (k .normal)
  | .region _ ops true, env, σ, or, ob, k => drawS C ops env σ or ob (k .normal)
  | .seq a b, env, σ, or, ob, k => codeS a env σ or ob fun ex env σ or ob => match ex with
    | .normal => codeS b env σ or ob k
    | ex => k ex env σ or ob
  | .cond c x y, env, σ, or, ob, k => argK C c env fun v => match v.toBool? with
    | some true => codeS x env σ or ob k
    | some false => codeS y env σ or ob k
    | none => none
  | .block id b, env, σ, or, ob, k => codeS b env σ or ob fun ex env σ or ob => match ex with
    | .exit i => match Nat.decEq i id with
      | .isTrue _ => k .normal env σ or ob
      | .isFalse _ => k (.exit i) env σ or ob
    | ex => k ex env σ or ob
  | .loop b, env, σ, or, ob, k => match or with
    | .loop n l ex env' σ' :: or' => k ex env' σ' or' (getsP n l env :: ExecL C 0 b (hdT n l).get σ ex env'.get σ' :: ob)
    | _ => none
  | .exit id, env, σ, or, ob, k => k (.exit id) env σ or ob
  | .goto l, env, σ, or, ob, k => k (.goto l) env σ or ob
  | .ret, env, σ, or, ob, k => k .ret env σ or ob
  | _, _, _, _, _, _ => none

theorem codeS_ok : ∀ (c : Code) (env : TM) (σ : Heap) (or : List Told) (ob : List Prop) (k : CK R) (r : R), codeS C c env σ or ob k = some r →
    ∃ ex env' σ' or' ob', k ex env' σ' or' ob' = some r ∧ (AllP ob' → AllP ob ∧ Exec C 0 c env.get σ ex env'.get σ') := by
  intro c
  induction c with
  | skip => intro env σ or ob k r h; exact ⟨_, _, _, _, _, h, fun hob => ⟨hob, .skip⟩⟩
  | label l => intro env σ or ob k r h; exact ⟨_, _, _, _, _, h, fun hob => ⟨hob, .label⟩⟩
  | region id ops d =>
    intro env σ or ob k r h
    cases d with
    | false =>
      obtain ⟨env', σ', or', ob', h1, h2⟩ := opsS_ok C _ _ _ _ _ _ _ h
      exact ⟨_, _, _, _, _, h1, fun hob => let ⟨g1, g2⟩ := h2 hob; ⟨g1, .region (g2 _ ⟨rfl, rfl, rfl⟩)⟩⟩
    | true =>
      obtain ⟨env', σ', or', ob', h1, h2⟩ := drawS_ok C h
      exact ⟨_, _, _, _, _, h1, fun hob => let ⟨g1, g2⟩ := h2 hob; ⟨g1, .draw g2⟩⟩
  | seq a b iha ihb =>
    intro env σ or ob k r h
    obtain ⟨ex, env1, σ1, or1, ob1, h1, h2⟩ := iha _ _ _ _ _ _ h
    by_cases hx : ex = .normal
    · subst hx
      obtain ⟨ex2, env2, σ2, or2, ob2, h3, h4⟩ := ihb _ _ _ _ _ _ h1
      exact ⟨_, _, _, _, _, h3, fun hob => let ⟨g1, g2⟩ := h4 hob; let ⟨g3, g4⟩ := h2 g1; ⟨g3, .seq g4 g2⟩⟩
    · refine ⟨ex, env1, σ1, or1, ob1, ?_, fun hob => let ⟨g1, g2⟩ := h2 hob; ⟨g1, .seqOut g2 hx⟩⟩
      cases ex <;> first | exact absurd rfl hx | exact h1
  | cond c x y ihx ihy =>
    intro env σ or ob k r h
    have h : (argK C c env fun v => match v.toBool? with
      | some true => codeS C x env σ or ob k
      | some false => codeS C y env σ or ob k
      | none => none) = some r := h
    rw [argK_eq] at h
    split at h
    · rename_i hb
      obtain ⟨ex, env1, σ1, or1, ob1, h1, h2⟩ := ihx _ _ _ _ _ _ h
      exact ⟨_, _, _, _, _, h1, fun hob => let ⟨g1, g2⟩ := h2 hob; ⟨g1, .condT (toBool_some hb) g2⟩⟩
    · rename_i hb
      obtain ⟨ex, env1, σ1, or1, ob1, h1, h2⟩ := ihy _ _ _ _ _ _ h
      exact ⟨_, _, _, _, _, h1, fun hob => let ⟨g1, g2⟩ := h2 hob; ⟨g1, .condF (toBool_some hb) g2⟩⟩
    · cases h
  | block id b ih =>
    intro env σ or ob k r h
    obtain ⟨ex, env1, σ1, or1, ob1, h1, h2⟩ := ih _ _ _ _ _ _ h
    by_cases hx : ex = .exit id
    · subst hx
      refine ⟨.normal, env1, σ1, or1, ob1, ?_, fun hob => let ⟨g1, g2⟩ := h2 hob; ⟨g1, .blockIn g2⟩⟩
      simp only at h1
      split at h1
      · exact h1
      · rename_i hn _; exact absurd rfl hn
    · refine ⟨ex, env1, σ1, or1, ob1, ?_, fun hob => let ⟨g1, g2⟩ := h2 hob; ⟨g1, .blockOut g2 hx⟩⟩
      cases ex with
      | exit i =>
        simp only at h1
        split at h1
        · rename_i hi _; exact absurd (by rw [hi]) hx
        · exact h1
      | _ => exact h1
  | loop b =>
    intro env σ or ob k r h
    unfold codeS at h
    split at h
    · exact ⟨_, _, _, _, _, h, fun ⟨g0, g1, g2⟩ => ⟨g2, .loop (.weak (getsP_sub g0) g1)⟩⟩
    · cases h
  | exit id => intro env σ or ob k r h; exact ⟨_, _, _, _, _, h, fun hob => ⟨hob, .exit⟩⟩
  | goto l => intro env σ or ob k r h; exact ⟨_, _, _, _, _, h, fun hob => ⟨hob, .goto⟩⟩
  | ret => intro env σ or ob k r h; exact ⟨_, _, _, _, _, h, fun hob => ⟨hob, .ret⟩⟩
  | _ => intro env σ or ob k r h; cases h

/-- A run to its end: how, over which slots and heap, and what is owed. -/
def runS (c : Code) (env : TM) (σ : Heap) (or : List Told) : Option (AExit × TM × Heap × List Prop) :=
  codeS C c env σ or [] fun ex env' σ' or' ob => match or' with
    | [] => some (ex, env', σ', ob)
    | _ => none
theorem runS_ok {c : Code} {env : TM} {σ : Heap} {or : List Told} {ex : AExit} {env' : TM} {σ' : Heap} {ob : List Prop} (h : runS C c env σ or = some (ex, env', σ', ob)) (hob : AllP ob) : Exec C 0 c env.get σ ex env'.get σ' := by
  obtain ⟨ex1, env1, σ1, or1, ob1, h1, h2⟩ := codeS_ok C _ _ _ _ _ _ _ h
  split at h1
  · cases h1; exact (h2 hob).2
  · cases h1

/-- A whole function, run: its result and what is owed. -/
def runFS (fn : Func) (args : List AV) (σ : Heap) (or : List Told) : Option (AV × Heap × List Prop) :=
  match fn.body with
  | some c => codeS C c (TM.ofArgs args) σ or [] fun ex env' σ' or' ob => match or', ex with
    | [], .normal => (resA C.P σ' env'.get fn.results.toList).map fun r => (r, σ', ob)
    | [], .ret => (resA C.P σ' env'.get fn.results.toList).map fun r => (r, σ', ob)
    | _, _ => none
  | none => none

theorem runFS_ok (hm : C.P.follows .mixedOrders = true) (hall : allOK C.P = true) {f : FuncId} {fn : Func} (hf : C.P.funcs[f]? = some fn) {args : List AV} (ha : args.length ≤ fn.ntmps) {σ σ' : Heap} {or : List Told} {r : AV} {ob : List Prop}
    (h : runFS C fn args σ or = some (r, σ', ob)) (hob : AllP ob) (hn : panOf r = none) : FnOK C 0 f args σ r σ' := by
  unfold runFS at h
  split at h
  · rename_i c hb
    obtain ⟨ex, env', σ1, or1, ob1, h1, h2⟩ := codeS_ok C _ _ _ _ _ _ _ h
    split at h1
    · simp only [Option.map_eq_some_iff, Prod.mk.injEq] at h1
      obtain ⟨r0, hr, rfl, rfl, rfl⟩ := h1
      obtain ⟨_, g2⟩ := h2 hob
      rw [TM.get_ofArgs] at g2
      exact fn_ok hm hf hb (allOK_get hall hf hb).2 ha (Nat.zero_le _) g2 (.inl rfl) hr hn
    · simp only [Option.map_eq_some_iff, Prod.mk.injEq] at h1
      obtain ⟨r0, hr, rfl, rfl, rfl⟩ := h1
      obtain ⟨_, g2⟩ := h2 hob
      rw [TM.get_ofArgs] at g2
      exact fn_ok hm hf hb (allOK_get hall hf hb).2 ha (Nat.zero_le _) g2 (.inr rfl) hr hn
    · cases h1
  · cases h
/-- A run, and what must hold of what it comes to. -/
def OkE (K : AExit → TM → Heap → Prop) (x : Option (AExit × TM × Heap × List Prop)) : Prop := match x with
  | some (ex, env, σ, ob) => K ex env σ ∧ AllP ob
  | none => False
/-- A function's run: it gives this, over nothing that lasts. -/
def OkF (r : AV) (x : Option (AV × Heap × List Prop)) : Prop := match x with
  | some (r', σ, ob) => r' = r ∧ freezeA 0 σ r = some r ∧ AllP ob
  | none => False

/-- A contract out of a run with open values. -/
theorem pure_runFS (hm : C.P.follows .mixedOrders = true) (hall : allOK C.P = true) {f : FuncId} {fn : Func} (hf : C.P.funcs[f]? = some fn) {args : List AV} (ha : args.length ≤ fn.ntmps) {r : AV} (hn : panOf r = none) (or : List Told)
    (h : OkF r (runFS C fn args [] or)) : PureOK C f args r := by
  unfold OkF at h
  split at h
  · rename_i r' σ ob hr
    obtain ⟨rfl, h1, h2⟩ := h
    have := (runFS_ok C hm hall hf ha hr h2 hn).plain (Nat.zero_le _) h1
    show FnOK C 0 f args [] r' []
    simpa using this
  · exact h.elim

/-- One round more. -/
theorem loop_on {b : Code} {head : TM} {σ : Heap} (or : List Told) {n : Nat} {l : List (Nat × AV)} {σ' : Heap} {ex : AExit} {env : Env} {σ₂ : Heap} (h : OkE (fun x e s => x = .normal ∧ s = σ' ∧ getsP n l e) (runS C b head σ or)) (k : ExecL C 0 b (hdT n l).get σ' ex env σ₂) :
    ExecL C 0 b head.get σ ex env σ₂ := by
  unfold OkE at h
  split at h
  · rename_i x e s ob hr
    obtain ⟨⟨rfl, rfl, h1⟩, h2⟩ := h
    exact .on (runS_ok C hr h2) (.weak (getsP_sub h1) k)
  · exact h.elim
/-- Nothing in these slots leads to what lies behind. -/
def refsT (m : Nat) : TM → Prop
  | .leaf => True
  | .node v l r => v.refsB m = true ∧ refsT m l ∧ refsT m r
theorem refsT_get {m : Nat} : ∀ (t : TM), refsT m t → ∀ x, (t.get x).refsB m = true
  | .leaf, _, x => by simp [TM.get_leaf, AV.refsB, refsBL]
  | .node v l r, ⟨h1, h2, h3⟩, x => by
    cases x with
    | zero => exact h1
    | succ x =>
      simp only [TM.get_succ]
      split
      · exact refsT_get l h2 (x / 2)
      · exact refsT_get r h3 (x / 2)
/-- One round more; what it made goes. -/
theorem loop_onD {b : Code} {head : TM} {σ : Heap} (or : List Told) {n : Nat} {l : List (Nat × AV)} {ex : AExit} {env : Env} {σ₂ : Heap} (hr : refsT σ.length (hdT n l))
    (h : OkE (fun x e s => x = .normal ∧ s.take σ.length = σ ∧ (∀ r o, r < σ.length → s[r]? = some o → o.refsB σ.length = true) ∧ getsP n l e) (runS C b head σ or)) (k : ExecL C 0 b (hdT n l).get σ ex env σ₂) :
    ExecL C 0 b head.get σ ex env σ₂ := by
  unfold OkE at h
  split at h
  · rename_i x e s ob hrun
    obtain ⟨⟨rfl, h1, h2, h3⟩, h4⟩ := h
    refine .onDrop (env₂ := (hdT n l).get) (runS_ok C hrun h4) h2 (fun x => ?_) (by rw [h1]; exact k)
    rcases getsP_sub h3 x with h | h
    · exact .inl h
    · refine .inr ?_
      unfold dropE
      rw [← h, if_pos (refsT_get _ hr x)]
  · exact h.elim
/-- The last round. -/
theorem loop_out {b : Code} {head : TM} {σ : Heap} (or : List Told) {ex : AExit} {n : Nat} {l : List (Nat × AV)} {σ' : Heap} (hx : ex ≠ .normal) (h : OkE (fun x e s => x = ex ∧ s = σ' ∧ getsP n l e) (runS C b head σ or)) : ExecL C 0 b head.get σ ex (hdT n l).get σ' := by
  unfold OkE at h
  split at h
  · rename_i x e s ob hr
    obtain ⟨⟨rfl, rfl, h1⟩, h2⟩ := h
    exact .forget (getsP_sub h1) (.out (runS_ok C hr h2) hx)
  · exact h.elim
/-- The last round, whatever memory it leaves. -/
theorem loop_outE {b : Code} {head : TM} {σ : Heap} (or : List Told) {ex : AExit} {n : Nat} {l : List (Nat × AV)} (hx : ex ≠ .normal) (h : OkE (fun x e _ => x = ex ∧ getsP n l e) (runS C b head σ or)) : ∃ σ', ExecL C 0 b head.get σ ex (hdT n l).get σ' := by
  unfold OkE at h
  split at h
  · rename_i x e s ob hr
    obtain ⟨⟨rfl, h1⟩, h2⟩ := h
    exact ⟨s, .forget (getsP_sub h1) (.out (runS_ok C hr h2) hx)⟩
  · exact h.elim
end
end
end Go.Abs
