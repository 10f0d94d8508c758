/-
  AN ABSTRACT SEMANTICS, 17: a region that draws its order: one order of the text, looked at against the others.
-/
import Derived.Test.YtdjbnaleoohafaaGreatDoorAbs16
namespace Go.Abs
open Go Go.RowKit

section
variable {C : Ctx} {lo : Nat} {σ : Heap}

theorem pairs_congr {env env' : Env} (ps : List (Nat × Operand)) (h : ∀ x ∈ ps, evA C env x.2 = evA C env' x.2) : (ps.map fun p => (p.1, evA C env p.2)) = ps.map fun p => (p.1, evA C env' p.2) :=
  List.map_congr_left fun p hp => by rw [h p hp]

theorem opA_congr {env env' : Env} {o : Oper} (h : ∀ x ∈ o.op.operands, evA C env x = evA C env' x) : opA C lo env σ o = opA C lo env' σ o := by
  obtain ⟨dst, op, type, pos, after, guard⟩ := o
  cases op <;> simp only [Op.operands] at h <;> simp only [opA]
  case build t ps => rw [pairs_congr ps.toList fun x hx => h x.2 (by simp; exact ⟨x.1, by simpa using hx⟩)]
  case buildSlice t n ps => rw [pairs_congr ps.toList fun x hx => h x.2 (by simp; exact ⟨x.1, by simpa using hx⟩)]
  case makeFunc fn first cap =>
    rw [List.map_congr_left (l := first.toList) fun x hx => h x (by simp_all), List.map_congr_left (l := cap.toList) fun x hx => h x (by simp_all)]
  case makeMap t r => cases r <;> simp_all
  case slice t x lo hi mx => cases lo <;> cases hi <;> cases mx <;> simp_all
  case call c =>
    obtain ⟨callee, args, ta⟩ := c
    cases callee with
    | builtin b =>
      simp only [Call.operands] at h
      simp only
      rw [List.map_congr_left (l := args.toList) fun x hx => h x (by simp_all)]
    | value f => rfl
    | invoke r n => rfl
  all_goals (first | rfl | (simp_all; done))

theorem aop_congr {env env' : Env} {o : Oper} {K Kp : AV → Heap → Prop} (h : ∀ x ∈ o.op.operands, evA C env x = evA C env' x) : aop C lo o K Kp env σ = aop C lo o K Kp env' σ := by
  unfold aop
  have ho := opA_congr (lo := lo) (σ := σ) h
  split
  · rename_i fo args ta hop
    have h1 : evA C env fo = evA C env' fo := h fo (by simp [hop, Op.operands, Call.operands])
    have h2 : args.toList.map (evA C env) = args.toList.map (evA C env') := List.map_congr_left fun x hx => h x (by simp [hop, Op.operands, Call.operands]; simp at hx; exact .inr hx)
    rw [h1, h2]
  · rename_i recv name args ta hop
    have h1 : evA C env recv = evA C env' recv := h recv (by simp [hop, Op.operands, Call.operands])
    have h2 : args.toList.map (evA C env) = args.toList.map (evA C env') := List.map_congr_left fun x hx => h x (by simp [hop, Op.operands, Call.operands]; simp at hx; exact .inr hx)
    rw [h1, h2]
  · rename_i x hop
    have h1 : evA C env x = evA C env' x := h x (by simp [hop, Op.operands])
    rw [h1]
  · rw [ho]

theorem aop_of_opA {env : Env} {o : Oper} {K Kp : AV → Heap → Prop} {v : AV} {σ' : Heap} (h : opA C lo env σ o = some (v, σ')) (hk : K v σ') : aop C lo o K Kp env σ := by
  unfold aop
  split
  · rename_i hop; simp [opA, hop] at h
  · rename_i hop; simp [opA, hop] at h
  · rename_i hop; simp [opA, hop] at h
  · rw [h]; exact hk
theorem aop_value {env : Env} {o : Oper} {K Kp : AV → Heap → Prop} {fo : Operand} {args : Array Operand} {ta : Array TypeId} {f : FuncId} {first cap : List AV} {r : AV} {σ' : Heap} (hop : o.op = .call { callee := .value fo, args := args, argTypes := ta })
    (hf : evA C env fo = .func (.func f) first cap) (hc : CallOK C lo f (first ++ args.toList.map (evA C env) ++ cap) σ r σ') (hk : afterA K Kp r σ') : aop C lo o K Kp env σ := by
  simp only [aop, hop, hf]; exact ⟨r, σ', hc, hk⟩
theorem aop_invoke {env : Env} {o : Oper} {K Kp : AV → Heap → Prop} {recv : Operand} {name : String} {args : Array Operand} {ta : Array TypeId} {f : FuncId} {t : TypeId} {v r : AV} {σ' : Heap} (hop : o.op = .call { callee := .invoke recv name, args := args, argTypes := ta })
    (hf : evA C env recv = .iface t v) (hm : MethOK C t name f) (hc : CallOK C lo f (v :: args.toList.map (evA C env)) σ r σ') (hk : afterA K Kp r σ') : aop C lo o K Kp env σ := by
  simp only [aop, hop, hf]; exact ⟨f, r, σ', hm, hc, hk⟩
theorem aop_panic {env : Env} {o : Oper} {K Kp : AV → Heap → Prop} {x : Operand} {t : TypeId} {v : AV} (hop : o.op = .panic x) (hf : evA C env x = .iface t v) (hk : Kp (.iface t v) σ) : aop C lo o K Kp env σ := by
  simp only [aop, hop, hf]; exact hk
end

/-- May the operation do more than read and compute? -/
def effOp : Op → Bool
  | .alloc _ | .box .. | .store .. | .makeMap .. | .makeSlice .. | .mapUpdate .. | .insert .. | .range .. | .next .. => true
  | .call { callee := .builtin .len, .. } | .call { callee := .builtin .max, .. } | .call { callee := .builtin .min, .. } => false
  | .call _ => true
  | _ => false

/-- Which operations come ahead of one in every order, as a number's bits. -/
def edgeMask : List Edge → List Nat → Nat
  | [], _ => 0
  | e :: es, acc => (if Region.binds .any e then (1 <<< e.on) ||| acc.getD e.on 0 else 0) ||| edgeMask es acc
def ancsGo : List Oper → List Nat → List Nat
  | [], acc => acc
  | o :: r, acc => ancsGo r (acc ++ [edgeMask o.after.toList acc])
def ancs (ops : List Oper) : List Nat := ancsGo ops []

def pairOK (strict : Bool) (ops : Array Oper) (anc : List Nat) (i j : Nat) (oi oj : Oper) : Bool :=
  (anc.getD i 0).testBit j || (oj.apart ops oi && !(strict && effOp oi.op && effOp oj.op))
def pairsOK (strict : Bool) (ops : Array Oper) (anc : List Nat) (i : Nat) (oi : Oper) : Nat → List Oper → Bool
  | _, [] => true
  | j, oj :: r => pairOK strict ops anc i j oi oj && pairsOK strict ops anc i oi (j + 1) r
def allPairs (strict : Bool) (ops : Array Oper) (anc : List Nat) : Nat → List Oper → List Oper → Bool
  | _, _, [] => true
  | i, before, oi :: r => pairsOK strict ops anc i oi 0 before && oi.after.all (fun e => !Region.binds .any e || decide (e.on < i)) && allPairs strict ops anc (i + 1) (before ++ [oi]) r

/-- What a region must show by its text alone. -/
def drawStatic (ops : Array Oper) : Bool := allPairs true ops (ancs ops.toList) 0 [] ops.toList

/-- The same, where writing operations may come in either order. -/
def drawLoose (ops : Array Oper) : Bool := allPairs false ops (ancs ops.toList) 0 [] ops.toList

theorem pairsOK_get {strict : Bool} {ops : Array Oper} {anc : List Nat} {i : Nat} {oi : Oper} : ∀ {l : List Oper} {s : Nat}, pairsOK strict ops anc i oi s l = true → ∀ (j : Nat) (oj : Oper), l[j]? = some oj → pairOK strict ops anc i (s + j) oi oj = true
  | [], _, _, j, oj, h => by simp at h
  | o :: l, s, h, j, oj, hj => by
    simp only [pairsOK, Bool.and_eq_true] at h
    cases j with
    | zero => simp at hj; subst hj; exact h.1
    | succ j => simp only [List.getElem?_cons_succ] at hj; have := pairsOK_get h.2 j oj hj; rwa [show s + 1 + j = s + (j + 1) from by omega] at this

theorem allPairs_get {strict : Bool} {ops : Array Oper} {anc : List Nat} : ∀ {l before : List Oper} {s : Nat}, allPairs strict ops anc s before l = true → s = before.length → ∀ (i : Nat) (oi : Oper), l[i]? = some oi →
    (∀ (j : Nat) (oj : Oper), j < s + i → (before ++ l)[j]? = some oj → pairOK strict ops anc (s + i) j oi oj = true) ∧ ∀ e ∈ oi.after, Region.binds .any e = true → e.on < s + i
  | [], _, _, _, _, i, oi, h => by simp at h
  | o :: l, before, s, h, hs, i, oi, hi => by
    simp only [allPairs, Bool.and_eq_true] at h
    cases i with
    | zero =>
      simp at hi; subst hi
      refine ⟨fun j oj hj hoj => ?_, fun e he hb => ?_⟩
      · rw [List.getElem?_append_left (by omega)] at hoj
        have := pairsOK_get h.1.1 j oj hoj
        simpa using this
      · have h2 := h.1.2
        rw [Array.all_eq_true_iff_forall_mem] at h2
        have := h2 e he
        simpa [hb] using this
    | succ i =>
      simp only [List.getElem?_cons_succ] at hi
      have := allPairs_get h.2 (by simp [hs]) i oi hi
      rw [show s + 1 + i = s + (i + 1) from by omega] at this
      simpa using this

theorem ancsGo_get : ∀ (l : List Oper) (acc : List Nat) (i : Nat), (ancsGo l acc).getD i 0 = if i < acc.length then acc.getD i 0 else
    match l[i - acc.length]? with
    | some o => edgeMask o.after.toList ((ancsGo l acc).take i)
    | none => 0 := by
  intro l
  induction l with
  | nil =>
    intro acc i
    simp only [ancsGo, List.getElem?_nil]
    split
    · rfl
    · rename_i h; rw [List.getD_eq_getElem?_getD, List.getElem?_eq_none (by omega)]; rfl
  | cons o l ih =>
    intro acc i
    simp only [ancsGo]
    have pre : ∀ (l : List Oper) (acc : List Nat) (k : Nat), k ≤ acc.length → (ancsGo l acc).take k = acc.take k := by
      intro l
      induction l with
      | nil => intro acc k _; rfl
      | cons o l ih => intro acc k hk; simp only [ancsGo]; rw [ih _ k (by simp; omega), List.take_append_of_le_length hk]
    rw [ih]
    simp only [List.length_append, List.length_singleton]
    by_cases h1 : i < acc.length
    · rw [if_pos (by omega), if_pos h1, List.getD_eq_getElem?_getD, List.getD_eq_getElem?_getD, List.getElem?_append_left h1]
    · rw [if_neg h1]
      by_cases h2 : i = acc.length
      · subst h2
        rw [if_pos (by omega)]
        simp only [Nat.sub_self, List.getElem?_cons_zero]
        rw [pre l _ acc.length (by simp), List.take_append_of_le_length (Nat.le_refl _), List.take_length]
        simp [List.getD]
      · rw [if_neg (by omega), show i - acc.length = (i - (acc.length + 1)) + 1 from by omega, List.getElem?_cons_succ]

theorem edgeMask_bit : ∀ (es : List Edge) (acc : List Nat) (j : Nat), (edgeMask es acc).testBit j = true → ∃ e ∈ es, Region.binds .any e = true ∧ (e.on = j ∨ (acc.getD e.on 0).testBit j = true)
  | [], _, j, h => by simp [edgeMask] at h
  | e :: es, acc, j, h => by
    simp only [edgeMask, Nat.testBit_or, Bool.or_eq_true] at h
    rcases h with h | h
    · split at h
      · rename_i hb
        simp only [Nat.testBit_or, Bool.or_eq_true] at h
        rcases h with h | h
        · refine ⟨e, by simp, hb, .inl ?_⟩
          rw [Nat.one_shiftLeft, Nat.testBit_two_pow] at h
          simpa using h
        · exact ⟨e, by simp, hb, .inr h⟩
      · simp at h
    · obtain ⟨e', h1, h2⟩ := edgeMask_bit es acc j h
      exact ⟨e', by simp [h1], h2⟩

/-- What is done is done with all that comes ahead of it. -/
theorem anc_closed {ops : List Oper} {S : Nat → Prop} (hS : ∀ i o, ops[i]? = some o → S i → ∀ e ∈ o.after, Region.binds .any e = true → S e.on)
    (hlt : ∀ i o, ops[i]? = some o → ∀ e ∈ o.after, Region.binds .any e = true → e.on < i) : ∀ (i j : Nat), (∀ o, ops[i]? = some o → ∀ e ∈ o.after, Region.binds .any e = true → S e.on) → ((ancs ops).getD i 0).testBit j = true → S j := by
  intro i
  induction i using Nat.strongRecOn with
  | _ i ih =>
    intro j hi hb
    unfold ancs at hb
    rw [ancsGo_get] at hb
    simp only [List.length_nil, Nat.not_lt_zero, if_false, Nat.sub_zero] at hb
    cases ho : ops[i]? with
    | none => simp [ho] at hb
    | some o =>
      simp only [ho] at hb
      obtain ⟨e, h1, h2, h3⟩ := edgeMask_bit _ _ _ hb
      have h1' : e ∈ o.after := by simpa using h1
      have hSe := hi o ho e h1' h2
      have hle := hlt i o ho e h1' h2
      rcases h3 with h3 | h3
      · exact h3 ▸ hSe
      · refine ih e.on hle j (fun o' ho' e' he' hb' => hS _ o' ho' hSe e' he' hb') ?_
        unfold ancs
        simp only [List.getD_eq_getElem?_getD, List.getElem?_take, hle, if_true] at h3 ⊢
        exact h3
end Go.Abs
