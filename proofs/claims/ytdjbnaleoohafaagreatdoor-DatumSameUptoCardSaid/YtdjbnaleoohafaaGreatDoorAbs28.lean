/-
  AN ABSTRACT SEMANTICS, 28: what must hold ahead of code, for runs with open values.
-/
import Derived.Test.YtdjbnaleoohafaaGreatDoorAbs27
namespace Go.Abs
open Go Go.RowKit

section
variable {C : Ctx} {lo : Nat}

theorem afterA_ex {K Kp : AV → Heap → Prop} {r : AV} {σ : Heap} (h : afterA K Kp r σ) : (panOf r = none ∧ K r σ) ∨ ∃ p, panOf r = some p ∧ Kp p σ := by
  unfold afterA at h
  cases hp : panOf r with
  | none => rw [hp] at h; exact .inl ⟨rfl, h⟩
  | some p => rw [hp] at h; exact .inr ⟨p, rfl, h⟩

/-- One way through an operation. -/
theorem aop_ex {o : Oper} {K Kp : AV → Heap → Prop} {env : Env} {σ : Heap} (h : aop C lo o K Kp env σ) :
    (∃ v σ', K v σ' ∧ ∀ K' Kp' : AV → Heap → Prop, K' v σ' → aop C lo o K' Kp' env σ) ∨ ∃ p σ', Kp p σ' ∧ ∀ K' Kp' : AV → Heap → Prop, Kp' p σ' → aop C lo o K' Kp' env σ := by
  unfold aop at h
  split at h
  · rename_i hop
    split at h
    · rename_i hf
      obtain ⟨r, σ', h1, h2⟩ := h
      rcases afterA_ex h2 with ⟨hp, h3⟩ | ⟨p, hp, h3⟩
      · exact .inl ⟨r, σ', h3, fun K' Kp' hk => aop_value hop hf h1 (by unfold afterA; rw [hp]; exact hk)⟩
      · exact .inr ⟨p, σ', h3, fun K' Kp' hk => aop_value hop hf h1 (by unfold afterA; rw [hp]; exact hk)⟩
    · exact h.elim
  · rename_i hop
    split at h
    · rename_i hf
      obtain ⟨f, r, σ', hm, h1, h2⟩ := h
      rcases afterA_ex h2 with ⟨hp, h3⟩ | ⟨p, hp, h3⟩
      · exact .inl ⟨r, σ', h3, fun K' Kp' hk => aop_invoke hop hf hm h1 (by unfold afterA; rw [hp]; exact hk)⟩
      · exact .inr ⟨p, σ', h3, fun K' Kp' hk => aop_invoke hop hf hm h1 (by unfold afterA; rw [hp]; exact hk)⟩
    · exact h.elim
  · rename_i hop
    split at h
    · rename_i hf; exact .inr ⟨_, _, h, fun K' Kp' hk => aop_panic hop hf hk⟩
    · exact h.elim
  · split at h
    · rename_i ho; exact .inl ⟨_, _, h, fun K' Kp' hk => aop_of_opA ho hk⟩
    · exact h.elim

theorem aops_ex {ops : Array Oper} {K : AExit → Env → Heap → Prop} : ∀ (l : List Oper) (env : Env) (σ : Heap), aops C lo ops l K env σ → ∃ x e s, K x e s ∧ aops C lo ops l (fun x' e' s' => x' = x ∧ e' = e ∧ s' = s) env σ
  | [], env, σ, h => ⟨_, _, _, h, rfl, rfl, rfl⟩
  | o :: rest, env, σ, h => by
    unfold aops at h
    split at h
    · rename_i hw
      rcases aop_ex h with ⟨v, σ', h1, h2⟩ | ⟨p, σ', h1, h2⟩
      · obtain ⟨x, e, s, h3, h4⟩ := aops_ex rest _ _ h1
        refine ⟨x, e, s, h3, ?_⟩
        unfold aops
        rw [hw]
        exact h2 _ _ h4
      · refine ⟨_, _, _, h1, ?_⟩
        unfold aops
        rw [hw]
        exact h2 _ _ ⟨rfl, rfl, rfl⟩
    · rename_i hw
      obtain ⟨x, e, s, h3, h4⟩ := aops_ex rest _ _ h
      refine ⟨x, e, s, h3, ?_⟩
      unfold aops
      rw [hw]; exact h4
    · exact h.elim

theorem aopsL_ex {ops : Array Oper} {K : AExit → Env → Heap → Prop} : ∀ (n : Nat) (l : List Oper), l.length ≤ n → ∀ (env : Env) (σ : Heap), aopsL C lo ops l K env σ → ∃ x e s, K x e s ∧ aopsL C lo ops l (fun x' e' s' => x' = x ∧ e' = e ∧ s' = s) env σ
  | n, [], _, env, σ, h => ⟨_, _, _, h, rfl, rfl, rfl⟩
  | n, [o], _, env, σ, h => aops_ex [o] env σ h
  | 0, o :: o' :: rest, hn, _, _, _ => by simp at hn
  | n + 1, o :: o' :: rest, hn, env, σ, h => by
    simp only [List.length_cons] at hn
    unfold aopsL at h
    split at h
    · rename_i d x hl
      obtain ⟨x, e, s, h3, h4⟩ := aopsL_ex n rest (by omega) _ _ h
      refine ⟨x, e, s, h3, ?_⟩
      unfold aopsL
      rw [hl]; exact h4
    · rename_i hl
      split at h
      · rename_i hw
        rcases aop_ex h with ⟨v, σ', h1, h2⟩ | ⟨p, σ', h1, h2⟩
        · obtain ⟨x, e, s, h3, h4⟩ := aopsL_ex n (o' :: rest) (by simp only [List.length_cons]; omega) _ _ h1
          refine ⟨x, e, s, h3, ?_⟩
          unfold aopsL
          rw [hl]
          simp only
          rw [hw]
          exact h2 _ _ h4
        · refine ⟨_, _, _, h1, ?_⟩
          unfold aopsL
          rw [hl]
          simp only
          rw [hw]
          exact h2 _ _ (by simp)
      · rename_i hw
        obtain ⟨x, e, s, h3, h4⟩ := aopsL_ex n (o' :: rest) (by simp only [List.length_cons]; omega) _ _ h
        refine ⟨x, e, s, h3, ?_⟩
        unfold aopsL
        rw [hl]
        simp only
        rw [hw]; exact h4
      · exact h.elim
end

def seqK (next : Env → Heap → Prop) (K : AExit → Env → Heap → Prop) : AExit → Env → Heap → Prop
  | .normal, e, s => next e s
  | x, e, s => K x e s
def blockK (id : Nat) (K : AExit → Env → Heap → Prop) : AExit → Env → Heap → Prop
  | .exit i, e, s => (i = id → K .normal e s) ∧ (i ≠ id → K (.exit i) e s)
  | x, e, s => K x e s
def condK (v : AV) (x y : Prop) : Prop := match v with
  | .bool b => (b = true → x) ∧ (b = false → y)
  | _ => False

/-- What must hold ahead of code. -/
def wpX (C : Ctx) (lo : Nat) : Code → (AExit → Env → Heap → Prop) → Env → Heap → Prop
  | .skip, K, env, σ => K .normal env σ
  | .label _, K, env, σ => K .normal env σ
  | .region _ ops false, K, env, σ => aopsL C lo ops ops.toList K env σ
  | .region _ ops true, K, env, σ => (∃ env' σ', DrawOK C lo ops env σ env' σ' ∧ K .normal env' σ') ∨ (∃ p σ', DrawPan C lo ops env σ p σ' ∧ K (.pan p) (envU ops env) σ')
  | .seq a b, K, env, σ => wpX C lo a (seqK (wpX C lo b K) K) env σ
  | .cond c x y, K, env, σ => condK (evA C env c) (wpX C lo x K env σ) (wpX C lo y K env σ)
  | .block id b, K, env, σ => wpX C lo b (blockK id K) env σ
  | .loop b, K, env, σ => ∃ ex env' σ', ExecL C lo b env σ ex env' σ' ∧ K ex env' σ'
  | .exit id, K, env, σ => K (.exit id) env σ
  | .goto l, K, env, σ => K (.goto l) env σ
  | .ret, K, env, σ => K .ret env σ
  | .scope b, K, env, σ => ∃ ex env' σ', ExecS C lo b b env σ ex env' σ' ∧ K ex env' σ'
  | _, _, _, _ => False

theorem wpX_ok {C : Ctx} {lo : Nat} : ∀ (c : Code) (K : AExit → Env → Heap → Prop) (env : Env) (σ : Heap), wpX C lo c K env σ → ∃ ex env' σ', Exec C lo c env σ ex env' σ' ∧ K ex env' σ' := by
  intro c
  induction c with
  | skip => intro K env σ h; exact ⟨_, _, _, .skip, h⟩
  | label l => intro K env σ h; exact ⟨_, _, _, .label, h⟩
  | region id ops d =>
    intro K env σ h
    cases d with
    | false =>
      obtain ⟨x, e, s, h1, h2⟩ := aopsL_ex _ _ (Nat.le_refl _) _ _ h
      exact ⟨x, e, s, .lits h2, h1⟩
    | true =>
      rcases h with ⟨e, s, h1, h2⟩ | ⟨p, s, h1, h2⟩
      · exact ⟨_, _, _, .draw h1, h2⟩
      · exact ⟨_, _, _, .drawP h1, h2⟩
  | seq a b iha ihb =>
    intro K env σ h
    obtain ⟨ex, e, s, h1, h2⟩ := iha _ _ _ h
    by_cases hx : ex = .normal
    · subst hx
      obtain ⟨ex2, e2, s2, h3, h4⟩ := ihb _ _ _ h2
      exact ⟨_, _, _, .seq h1 h3, h4⟩
    · refine ⟨_, _, _, .seqOut h1 hx, ?_⟩
      cases ex <;> first | exact absurd rfl hx | exact h2
  | cond c x y ihx ihy =>
    intro K env σ h
    have h : condK (evA C env c) (wpX C lo x K env σ) (wpX C lo y K env σ) := h
    unfold condK at h
    split at h
    · rename_i b hb
      cases b with
      | true => obtain ⟨ex, e, s, h1, h2⟩ := ihx _ _ _ (h.1 rfl); exact ⟨_, _, _, .condT hb h1, h2⟩
      | false => obtain ⟨ex, e, s, h1, h2⟩ := ihy _ _ _ (h.2 rfl); exact ⟨_, _, _, .condF hb h1, h2⟩
    · exact h.elim
  | block id b ih =>
    intro K env σ h
    obtain ⟨ex, e, s, h1, h2⟩ := ih _ _ _ h
    by_cases hx : ex = .exit id
    · subst hx
      exact ⟨_, _, _, .blockIn h1, h2.1 rfl⟩
    · refine ⟨_, _, _, .blockOut h1 hx, ?_⟩
      cases ex with
      | exit i => exact h2.2 (fun e => hx (by rw [e]))
      | _ => exact h2
  | loop b => intro K env σ ⟨ex, e, s, h1, h2⟩; exact ⟨_, _, _, .loop h1, h2⟩
  | exit id => intro K env σ h; exact ⟨_, _, _, .exit, h⟩
  | goto l => intro K env σ h; exact ⟨_, _, _, .goto, h⟩
  | ret => intro K env σ h; exact ⟨_, _, _, .ret, h⟩
  | scope b => intro K env σ ⟨ex, e, s, h1, h2⟩; exact ⟨_, _, _, .scope h1, h2⟩
  | _ => intro K env σ h; exact h.elim

/-- What a function's code must come to. -/
def retK (C : Ctx) (fn : Func) (r : AV) (σ₁ : Heap) : AExit → Env → Heap → Prop
  | .normal, e, s => resA C.P s e fn.results.toList = some r ∧ s = σ₁
  | .ret, e, s => resA C.P s e fn.results.toList = some r ∧ s = σ₁
  | _, _, _ => False

/-- A contract out of its code. -/
theorem fn_wpX {C : Ctx} {lo : Nat} (hm : C.P.follows .mixedOrders = true) (hall : allOK C.P = true) {f : FuncId} {fn : Func} {c : Code} (hf : C.P.funcs[f]? = some fn) (hb : fn.body = some c) {args : List AV} (ha : args.length ≤ fn.ntmps) {σ σ₁ : Heap} (hlo : lo ≤ σ.length) {r : AV} (hn : panOf r = none)
    (h : wpX C lo c (retK C fn r σ₁) (env0 args) σ) : FnOK C lo f args σ r σ₁ := by
  obtain ⟨ex, e, s, h1, h2⟩ := wpX_ok _ _ _ _ h
  have hc := (allOK_get hall hf hb).2
  cases ex with
  | normal => obtain ⟨h3, rfl⟩ := h2; exact fn_ok hm hf hb hc ha hlo h1 (.inl rfl) h3 hn
  | ret => obtain ⟨h3, rfl⟩ := h2; exact fn_ok hm hf hb hc ha hlo h1 (.inr rfl) h3 hn
  | _ => exact h2.elim
end Go.Abs
