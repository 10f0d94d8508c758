/-
  AN ABSTRACT SEMANTICS, 24: what the interpreter of operations shows.
-/
import Derived.Test.YtdjbnaleoohafaaGreatDoorAbs23
namespace Go.Abs
open Go Go.RowKit
noncomputable section

/-- What stands behind calls. -/
def Good (C : Ctx) (callee : Callee) : Prop := ∀ f args σ r σ', callee f args σ = some (r, σ') → CallOK C 0 f args σ r σ'

section
variable {C : Ctx} {callee : Callee} {ops : Array Oper}

theorem runOp_ok (hc : Good C callee) {o : Oper} {env : Env} {σ σ' : Heap} {v : AV} {K Kp : AV → Heap → Prop} (h : runOp C callee o env σ = some (.val v σ')) (hk : K v σ') : aop C 0 o K Kp env σ := by
  unfold runOp at h
  split at h
  · rename_i fo args ta hop
    split at h
    · rename_i f first cap hf
      obtain ⟨h1, h2⟩ := ofCall_val h
      exact aop_value hop hf (hc _ _ _ _ _ h1) (by unfold afterA; rw [h2]; exact hk)
    · cases h
  · rename_i recv name args ta hop
    split at h
    · rename_i t x hf
      split at h
      · rename_i f hm
        obtain ⟨h1, h2⟩ := ofCall_val h
        exact aop_invoke hop hf (methodA_ok hm) (hc _ _ _ _ _ h1) (by unfold afterA; rw [h2]; exact hk)
      · cases h
    · cases h
  · split at h
    · simp at h
    · cases h
  · exact aop_of_opA (ofOp_val h) hk

theorem runOp_pan (hc : Good C callee) {o : Oper} {env : Env} {σ σ' : Heap} {p : AV} {K Kp : AV → Heap → Prop} (h : runOp C callee o env σ = some (.pan p σ')) (hk : Kp p σ') : aop C 0 o K Kp env σ := by
  unfold runOp at h
  split at h
  · rename_i fo args ta hop
    split at h
    · rename_i f first cap hf
      exact aop_value hop hf (hc _ _ _ _ _ (ofCall_pan h)) hk
    · cases h
  · rename_i recv name args ta hop
    split at h
    · rename_i t x hf
      split at h
      · rename_i f hm
        exact aop_invoke hop hf (methodA_ok hm) (hc _ _ _ _ _ (ofCall_pan h)) hk
      · cases h
    · cases h
  · rename_i x hop
    split at h
    · rename_i t v hf
      simp only [Option.some.injEq, OR.pan.injEq] at h
      obtain ⟨rfl, rfl⟩ := h
      exact aop_panic hop hf hk
    · cases h
  · exact (ofOp_pan h).elim

theorem runOp_opA {o : Oper} {env : Env} {σ : Heap} (he : effOp o.op = false) {v : AV} {s : Heap} (h : runOp C callee o env σ = some (.val v s)) : opA C 0 env σ o = some (v, s) := by
  unfold runOp at h
  split at h
  · rename_i hop; rw [hop] at he; simp [effOp] at he
  · rename_i hop; rw [hop] at he; simp [effOp] at he
  · split at h
    · simp at h
    · cases h
  · exact ofOp_val h

theorem runOps_ok (hc : Good C callee) : ∀ (l : List Oper) (env : TM) (σ : Heap) (ex : AExit) (env' : TM) (σ' : Heap), runOps C callee ops l env σ = some (ex, env', σ') →
    aops C 0 ops l (fun x e s => x = ex ∧ e = env'.get ∧ s = σ') env.get σ
  | [], env, σ, ex, env', σ', h => by
    simp only [runOps, Option.some.injEq, Prod.mk.injEq] at h
    obtain ⟨rfl, rfl, rfl⟩ := h
    exact ⟨rfl, rfl, rfl⟩
  | o :: rest, env, σ, ex, env', σ', h => by
    unfold runOps at h
    unfold aops
    split at h
    · rename_i hw
      rw [hw]
      split at h
      · rename_i v s ho
        refine runOp_ok hc ho ?_
        rw [← TM.get_putO]
        exact runOps_ok hc rest _ _ _ _ _ h
      · rename_i p s ho
        cases h
        exact runOp_pan hc ho ⟨rfl, rfl, rfl⟩
      · cases h
    · rename_i hw
      rw [hw]
      simp only
      rw [← TM.get_putO]
      exact runOps_ok hc rest _ _ _ _ _ h
    · cases h

theorem runOpsL_ok (hc : Good C callee) : ∀ (n : Nat) (l : List Oper), l.length ≤ n → ∀ (env : TM) (σ : Heap) (ex : AExit) (env' : TM) (σ' : Heap), runOpsL C callee ops l env σ = some (ex, env', σ') →
    aopsL C 0 ops l (fun x e s => x = ex ∧ e = env'.get ∧ s = σ') env.get σ
  | n, [], _, env, σ, ex, env', σ', h => by
    simp only [runOpsL, Option.some.injEq, Prod.mk.injEq] at h
    obtain ⟨rfl, rfl, rfl⟩ := h
    exact ⟨rfl, rfl, rfl⟩
  | n, [o], _, env, σ, ex, env', σ', h => runOps_ok hc [o] env σ ex env' σ' h
  | 0, o :: o' :: rest, hn, _, _, _, _, _, _ => by simp at hn
  | n + 1, o :: o' :: rest, hn, env, σ, ex, env', σ', h => by
    simp only [List.length_cons] at hn
    unfold runOpsL at h
    unfold aopsL
    split at h
    · rename_i d x hl
      rw [hl]
      simp only
      rw [← TM.get_put, ← TM.get_putO]
      exact runOpsL_ok hc n rest (by omega) _ _ _ _ _ h
    · rename_i hl
      rw [hl]
      simp only
      split at h
      · rename_i hw
        rw [hw]
        split at h
        · rename_i v s ho
          refine runOp_ok hc ho ?_
          rw [← TM.get_putO]
          exact runOpsL_ok hc n (o' :: rest) (by simp only [List.length_cons]; omega) _ _ _ _ _ h
        · rename_i p s ho
          cases h
          exact runOp_pan hc ho ⟨rfl, rfl, rfl⟩
        · cases h
      · rename_i hw
        rw [hw]
        simp only
        rw [← TM.get_putO]
        exact runOpsL_ok hc n (o' :: rest) (by simp only [List.length_cons]; omega) _ _ _ _ _ h
      · cases h

theorem drawPairsI_mem {anc : List Nat} {i : Nat} {oi : Oper} (h1 : effOp oi.op = false) (h2 : heapOp oi.op = true) : ∀ (l : List Oper) (s e : Nat) (oe : Oper), l[e]? = some oe → effOp oe.op = true →
    ((s + e < i ∧ (anc.getD i 0).testBit (s + e) = false) ∨ (i < s + e ∧ (anc.getD (s + e) 0).testBit i = false)) → (i, oi, s + e) ∈ drawPairsI anc i oi s l
  | [], _, e, _, h, _, _ => by simp at h
  | x :: l, s, e, oe, h, he, hq => by
    unfold drawPairsI
    cases e with
    | zero =>
      simp only [List.getElem?_cons_zero, Option.some.injEq] at h
      subst h
      rw [if_pos ⟨h1, h2, he, hq⟩]
      exact List.mem_cons_self
    | succ e =>
      simp only [List.getElem?_cons_succ] at h
      have := drawPairsI_mem h1 h2 l (s + 1) e oe h he (by rw [show s + 1 + e = s + (e + 1) from by omega]; exact hq)
      rw [show s + 1 + e = s + (e + 1) from by omega] at this
      split
      · exact List.mem_cons_of_mem _ this
      · exact this

theorem drawPairsGo_mem {anc : List Nat} {all : List Oper} : ∀ (l : List Oper) (s i : Nat) (oi : Oper), l[i]? = some oi → ∀ p, p ∈ drawPairsI anc (s + i) oi 0 all → p ∈ drawPairsGo anc all s l
  | [], _, i, _, h, _, _ => by simp at h
  | x :: l, s, i, oi, h, p, hp => by
    unfold drawPairsGo
    cases i with
    | zero =>
      simp only [List.getElem?_cons_zero, Option.some.injEq] at h
      subst h
      exact List.mem_append_left _ hp
    | succ i =>
      simp only [List.getElem?_cons_succ] at h
      exact List.mem_append_right _ (drawPairsGo_mem l (s + 1) i oi h p (by rw [show s + 1 + i = s + (i + 1) from by omega]; exact hp))

/-- What the traced run shows of each operation. -/
theorem runTr_ok {env0 : Env} {σ0 : Heap} {tr0 post : List (TM × AV × Heap)} {q : Option AV} {env' : TM} {σ' : Heap} : ∀ (l : List Oper) (k : Nat) (env : TM) (σ : Heap) (tr : List (TM × AV × Heap)), ops.toList.drop k = l → tr0.drop k = tr ++ post → k ≤ ops.size →
    runTr C callee ops l env σ = some (tr, q, env', σ') → envC ops env0 (valOf tr0) k = env.get → hpOf σ0 tr0 k = σ →
    (∀ i o, k ≤ i → i < k + tr.length → ops[i]? = some o → ∃ e, tr0[i]? = some (e, valOf tr0 i, hpOf σ0 tr0 (i + 1)) ∧ envC ops env0 (valOf tr0) i = e.get ∧
      ((wantA ops o e.get = some false ∧ valOf tr0 i = .tuple [] ∧ hpOf σ0 tr0 (i + 1) = hpOf σ0 tr0 i) ∨
       (wantA ops o e.get = some true ∧ runOp C callee o e.get (hpOf σ0 tr0 i) = some (.val (valOf tr0 i) (hpOf σ0 tr0 (i + 1)))))) ∧
    (q = none → k + tr.length = ops.size ∧ env'.get = envC ops env0 (valOf tr0) ops.size ∧ σ' = hpOf σ0 tr0 ops.size) ∧
    ∀ p, q = some p → ∃ o, ops[k + tr.length]? = some o ∧ envC ops env0 (valOf tr0) (k + tr.length) = env'.get ∧ wantA ops o env'.get = some true ∧ runOp C callee o env'.get (hpOf σ0 tr0 (k + tr.length)) = some (.pan p σ')
  | [], k, env, σ, tr, hl, htr, hk, h, he, hs => by
    simp only [runTr, Option.some.injEq, Prod.mk.injEq] at h
    obtain ⟨rfl, rfl, rfl, rfl⟩ := h
    have hlen : ops.size ≤ k := by
      have := congrArg List.length hl
      simp at this; omega
    obtain rfl : k = ops.size := by omega
    refine ⟨fun i o hi _ ho => ?_, fun _ => ⟨rfl, he.symm, hs.symm⟩, (fun p hp => by cases hp)⟩
    rw [Array.getElem?_eq_none hi] at ho; cases ho
  | o :: rest, k, env, σ, tr, hl, ht, hk, h, he, hs => by
    have hko : ops[k]? = some o := by
      have := congrArg (fun l => l[0]?) hl
      simpa [List.getElem?_drop] using this
    have hrest : ops.toList.drop (k + 1) = rest := by
      have := congrArg (List.drop 1) hl
      rw [List.drop_drop] at this
      simpa [Nat.add_comm] using this
    have hk1 : k + 1 ≤ ops.size := by
      rcases Nat.lt_or_ge k ops.size with h' | h'
      · exact h'
      · rw [Array.getElem?_eq_none h'] at hko; cases hko
    have henv : ∀ v, valOf tr0 k = v → envC ops env0 (valOf tr0) (k + 1) = (env.putO o.dst v).get := by
      intro v hv
      rw [TM.get_putO, ← he, ← hv]
      simp [envC, envOf, hko]
    have go : ∀ (v : AV) (s : Heap) (tr' : List (TM × AV × Heap)), tr = (env, v, s) :: tr' → runTr C callee ops rest (env.putO o.dst v) s = some (tr', q, env', σ') →
        ((wantA ops o env.get = some false ∧ v = .tuple [] ∧ s = σ) ∨ (wantA ops o env.get = some true ∧ runOp C callee o env.get σ = some (.val v s))) →
        (∀ i o, k ≤ i → i < k + tr.length → ops[i]? = some o → ∃ e, tr0[i]? = some (e, valOf tr0 i, hpOf σ0 tr0 (i + 1)) ∧ envC ops env0 (valOf tr0) i = e.get ∧
          ((wantA ops o e.get = some false ∧ valOf tr0 i = .tuple [] ∧ hpOf σ0 tr0 (i + 1) = hpOf σ0 tr0 i) ∨
           (wantA ops o e.get = some true ∧ runOp C callee o e.get (hpOf σ0 tr0 i) = some (.val (valOf tr0 i) (hpOf σ0 tr0 (i + 1)))))) ∧
        (q = none → k + tr.length = ops.size ∧ env'.get = envC ops env0 (valOf tr0) ops.size ∧ σ' = hpOf σ0 tr0 ops.size) ∧
        ∀ p, q = some p → ∃ o, ops[k + tr.length]? = some o ∧ envC ops env0 (valOf tr0) (k + tr.length) = env'.get ∧ wantA ops o env'.get = some true ∧ runOp C callee o env'.get (hpOf σ0 tr0 (k + tr.length)) = some (.pan p σ') := by
      intro v s tr' htr hrun hcase
      subst htr
      have hget : tr0[k]? = some (env, v, s) := by
        have := congrArg (fun l => l[0]?) ht
        simpa [List.getElem?_drop] using this
      have hv : valOf tr0 k = v := by simp [valOf, hget]
      have hh : hpOf σ0 tr0 (k + 1) = s := by simp [hpOf, hget]
      have htr' : tr0.drop (k + 1) = tr' ++ post := by
        have := congrArg (List.drop 1) ht
        rw [List.drop_drop] at this
        simpa [Nat.add_comm] using this
      obtain ⟨i1, i2, i3⟩ := runTr_ok rest (k + 1) _ _ _ hrest htr' hk1 hrun (henv v hv) hh
      have hadd : k + ((env, v, s) :: tr').length = k + 1 + tr'.length := by simp only [List.length_cons]; omega
      rw [hadd]
      refine ⟨fun i oi hi hi0 hoi => ?_, i2, i3⟩
      rcases Nat.lt_or_ge k i with h' | h'
      · exact i1 i oi h' hi0 hoi
      · obtain rfl : i = k := by omega
        obtain rfl : o = oi := Option.some.inj (hko.symm.trans hoi)
        refine ⟨env, by rw [hv, hh]; exact hget, he, ?_⟩
        rw [hv, hh, hs]
        exact hcase
    unfold runTr at h
    split at h
    · rename_i hw
      split at h
      · rename_i v s ho
        split at h
        · rename_i tr' q' e s' hr
          simp only [Option.some.injEq, Prod.mk.injEq] at h
          obtain ⟨rfl, rfl, rfl, rfl⟩ := h
          exact go v s tr' rfl hr (.inr ⟨hw, ho⟩)
        · cases h
      · rename_i p s ho
        simp only [Option.some.injEq, Prod.mk.injEq] at h
        obtain ⟨rfl, rfl, rfl, rfl⟩ := h
        refine ⟨fun i oi hi hi0 _ => by simp at hi0; omega, (fun hq => by cases hq), fun p' hp => ?_⟩
        cases hp
        exact ⟨o, hko, he, hw, by rw [List.length_nil, Nat.add_zero, hs]; exact ho⟩
      · cases h
    · rename_i hw
      split at h
      · rename_i tr' q' e s' hr
        simp only [Option.some.injEq, Prod.mk.injEq] at h
        obtain ⟨rfl, rfl, rfl, rfl⟩ := h
        exact go _ _ tr' rfl hr (.inl ⟨hw, rfl, rfl⟩)
      · cases h
    · cases h

theorem runTail_ok {anc : List Nat} {n : Nat} {env0 : Env} {σ0 : Heap} {tr0 : List (TM × AV × Heap)} : ∀ (l : List Oper) (k : Nat) (env : TM) (σ : Heap) (tr : List (TM × AV × Heap)), ops.toList.drop k = l → tr0.drop k = tr → 
    runTail C ops anc n k l env σ = some tr → envC ops env0 (valOf tr0) k = env.get → hpOf σ0 tr0 k = σ →
    ∀ i o, k ≤ i → ops[i]? = some o → ∃ e, tr0[i]? = some (e, valOf tr0 i, hpOf σ0 tr0 (i + 1)) ∧ envC ops env0 (valOf tr0) i = e.get ∧ hpOf σ0 tr0 (i + 1) = hpOf σ0 tr0 i ∧
      ((anc.getD i 0).testBit n = true ∨ (wantA ops o e.get = some false ∧ valOf tr0 i = .tuple []) ∨ (wantA ops o e.get = some true ∧ effOp o.op = false ∧ opA C 0 e.get (hpOf σ0 tr0 i) o = some (valOf tr0 i, hpOf σ0 tr0 i)))
  | [], k, env, σ, tr, hl, htr, h, he, hs, i, o, hi, ho => by
    have hlen : ops.size ≤ k := by
      have := congrArg List.length hl
      simp at this; omega
    rw [Array.getElem?_eq_none (by omega)] at ho; cases ho
  | o :: rest, k, env, σ, tr, hl, ht, h, he, hs, i, oi, hi, hoi => by
    have hko : ops[k]? = some o := by
      have := congrArg (fun l => l[0]?) hl
      simpa [List.getElem?_drop] using this
    have hrest : ops.toList.drop (k + 1) = rest := by
      have := congrArg (List.drop 1) hl
      rw [List.drop_drop] at this
      simpa [Nat.add_comm] using this
    have go : ∀ (v : AV), (runTail C ops anc n (k + 1) rest (env.putO o.dst v) σ).map ((env, v, σ) :: ·) = some tr →
        ((anc.getD k 0).testBit n = true ∨ (wantA ops o env.get = some false ∧ v = .tuple []) ∨ (wantA ops o env.get = some true ∧ effOp o.op = false ∧ opA C 0 env.get σ o = some (v, σ))) →
        ∃ e, tr0[i]? = some (e, valOf tr0 i, hpOf σ0 tr0 (i + 1)) ∧ envC ops env0 (valOf tr0) i = e.get ∧ hpOf σ0 tr0 (i + 1) = hpOf σ0 tr0 i ∧
          ((anc.getD i 0).testBit n = true ∨ (wantA ops oi e.get = some false ∧ valOf tr0 i = .tuple []) ∨ (wantA ops oi e.get = some true ∧ effOp oi.op = false ∧ opA C 0 e.get (hpOf σ0 tr0 i) oi = some (valOf tr0 i, hpOf σ0 tr0 i))) := by
      intro v hm hcase
      simp only [Option.map_eq_some_iff] at hm
      obtain ⟨tr', hrun, rfl⟩ := hm
      have hget : tr0[k]? = some (env, v, σ) := by
        have := congrArg (fun l => l[0]?) ht
        simpa [List.getElem?_drop] using this
      have hv : valOf tr0 k = v := by simp [valOf, hget]
      have hh : hpOf σ0 tr0 (k + 1) = σ := by simp [hpOf, hget]
      have htr' : tr0.drop (k + 1) = tr' := by
        have := congrArg (List.drop 1) ht
        rw [List.drop_drop] at this
        simpa [Nat.add_comm] using this
      have henv : envC ops env0 (valOf tr0) (k + 1) = (env.putO o.dst v).get := by
        rw [TM.get_putO, ← he, ← hv]
        simp [envC, envOf, hko]
      rcases Nat.lt_or_ge k i with h' | h'
      · exact runTail_ok rest (k + 1) _ _ _ hrest htr' hrun henv hh i oi h' hoi
      · obtain rfl : i = k := by omega
        obtain rfl : o = oi := Option.some.inj (hko.symm.trans hoi)
        refine ⟨env, by rw [hv, hh]; exact hget, he, by rw [hh, hs], ?_⟩
        rw [hv, hs]
        exact hcase
    unfold runTail at h
    split at h
    · rename_i hb; exact go .undef h (.inl hb)
    · split at h
      · rename_i hw
        split at h
        · cases h
        · rename_i heff
          split at h
          · rename_i v s ho
            have heff' : effOp o.op = false := by simpa using heff
            exact go v h (.inr (.inr ⟨hw, heff', by rw [opA_same heff' ho] at ho; exact ho⟩))
          · cases h
      · rename_i hw; exact go _ h (.inr (.inl ⟨hw, rfl⟩))
      · cases h

theorem sameAns_eq {v : AV} {o : Oper} {env : Env} {s : Heap} (he : effOp o.op = false) (h : sameAns v (opA C 0 env s o) = true) : opA C 0 env s o = some (v, s) := by
  cases ho : opA C 0 env s o with
  | none => rw [ho] at h; cases h
  | some p =>
    obtain ⟨u, s'⟩ := p
    rw [ho] at h
    obtain rfl := AV.beq_eq _ _ h
    rw [opA_same he ho]

theorem effAhead_ok {anc : Nat} : ∀ (l : List Oper) (tr : List (TM × AV × Heap)) (s i : Nat) (o : Oper) (x : TM × AV × Heap), effAhead ops anc s l tr = true → l[i]? = some o → tr[i]? = some x → effOp o.op = true → wantA ops o x.1.get = some true → anc.testBit (s + i) = true
  | [], _, _, i, _, _, _, h, _, _, _ => by simp at h
  | _ :: _, [], _, i, _, _, _, _, h, _, _ => by simp at h
  | y :: l, z :: tr, s, i, o, x, h, h1, h2, h3, h4 => by
    simp only [effAhead, Bool.and_eq_true] at h
    cases i with
    | zero =>
      simp only [List.getElem?_cons_zero, Option.some.injEq] at h1 h2
      subst h1; subst h2
      have := h.1
      rw [if_pos ⟨h3, h4⟩] at this
      exact this
    | succ i =>
      simp only [List.getElem?_cons_succ] at h1 h2
      have := effAhead_ok l tr (s + 1) i o x h.2 h1 h2 h3 h4
      rwa [show s + 1 + i = s + (i + 1) from by omega] at this

theorem undefAll_get : ∀ (l : List Oper) (t : TM) (x : Tmp), (undefAll l t).get x = if (l.any fun o => o.dst == some x) = true then .undef else t.get x
  | [], t, x => by simp [undefAll]
  | o :: l, t, x => by
    rw [undefAll, undefAll_get l, TM.get_putO, aput_at, List.any_cons]
    by_cases h1 : (l.any fun o => o.dst == some x) = true
    · simp [h1]
    · by_cases h2 : o.dst = some x
      · simp [h1, h2]
      · simp [h1, h2]
theorem undefAll_eq (t : TM) : (undefAll ops.toList t).get = envU ops t.get := by
  funext x; rw [undefAll_get]; rfl

/-- What a run of a region that draws shows. -/
def Drawn (C : Ctx) (ops : Array Oper) (env : Env) (σ : Heap) : AExit → Env → Heap → Prop
  | .normal, env', σ' => DrawOK C 0 ops env σ env' σ'
  | .pan p, env', σ' => DrawPan C 0 ops env σ p σ' ∧ env' = envU ops env
  | _, _, _ => False

/-- The run of what comes ahead of a panic. -/
theorem drawEvN_of (hc : Good C callee) {env en : TM} {σ σ' : Heap} {tr tr' : List (TM × AV × Heap)} {p : AV} (hr : runTr C callee ops ops.toList env σ = some (tr, some p, en, σ')) (ht : panTrace C ops σ tr en = some tr') (hok : panOK C ops σ tr.length tr' = true) (hstat : drawStatic ops = true) :
    DrawPan C 0 ops env.get σ p σ' := by
  unfold panTrace at ht
  split at ht
  case h_2 => cases ht
  rename_i on hon
  simp only [Option.map_eq_some_iff] at ht
  obtain ⟨tl, htl, rfl⟩ := ht
  generalize hn : tr.length = n at *
  have htr0 : ∀ k, k ≤ n → hpOf σ (tr ++ (en, .undef, hpOf σ tr n) :: tl) k = hpOf σ tr k := by
    intro k hk
    cases k with
    | zero => rfl
    | succ k => simp only [hpOf]; rw [List.getElem?_append_left (by omega)]
  obtain ⟨t1, _, t3⟩ := runTr_ok (env0 := env.get) (σ0 := σ) (tr0 := tr ++ (en, .undef, hpOf σ tr n) :: tl) (post := (en, .undef, hpOf σ tr n) :: tl) ops.toList 0 env σ tr rfl rfl (Nat.zero_le _) hr rfl rfl
  rw [Nat.zero_add, hn] at t1 t3
  obtain ⟨o', ho', he, hw, hrun⟩ := t3 p rfl
  obtain rfl : o' = on := Option.some.inj (ho'.symm.trans hon)
  generalize htr' : tr ++ (en, AV.undef, hpOf σ tr n) :: tl = tr' at *
  have hgn : tr'[n]? = some (en, .undef, hpOf σ tr n) := by
    rw [← htr', List.getElem?_append_right (by omega), hn]; simp
  have hvn : valOf tr' n = .undef := by simp [valOf, hgn]
  have hhn : hpOf σ tr' (n + 1) = hpOf σ tr' n := by
    rw [htr0 n (Nat.le_refl _)]; simp [hpOf, hgn]
  have t4 := runTail_ok (env0 := env.get) (σ0 := σ) (tr0 := tr') (ops.toList.drop (n + 1)) (n + 1) _ _ _ rfl (by rw [← htr', ← hn, List.drop_append]; simp) htl
    (by rw [TM.get_putO, ← he]; simp [envC, envOf, hon, hvn]) (by rw [hhn]; exact htr0 n (Nat.le_refl _))
  simp only [panOK, Bool.and_eq_true] at hok
  obtain ⟨⟨k1, k2⟩, k3⟩ := hok
  rw [List.all_eq_true] at k1 k3
  have hlow : ∀ i, i < n → ((ancs ops.toList).getD i 0).testBit n = false := fun i hi => by
    have := k1 i (List.mem_range.2 hi)
    simpa using this
  have bef : ∀ {i}, BefB ops n i → befB (ancs ops.toList) n i = true := fun {i} ⟨h1, h2⟩ => by unfold befB; rw [h2]; simpa using h1
  have pairs : ∀ i o e oe, BefB ops n i → BefB ops n e → ops[i]? = some o → ops[e]? = some oe → effOp o.op = false → heapOp o.op = true → effOp oe.op = true →
      ((e < i ∧ ((ancs ops.toList).getD i 0).testBit e = false) ∨ (i < e ∧ ((ancs ops.toList).getD e 0).testBit i = false)) → pairSame C ops σ tr' (i, o, e) = true := by
    intro i o e oe hi he ho hoe heff hh heff2 hq
    have hm := drawPairsGo_mem (all := ops.toList) ops.toList 0 i o (by simpa using ho) _ (drawPairsI_mem heff hh ops.toList 0 e oe (by simpa using hoe) heff2 (by simpa using hq))
    simp only [Nat.zero_add] at hm
    have := k3 _ hm
    simpa [bef hi, bef he] using this
  have tail_no : ∀ i o, n < i → BefB ops n i → ops[i]? = some o → effOp o.op = true → wantA ops o (envC ops env.get (valOf tr') i) = some true → False := by
    intro i o hi hb ho heff hwi
    obtain ⟨e, _, e2, _, h | h | h⟩ := t4 i o hi ho
    · rw [hb.2] at h; cases h
    · rw [e2, h.1] at hwi; cases hwi
    · rw [h.2.1] at heff; cases heff
  have effn : ∀ e, EffB ops env.get (valOf tr') n e → e < n ∧ ((ancs ops.toList).getD n 0).testBit e = true := by
    rintro e ⟨⟨oe, hoe, heff, hwe⟩, hb⟩
    rcases Nat.lt_trichotomy e n with h | h | h
    · refine ⟨h, ?_⟩
      obtain ⟨ti, g1, g2, _⟩ := t1 e oe (Nat.zero_le _) h hoe
      rw [g2] at hwe
      have := effAhead_ok (ops.toList.take n) tr' 0 e oe _ k2 (by rw [List.getElem?_take_of_lt h]; simpa using hoe) g1 heff hwe
      rwa [Nat.zero_add] at this
    · exact absurd h hb.1
    · exact (tail_no e oe h hb hoe heff hwe).elim
  refine ⟨hstat, n, o', valOf tr', hpOf σ tr', hon, ⟨rfl, fun i hi => ?_, fun i o hb ho => ?_⟩, by rw [he]; exact hw, by rw [he]; exact runOp_pan hc hrun ⟨rfl, rfl⟩, effn⟩
  · -- what does not come ahead
    rcases Nat.lt_trichotomy i n with h | h | h
    · exact absurd ⟨by omega, hlow i h⟩ hi
    · subst h; exact hhn
    · cases ho : ops[i]? with
      | some o => obtain ⟨_, _, _, h3, _⟩ := t4 i o h ho; exact h3
      | none =>
        refine absurd ⟨by omega, ?_⟩ hi
        have : ops.size ≤ i := by
          rcases Nat.lt_or_ge i ops.size with h' | h'
          · rw [Array.getElem?_eq_getElem h'] at ho; cases ho
          · exact h'
        unfold ancs
        rw [ancsGo_get]
        simp [this]
  · have rd : ∀ (en : TM), tr'[i]? = some (en, valOf tr' i, hpOf σ tr' (i + 1)) → envC ops env.get (valOf tr') i = en.get → wantA ops o en.get = some true → effOp o.op = false → hpOf σ tr' (i + 1) = hpOf σ tr' i → opA C 0 en.get (hpOf σ tr' i) o = some (valOf tr' i, hpOf σ tr' i) →
        (wantA ops o en.get = some true ∧ effOp o.op = false ∧ hpOf σ tr' (i + 1) = hpOf σ tr' i ∧ opA C 0 en.get (hpOf σ tr' i) o = some (valOf tr' i, hpOf σ tr' i) ∧
          (∀ e, e < i → EffB ops env.get (valOf tr') n e → ((ancs ops.toList).getD i 0).testBit e = false → opA C 0 en.get (hpOf σ tr' e) o = some (valOf tr' i, hpOf σ tr' e)) ∧
          (∀ e, i < e → EffB ops env.get (valOf tr') n e → ((ancs ops.toList).getD e 0).testBit i = false → opA C 0 en.get (hpOf σ tr' (e + 1)) o = some (valOf tr' i, hpOf σ tr' (e + 1)))) := by
      intro en g1 g2 g3 he' hsame g4
      refine ⟨g3, he', hsame, g4, ?_, ?_⟩
      · rintro e hei ⟨⟨oe, hoe, heff, _⟩, hbe⟩ hbit
        by_cases hh : heapOp o.op = true
        · have hp := pairs i o e oe hb hbe ho hoe he' hh heff (.inl ⟨hei, hbit⟩)
          simp only [pairSame, g1, g3, if_pos hei] at hp
          exact sameAns_eq he' hp
        · exact opA_free (by simpa using hh) g4 _
      · rintro e hei ⟨⟨oe, hoe, heff, _⟩, hbe⟩ hbit
        by_cases hh : heapOp o.op = true
        · have hp := pairs i o e oe hb hbe ho hoe he' hh heff (.inr ⟨hei, hbit⟩)
          simp only [pairSame, g1, g3, if_neg (show ¬ e < i from by omega)] at hp
          exact sameAns_eq he' hp
        · exact opA_free (by simpa using hh) g4 _
    rcases Nat.lt_trichotomy i n with h | h | h
    · obtain ⟨ti, g1, g2, g3⟩ := t1 i o (Nat.zero_le _) h ho
      rw [g2]
      rcases g3 with g3 | ⟨g3, g4⟩
      · exact .inl g3
      · by_cases he : effOp o.op = true
        · exact .inr (.inl ⟨g3, he, runOp_ok hc g4 ⟨rfl, rfl⟩⟩)
        · have he' : effOp o.op = false := by simpa using he
          have g4 := runOp_opA he' g4
          have hsame := opA_same he' g4
          exact .inr (.inr (rd ti g1 g2 g3 he' hsame (by rw [hsame] at g4; exact g4)))
    · exact absurd h hb.1
    · obtain ⟨ti, g1, g2, g3, g4⟩ := t4 i o h ho
      rw [g2]
      rcases g4 with g4 | g4 | ⟨g4, g5, g6⟩
      · rw [hb.2] at g4; cases g4
      · exact .inl ⟨g4.1, g4.2, g3⟩
      · exact .inr (.inr (rd ti g1 g2 g4 g5 g3 g6))

theorem runDraw_ok (hc : Good C callee) {env env' : TM} {σ σ' : Heap} {ex : AExit} (h : runDraw C callee ops env σ = some (ex, env', σ')) : Drawn C ops env.get σ ex env'.get σ' := by
  unfold runDraw at h
  split at h
  · rename_i hstat
    split at h
    · rename_i tr e s hr
      split at h
      · rename_i hall
        simp only [Option.some.injEq, Prod.mk.injEq] at h
        obtain ⟨rfl, rfl, rfl⟩ := h
        obtain ⟨t1, t2, _⟩ := runTr_ok (env0 := env.get) (σ0 := σ) (tr0 := tr) (post := []) ops.toList 0 env σ tr rfl (by simp) (Nat.zero_le _) hr rfl rfl
        obtain ⟨t2, t3, t4⟩ := t2 rfl
        rw [Nat.zero_add] at t1 t2
        rw [List.all_eq_true] at hall
        refine ⟨hstat, valOf tr, hpOf σ tr, ⟨rfl, fun i o ho => ?_⟩, t3, t4⟩
        obtain ⟨ti, g1, g2, g3⟩ := t1 i o (Nat.zero_le _) (by rw [t2]; exact (Array.getElem?_eq_some_iff.1 ho).1) ho
        rw [g2]
        rcases g3 with g3 | ⟨g3, g4⟩
        · exact .inl g3
        · by_cases he : effOp o.op = true
          · exact .inr (.inl ⟨g3, he, runOp_ok hc g4 ⟨rfl, rfl⟩⟩)
          · have he' : effOp o.op = false := by simpa using he
            have g4 := runOp_opA he' g4
            have hsame := opA_same he' g4
            refine .inr (.inr ⟨g3, he', hsame, by rw [hsame] at g4; exact g4, ?_, ?_⟩)
            · intro e hei ⟨oe, hoe, heff, _⟩ hbit
              by_cases hh : heapOp o.op = true
              · have hm := drawPairsGo_mem (all := ops.toList) ops.toList 0 i o (by simpa using ho) _ (drawPairsI_mem he' hh ops.toList 0 e oe (by simpa using hoe) heff (.inl (by simpa using ⟨hei, hbit⟩)))
                simp only [Nat.zero_add] at hm
                have hp := hall _ hm
                simp only [pairSame, g1, g3, if_pos hei] at hp
                exact sameAns_eq he' hp
              · exact opA_free (by simpa using hh) g4 _
            · intro e hei ⟨oe, hoe, heff, _⟩ hbit
              by_cases hh : heapOp o.op = true
              · have hm := drawPairsGo_mem (all := ops.toList) ops.toList 0 i o (by simpa using ho) _ (drawPairsI_mem he' hh ops.toList 0 e oe (by simpa using hoe) heff (.inr (by simpa using ⟨hei, hbit⟩)))
                simp only [Nat.zero_add] at hm
                have hp := hall _ hm
                simp only [pairSame, g1, g3, if_neg (show ¬ e < i from by omega)] at hp
                exact sameAns_eq he' hp
              · exact opA_free (by simpa using hh) g4 _
      · cases h
    · rename_i tr p en s hr
      split at h
      · rename_i tr' ht
        split at h
        · rename_i hq
          simp only [Option.some.injEq, Prod.mk.injEq] at h
          obtain ⟨rfl, rfl, rfl⟩ := h
          exact ⟨drawEvN_of hc hr ht hq hstat, undefAll_eq env⟩
        · cases h
      · cases h
    · cases h
  · cases h
end
end
end Go.Abs
