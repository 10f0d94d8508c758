/-
  AN ABSTRACT SEMANTICS, 18: a region that draws its order: whatever order is drawn, it comes to what the text's order comes to.
-/
import Derived.Test.YtdjbnaleoohafaaGreatDoorAbs17
namespace Go.Abs
open Go Go.RowKit

/-- The values after those operations of a set that lie below a number. -/
def envOf (ops : Array Oper) (env : Env) (val : Nat → AV) (S : Nat → Bool) : Nat → Env
  | 0 => env
  | k + 1 => if S k = true then aput (envOf ops env val S k) ((ops[k]?).bind (·.dst)) (val k) else envOf ops env val S k

abbrev envC (ops : Array Oper) (env : Env) (val : Nat → AV) : Nat → Env := envOf ops env val fun _ => true

def EffW (ops : Array Oper) (env : Env) (val : Nat → AV) (e : Nat) : Prop := ∃ o, ops[e]? = some o ∧ effOp o.op = true ∧ wantA ops o (envC ops env val e) = some true

/-- A run in the text's order, and that the operations that only read answer the same wherever they may come. -/
structure DrawEv (C : Ctx) (lo : Nat) (ops : Array Oper) (env : Env) (σ : Heap) (val : Nat → AV) (hp : Nat → Heap) : Prop where
  start : hp 0 = σ
  op : ∀ i o, ops[i]? = some o →
    (wantA ops o (envC ops env val i) = some false ∧ val i = .tuple [] ∧ hp (i + 1) = hp i) ∨
    (wantA ops o (envC ops env val i) = some true ∧ effOp o.op = true ∧ aop C lo o (fun v h => v = val i ∧ h = hp (i + 1)) nope (envC ops env val i) (hp i)) ∨
    (wantA ops o (envC ops env val i) = some true ∧ effOp o.op = false ∧ hp (i + 1) = hp i ∧ opA C lo (envC ops env val i) (hp i) o = some (val i, hp i) ∧
      (∀ e, e < i → EffW ops env val e → ((ancs ops.toList).getD i 0).testBit e = false → opA C lo (envC ops env val i) (hp e) o = some (val i, hp e)) ∧
      (∀ e, i < e → EffW ops env val e → ((ancs ops.toList).getD e 0).testBit i = false → opA C lo (envC ops env val i) (hp (e + 1)) o = some (val i, hp (e + 1))))

def DrawOK (C : Ctx) (lo : Nat) (ops : Array Oper) (env : Env) (σ : Heap) (env' : Env) (σ' : Heap) : Prop :=
  drawStatic ops = true ∧ ∃ val hp, DrawEv C lo ops env σ val hp ∧ env' = envC ops env val ops.size ∧ σ' = hp ops.size

section
variable {C : Ctx} {lo : Nat} {ops : Array Oper} {env : Env} {σ : Heap} {val : Nat → AV} {hp : Nat → Heap}

theorem filter_lt {α : Type} {p q : α → Bool} (hpq : ∀ x, p x = true → q x = true) : ∀ {l : List α} {x : α}, x ∈ l → q x = true → p x = false → (l.filter p).length < (l.filter q).length
  | [], _, h, _, _ => by simp at h
  | y :: l, x, h, hq, hp => by
    have le : (l.filter p).length ≤ (l.filter q).length := by
      clear h
      induction l with
      | nil => simp
      | cons z l ih =>
        simp only [List.filter_cons]
        split
        · rename_i h; rw [if_pos (hpq _ h)]; simpa using ih
        · split
          · simp; omega
          · exact ih
    rcases List.mem_cons.1 h with rfl | h
    · simp only [List.filter_cons, hq, hp, if_true, Bool.false_eq_true, if_false, List.length_cons]; omega
    · have := filter_lt hpq h hq hp
      simp only [List.filter_cons]
      split
      · rename_i h; rw [if_pos (hpq _ h)]; simp; exact this
      · split
        · simp; omega
        · exact this

theorem aput_comm {env : Env} {d d' : Option Tmp} {v v' : AV} (h : ∀ t, d = some t → d' ≠ some t) : aput (aput env d v) d' v' = aput (aput env d' v') d v := by
  cases d with
  | none => rfl
  | some t =>
    cases d' with
    | none => rfl
    | some t' =>
      have : t ≠ t' := fun e => h t rfl (by rw [e])
      funext x
      simp only [aput]
      split <;> split <;> first | rfl | (subst_vars; exact absurd rfl this)

theorem aput_at (env : Env) (d : Option Tmp) (v : AV) (t : Tmp) : aput env d v t = if d = some t then v else env t := by
  cases d with
  | none => simp [aput]
  | some d =>
    simp only [aput, Option.some.injEq]
    by_cases h : t = d
    · subst h; simp
    · rw [if_neg h, if_neg (fun e => h e.symm)]
theorem rep_false (n i : Nat) : (Array.replicate n false).getD i false = false := by
  simp only [Array.getD_eq_getD_getElem?, Array.getElem?_replicate]
  split <;> rfl

/-- One more operation of a set, none behind it writes the same. -/
theorem envOf_set {S : Nat → Bool} {i : Nat} (hi : S i = false) (hd : ∀ j, i < j → S j = true → ∀ t, (ops[j]?).bind (·.dst) = some t → (ops[i]?).bind (·.dst) ≠ some t) :
    ∀ n, i < n → envOf ops env val (fun k => S k || k == i) n = aput (envOf ops env val S n) ((ops[i]?).bind (·.dst)) (val i) := by
  have low : ∀ n, n ≤ i → envOf ops env val (fun k => S k || k == i) n = envOf ops env val S n := by
    intro n
    induction n with
    | zero => intro _; rfl
    | succ n ih =>
      intro hn
      have : (n == i) = false := by simp; omega
      simp only [envOf, this, Bool.or_false, ih (by omega)]
  intro n
  induction n with
  | zero => intro h; omega
  | succ n ih =>
    intro hn
    by_cases he : n = i
    · subst he
      simp only [envOf, BEq.rfl, Bool.or_true, if_true, hi, Bool.false_eq_true, if_false, low n (Nat.le_refl _)]
    · have hne : (n == i) = false := by simp [he]
      have ih' := ih (by omega)
      simp only [envOf, hne, Bool.or_false]
      split
      · rename_i hs
        rw [ih', aput_comm]
        intro t ht h2
        exact hd n (by omega) hs t h2 ht
      · exact ih'

/-- What an operation looks at is what it looks at in the text's order. -/
theorem envOf_looks {S : Nat → Bool} {i : Nat} {t : Tmp} (hlow : ∀ j, j < i → S j = false → (ops[j]?).bind (·.dst) ≠ some t) (hhigh : ∀ j, i ≤ j → S j = true → (ops[j]?).bind (·.dst) ≠ some t) :
    ∀ n, envOf ops env val S n t = envOf ops env val (fun _ => true) (min n i) t := by
  intro n
  induction n with
  | zero => simp [envOf]
  | succ n ih =>
    by_cases hn : n < i
    · rw [show min (n + 1) i = n + 1 from by omega]
      rw [show min n i = n from by omega] at ih
      simp only [envOf, if_true]
      cases hS : S n with
      | true =>
        rw [if_pos rfl, aput_at, aput_at, ih]
      | false =>
        rw [if_neg (by simp), aput_at, if_neg (hlow n hn hS), ih]
    · rw [show min (n + 1) i = i from by omega]
      rw [show min n i = i from by omega] at ih
      simp only [envOf]
      split
      · rename_i hS
        rw [aput_at, if_neg (hhigh n (by omega) hS)]; exact ih
      · exact ih

theorem looks_congr {e1 e2 : Env} {o : Oper} (h : ∀ t ∈ o.looksAt ops, e1 t = e2 t) : (∀ x ∈ o.op.operands, evA C e1 x = evA C e2 x) ∧ wantA ops o e1 = wantA ops o e2 := by
  constructor
  · intro x hx
    cases x with
    | tmp t => exact h t (List.mem_append_left _ (List.mem_filterMap.2 ⟨.tmp t, by simpa using hx, rfl⟩))
    | const v => rfl
    | global g => rfl
    | func f => rfl
  · unfold wantA
    cases hg : o.guard with
    | none => rfl
    | some jw =>
      obtain ⟨j, want⟩ := jw
      simp only
      cases hd : (ops[j]?).bind (·.dst) with
      | none => rfl
      | some d =>
        have := h d (by simp [Oper.looksAt, hg, hd])
        simp only [this]

/-- Between two effects the heap stays. -/
theorem hp_between (hev : DrawEv C lo ops env σ val hp) : ∀ (k s : Nat), s + k ≤ ops.size → (∃ e, s ≤ e ∧ e < s + k ∧ EffW ops env val e ∧ hp s = hp e) ∨ hp s = hp (s + k) := by
  intro k
  induction k with
  | zero => intro s _; exact .inr rfl
  | succ k ih =>
    intro s hs
    have hlt : s < ops.size := by omega
    have ho : ops[s]? = some ops[s] := Array.getElem?_eq_getElem hlt
    by_cases hE : EffW ops env val s
    · exact .inl ⟨s, Nat.le_refl _, by omega, hE, rfl⟩
    · have hh : hp (s + 1) = hp s := by
        rcases hev.op s _ ho with h | h | h
        · exact h.2.2
        · exact absurd ⟨_, ho, h.2.1, h.1⟩ hE
        · exact h.2.2.1
      rcases ih (s + 1) (by omega) with ⟨e, h1, h2, h3, h4⟩ | h
      · exact .inl ⟨e, by omega, by omega, h3, by rw [← h4, hh]⟩
      · exact .inr (by rw [← hh, h]; congr 1; omega)

variable {nt : Nat} {ds : List Deferred} {ρ₀ : Map} {σ₀ : Heap} {w₀ : World}

/-- What is known when some operations are done. -/
structure Mid (C : Ctx) (lo nt : Nat) (ds : List Deferred) (ρ₀ : Map) (σ₀ : Heap) (w₀ : World) (ops : Array Oper) (env : Env) (val : Nat → AV) (hp : Nat → Heap) (listed : Array Bool) (s : Nat) (a : Act) (w : World) : Prop where
  size : listed.size = ops.size
  closed : ∀ i o, ops[i]? = some o → listed.getD i false = true → ∀ e ∈ o.after, Region.binds .any e = true → listed.getD e.on false = true
  st : ∃ ρ, St C lo nt ds ρ₀ σ₀ w₀ ρ (hp s) w (envOf ops env val (fun k => listed.getD k false) ops.size) a
  below : ∀ e, EffW ops env val e → listed.getD e false = true → e < s
  done : ∀ e, e < s → EffW ops env val e → listed.getD e false = true
  last : s = 0 ∨ ∃ e, s = e + 1 ∧ EffW ops env val e ∧ listed.getD e false = true
  le : s ≤ ops.size

theorem drawn_ok (hstat : drawStatic ops = true) (hev : DrawEv C lo ops env σ val hp) (hdst : ∀ (j : Nat) (o : Oper), ops[j]? = some o → dstOK nt o = true) (hlo : lo ≤ σ₀.length) {Q : Exit → Act → World → Prop}
    (hQ : ∀ ρ w a, St C lo nt ds ρ₀ σ₀ w₀ ρ (hp ops.size) w (envC ops env val ops.size) a → Q .normal a w) : ∀ (fuel : Nat) (listed : Array Bool) (s : Nat) (a : Act) (w : World), Mid C lo nt ds ρ₀ σ₀ w₀ ops env val hp listed s a w →
    ((List.range ops.size).filter fun i => !listed.getD i true).length ≤ fuel → wpAny C.P .any ops Q fuel listed a w := by
  have hpairs := fun i o h => allPairs_get (l := ops.toList) (before := []) (s := 0) hstat rfl i o h
  have hedge : ∀ i o, ops.toList[i]? = some o → ∀ e ∈ o.after, Region.binds .any e = true → e.on < i := fun i o ho e he hb => by have := (hpairs i o ho).2 e he hb; rwa [Nat.zero_add] at this
  have hpair : ∀ i j oi oj, ops[i]? = some oi → ops[j]? = some oj → j < i → pairOK true ops (ancs ops.toList) i j oi oj = true := fun i j oi oj hi hj hlt => by
    have := (hpairs i oi (by simpa using hi)).1 j oj (by omega) (by simpa using hj)
    simpa using this
  -- when nothing is left, all is done
  have fin : ∀ (listed : Array Bool) (s : Nat) (a : Act) (w : World), Mid C lo nt ds ρ₀ σ₀ w₀ ops env val hp listed s a w → (∀ i, i < ops.size → listed.getD i false = true) → Q .normal a w := by
    intro listed s a w hm hall
    obtain ⟨ρ, hst⟩ := hm.st
    have e1 : ∀ n, n ≤ ops.size → envOf ops env val (fun k => listed.getD k false) n = envC ops env val n := by
      intro n
      induction n with
      | zero => intro _; rfl
      | succ n ih => intro hn; simp only [envC, envOf, hall n (by omega), if_true]; rw [ih (by omega)]
    have e2 : hp s = hp ops.size := by
      have hsz := hm.le
      rcases hp_between hev (ops.size - s) s (by omega) with ⟨e, h1, h2, h3, h4⟩ | h
      · have := hm.below e h3 (hall e (by omega)); omega
      · rw [h]; congr 1; omega
    rw [e1 _ (Nat.le_refl _), e2] at hst
    exact hQ ρ w a hst
  have ready_none : ∀ (listed : Array Bool), listed.size = ops.size → Region.ready .any ops listed = [] → ∀ i, i < ops.size → listed.getD i false = true := by
    intro listed hsz hr i
    induction i using Nat.strongRecOn with
    | _ i ih =>
      intro hi
      cases hl : listed.getD i false with
      | true => rfl
      | false =>
        have ho : ops[i]? = some ops[i] := Array.getElem?_eq_getElem hi
        have : i ∈ Region.ready .any ops listed := by
          rw [mem_ready]
          refine ⟨?_, _, ho, fun e he hb => ?_⟩
          · have h1 : i < listed.size := by omega
            simp [h1] at hl ⊢; exact hl
          · have hlt := hedge i _ (by simp) e he hb
            exact ih e.on hlt (by omega)
        rw [hr] at this; simp at this
  -- one operation
  have step : ∀ (fuel : Nat) (listed : Array Bool) (s : Nat) (a : Act) (w : World) (i : Nat), Mid C lo nt ds ρ₀ σ₀ w₀ ops env val hp listed s a w → i ∈ Region.ready .any ops listed →
      (∀ s' a' w', Mid C lo nt ds ρ₀ σ₀ w₀ ops env val hp (listed.setIfInBounds i true) s' a' w' → wpAny C.P .any ops Q fuel (listed.setIfInBounds i true) a' w') → wpOp C.P ops Q i (wpAny C.P .any ops Q fuel (listed.setIfInBounds i true)) a w := by
    intro fuel listed s a w i hm hi hnext
    obtain ⟨hl0, o, ho, hed⟩ := mem_ready.1 hi
    have hilt : i < ops.size := (Array.getElem?_eq_some_iff.1 ho).1
    have hil : i < listed.size := by rw [hm.size]; exact hilt
    have hlf : listed.getD i false = false := by simp [hil] at hl0 ⊢; exact hl0
    have hancS : ∀ j, ((ancs ops.toList).getD i 0).testBit j = true → listed.getD j false = true := fun j hj =>
      anc_closed (ops := ops.toList) (S := fun j => listed.getD j false = true) (fun k ok hk => hm.closed k ok (by simpa using hk)) hedge i j (fun o' ho' => by
        have : o' = o := by simpa [ho] using ho'.symm
        subst this; exact hed) hj
    have hancN : ∀ j, listed.getD j false = true → ((ancs ops.toList).getD j 0).testBit i = false := fun j hj => by
      cases hb : ((ancs ops.toList).getD j 0).testBit i with
      | false => rfl
      | true =>
        have := anc_closed (ops := ops.toList) (S := fun j => listed.getD j false = true) (fun k ok hk => hm.closed k ok (by simpa using hk)) hedge j i (fun o' ho' => hm.closed j o' (by simpa using ho') hj) hb
        rw [hlf] at this; cases this
    have apart_low : ∀ j oj, ops[j]? = some oj → j < i → listed.getD j false = false → oj.apart ops o = true ∧ ¬ (effOp o.op = true ∧ effOp oj.op = true) := fun j oj hj hlt hS => by
      have := hpair i j o oj ho hj hlt
      unfold pairOK at this
      cases hb : ((ancs ops.toList).getD i 0).testBit j with
      | true => rw [hancS j hb] at hS; cases hS
      | false => rw [hb] at this; simp at this; exact ⟨this.1, fun h => by rcases this.2 with h' | h' <;> simp_all⟩
    have apart_high : ∀ j oj, ops[j]? = some oj → i < j → listed.getD j false = true → o.apart ops oj = true ∧ ¬ (effOp oj.op = true ∧ effOp o.op = true) := fun j oj hj hlt hS => by
      have := hpair j i oj o hj ho hlt
      unfold pairOK at this
      rw [hancN j hS] at this; simp at this; exact ⟨this.1, fun h => by rcases this.2 with h' | h' <;> simp_all⟩
    have hlook : ∀ t ∈ o.looksAt ops, envOf ops env val (fun k => listed.getD k false) ops.size t = envC ops env val i t := by
      intro t ht
      have := envOf_looks (ops := ops) (env := env) (val := val) (S := fun k => listed.getD k false) (i := i) (t := t) (fun j hj hS hd => by
        cases hoj : ops[j]? with
        | none => simp [hoj] at hd
        | some oj =>
          simp only [hoj, Option.bind_some] at hd
          exact (Oper.apart_spec (apart_low j oj hoj hj hS).1).1 t hd ht) (fun j hj hS hd => by
        cases hoj : ops[j]? with
        | none => simp [hoj] at hd
        | some oj =>
          simp only [hoj, Option.bind_some] at hd
          by_cases hji : j = i
          · subst hji; rw [hlf] at hS; cases hS
          · exact (Oper.apart_spec (apart_high j oj hoj (by omega) hS).1).2.2 t hd ht) ops.size
      rw [this, show min ops.size i = i from by omega]
    obtain ⟨hcong, hwant⟩ := looks_congr (C := C) hlook
    have hget : ∀ j d, (listed.setIfInBounds i true).getD j d = if j = i then true else listed.getD j d := fun j d => by
      by_cases hj : j = i
      · subst hj; rw [if_pos rfl]; simp [hil]
      · rw [if_neg hj]; exact getD_set_ne d (Ne.symm hj)
    have henv : envOf ops env val (fun k => (listed.setIfInBounds i true).getD k false) ops.size = aput (envOf ops env val (fun k => listed.getD k false) ops.size) o.dst (val i) := by
      have e1 : (fun k => (listed.setIfInBounds i true).getD k false) = fun k => listed.getD k false || k == i := by
        funext k; rw [hget]
        by_cases hk : k = i
        · subst hk; simp
        · simp [hk]
      rw [e1, envOf_set (S := fun k => listed.getD k false) (i := i) hlf (fun j hj hS t ht => ?_) ops.size hilt]
      · simp [ho]
      · cases hoj : ops[j]? with
        | none => simp [hoj] at ht
        | some oj =>
          simp only [hoj, Option.bind_some] at ht
          simp only [ho, Option.bind_some]
          intro h2
          exact (Oper.apart_spec (apart_high j oj hoj hj hS).1).2.1 t h2 ht
    obtain ⟨ρ, hst⟩ := hm.st
    have hw := fun {b : Bool} h => want_ok (ops := ops) (o := o) (b := b) hst.env (by rw [hst.size]; exact hdst) h
    have mid : ∀ s' (hs' : (∀ e, EffW ops env val e → (listed.setIfInBounds i true).getD e false = true → e < s') ∧ (∀ e, e < s' → EffW ops env val e → (listed.setIfInBounds i true).getD e false = true) ∧
        (s' = 0 ∨ ∃ e, s' = e + 1 ∧ EffW ops env val e ∧ (listed.setIfInBounds i true).getD e false = true) ∧ s' ≤ ops.size) ρ' a' w', St C lo nt ds ρ₀ σ₀ w₀ ρ' (hp s') w' (aput (envOf ops env val (fun k => listed.getD k false) ops.size) o.dst (val i)) a' →
        Mid C lo nt ds ρ₀ σ₀ w₀ ops env val hp (listed.setIfInBounds i true) s' a' w' := fun s' hs' ρ' a' w' hst' => by
      refine ⟨by simpa using hm.size, fun k ok hk hS e he hb => ?_, ⟨ρ', by rw [henv]; exact hst'⟩, hs'.1, hs'.2.1, hs'.2.2.1, hs'.2.2.2⟩
      rw [hget]
      split
      · rfl
      · rw [hget] at hS
        by_cases hki : k = i
        · subst hki
          have : ok = o := by simpa [ho] using hk.symm
          subst this
          exact hed e he hb
        · rw [if_neg hki] at hS
          exact hm.closed k ok hk hS e he hb
    have notEff : ¬ EffW ops env val i → (∀ e, EffW ops env val e → (listed.setIfInBounds i true).getD e false = true → e < s) ∧ (∀ e, e < s → EffW ops env val e → (listed.setIfInBounds i true).getD e false = true) ∧
        (s = 0 ∨ ∃ e, s = e + 1 ∧ EffW ops env val e ∧ (listed.setIfInBounds i true).getD e false = true) ∧ s ≤ ops.size := fun hne => by
      refine ⟨fun e hE hS => ?_, fun e he hE => ?_, ?_, hm.le⟩
      · rw [hget] at hS
        by_cases hei : e = i
        · subst hei; exact absurd hE hne
        · rw [if_neg hei] at hS; exact hm.below e hE hS
      · rw [hget]; split
        · rfl
        · exact hm.done e he hE
      · rcases hm.last with h | ⟨e, h1, h2, h3⟩
        · exact .inl h
        · refine .inr ⟨e, h1, h2, ?_⟩
          rw [hget]; split
          · rfl
          · exact h3
    unfold wpOp
    simp only [ho]
    rcases hev.op i o ho with ⟨h1, h2, h3⟩ | ⟨h1, h2, h3⟩ | ⟨h1, h2, h3, h4, h5, h6⟩
    · -- not wanted
      rw [hw (hwant ▸ h1)]
      simp only [Bool.false_eq_true, if_false]
      refine hnext s _ _ (mid s (notEff fun ⟨o', ho', _, hw'⟩ => ?_) ρ _ _ ?_)
      · have : o' = o := by simpa [ho] using ho'.symm
        subst this; rw [h1] at hw'; cases hw'
      · rw [h2]
        exact hst.next (.refl hst.step.sim) ⟨[], rfl, rfl⟩ (hdst i o ho)
    · -- an effect
      rw [hw (hwant ▸ h1)]
      simp only [if_true]
      have hE : EffW ops env val i := ⟨o, ho, h2, h1⟩
      have hsi : s ≤ i := by
        rcases Nat.lt_or_ge i s with h | h
        · have := hm.done i h hE; rw [hlf] at this; cases this
        · exact h
      have hhp : hp s = hp i := by
        rcases hp_between hev (i - s) s (by omega) with ⟨e, g1, g2, g3, g4⟩ | h
        · obtain ⟨oe, he1, he2, he3⟩ := g3
          cases hS : listed.getD e false with
          | true => have := hm.below e ⟨oe, he1, he2, he3⟩ hS; omega
          | false => exact absurd ⟨h2, he2⟩ (apart_low e oe he1 (by omega) hS).2
        · rw [h]; congr 1; omega
      rw [← hhp] at h3
      have h3' := (aop_congr (C := C) (lo := lo) (σ := hp s) hcong).symm ▸ h3
      refine .inl (aop_ok hst (Nat.le_trans hlo hst.step.len) (hdst i o ho) h3' (fun v σ' ρ' w' a' hk hst' _ => ?_) fun _ _ _ _ _ hf => hf.elim)
      obtain ⟨rfl, rfl⟩ := hk
      refine hnext (i + 1) _ _ (mid (i + 1) ⟨fun e he hS => ?_, fun e he hE' => ?_, .inr ⟨i, rfl, hE, by rw [hget, if_pos rfl]⟩, by omega⟩ ρ' _ _ hst')
      · rw [hget] at hS
        by_cases hei : e = i
        · omega
        · rw [if_neg hei] at hS; have := hm.below e he hS; omega
      · rw [hget]
        split
        · rfl
        · rename_i hei
          rcases Nat.lt_or_ge e s with h | h
          · exact hm.done e h hE'
          · obtain ⟨oe, he1, he2, he3⟩ := hE'
            cases hS : listed.getD e false with
            | true => rfl
            | false => exact absurd ⟨h2, he2⟩ (apart_low e oe he1 (by omega) hS).2
    · -- it reads and computes
      rw [hw (hwant ▸ h1)]
      simp only [if_true]
      have hne : ¬ EffW ops env val i := fun ⟨o', ho', he', _⟩ => by
        have : o' = o := by simpa [ho] using ho'.symm
        subst this; rw [h2] at he'; cases he'
      have hop : opA C lo (envC ops env val i) (hp s) o = some (val i, hp s) := by
        rcases Nat.lt_or_ge i s with h | h
        · rcases hm.last with h0 | ⟨e, rfl, g2, g3⟩
          · omega
          · have hie : i < e := by
              rcases Nat.lt_or_ge i e with h' | h'
              · exact h'
              · have : i = e := by omega
                subst this; exact absurd g2 hne
            exact h6 e hie g2 (hancN e g3)
        · rcases hp_between hev (i - s) s (by omega) with ⟨e, g1, g2, g3, g4⟩ | h'
          · rw [g4]
            refine h5 e (by omega) g3 ?_
            cases hb : ((ancs ops.toList).getD i 0).testBit e with
            | false => rfl
            | true => have := hm.below e g3 (hancS e hb); omega
          · rw [show s + (i - s) = i from by omega] at h'
            rw [h']; exact h4
      have hop' : aop C lo o (fun v h => v = val i ∧ h = hp s) nope (envOf ops env val (fun k => listed.getD k false) ops.size) (hp s) :=
        aop_of_opA ((opA_congr (C := C) (lo := lo) (σ := hp s) hcong).trans hop) ⟨rfl, rfl⟩
      refine .inl (aop_ok hst (Nat.le_trans hlo hst.step.len) (hdst i o ho) hop' (fun v σ' ρ' w' a' hk hst' _ => ?_) fun _ _ _ _ _ hf => hf.elim)
      obtain ⟨rfl, rfl⟩ := hk
      exact hnext s _ _ (mid s (notEff hne) ρ' _ _ hst')
  intro fuel
  induction fuel with
  | zero =>
    intro listed s a w hm hcount
    have hall : ∀ i, i < ops.size → listed.getD i false = true := by
      intro i hi
      cases hl : listed.getD i false with
      | true => rfl
      | false =>
        have : i ∈ (List.range ops.size).filter fun i => !listed.getD i true := by
          rw [List.mem_filter]
          refine ⟨List.mem_range.2 hi, ?_⟩
          have h1 : i < listed.size := by rw [hm.size]; exact hi
          simp [h1] at hl ⊢; exact hl
        have := List.length_pos_of_mem this
        omega
    refine ⟨?_, fin listed s a w hm hall⟩
    cases hr : Region.ready .any ops listed with
    | nil => rfl
    | cons i r =>
      have hi : i ∈ Region.ready .any ops listed := by rw [hr]; simp
      obtain ⟨h0, o, ho, _⟩ := mem_ready.1 hi
      have hilt : i < ops.size := (Array.getElem?_eq_some_iff.1 ho).1
      have h1 : i < listed.size := by rw [hm.size]; exact hilt
      have := hall i hilt
      simp [h1] at this h0
      rw [this] at h0; cases h0
  | succ fuel ih =>
    intro listed s a w hm hcount
    refine ⟨fun hr => fin listed s a w hm (ready_none listed hm.size hr), fun i hi => ?_⟩
    refine step fuel listed s a w i hm hi fun s' a' w' hm' => ih _ s' a' w' hm' ?_
    obtain ⟨h0, o, ho, _⟩ := mem_ready.1 hi
    have hilt : i < ops.size := (Array.getElem?_eq_some_iff.1 ho).1
    have h1 : i < listed.size := by rw [hm.size]; exact hilt
    have := filter_lt (l := List.range ops.size) (x := i) (p := fun j => !(listed.setIfInBounds i true).getD j true) (q := fun j => !listed.getD j true) (fun j hj => by
      by_cases hji : j = i
      · subst hji; simp [h1] at hj
      · rw [getD_set_ne true (Ne.symm hji)] at hj; exact hj) (List.mem_range.2 hilt) (by rw [h0]; rfl) (by simp [h1])
    omega

/-- A region that draws. -/
theorem draw_ok {env' : Env} {σ' : Heap} {ρ : Map} {w : World} {a : Act} {id : Nat} (hm : C.P.follows .mixedOrders = true) (h : DrawOK C lo ops env σ env' σ') (hdst : ∀ (j : Nat) (o : Oper), ops[j]? = some o → dstOK nt o = true)
    (hst : St C lo nt ds ρ₀ σ₀ w₀ ρ σ w env a) (hlo : lo ≤ σ₀.length) {Q : Exit → Act → World → Prop} (hQ : ∀ ρ w a, St C lo nt ds ρ₀ σ₀ w₀ ρ σ' w env' a → Q .normal a w) : (Code.region id ops true).wp C.P Q a w := by
  obtain ⟨hs, val, hp, hev, rfl, rfl⟩ := h
  refine wp_region_any hm (drawn_ok hs hev hdst hlo hQ ops.size _ 0 _ _ ⟨by simp, fun i o hi hl => ?_, ⟨ρ, ?_⟩, fun e _ hl => ?_, fun e he => by omega, .inl rfl, Nat.zero_le _⟩ ?_)
  · rw [rep_false] at hl; cases hl
  · have e1 : ∀ n, envOf ops env val (fun k => (Array.replicate ops.size false).getD k false) n = env := by
      intro n
      induction n with
      | zero => rfl
      | succ n ih => simp only [envOf]; rw [if_neg (by rw [rep_false]; simp), ih]
    rw [e1, hev.start]
    have hb : Below w.heap.size w { w with drawn := w.drawn + 1 } := ⟨rfl, rfl, rfl, Nat.le_refl _, fun _ _ => rfl⟩
    have hx : StepL lo ρ σ w ρ σ { w with drawn := w.drawn + 1 } := ⟨hst.step.sim.grow hb, .grow hb, Nat.le_refl _, fun _ _ h => h⟩
    exact ⟨hst.step.trans hx, hst.glob.ext hx.ext rfl, hst.env.ext hx.ext, hst.size, hst.defers⟩
  · rw [rep_false] at hl; cases hl
  · have := List.length_filter_le (fun i => !(Array.replicate ops.size false).getD i true) (List.range ops.size)
    simpa using this
end
end Go.Abs
