/-
  AN ABSTRACT SEMANTICS, 18d: a region that draws its order and panics: whatever order is drawn, one operation panics behind all that is written.
-/
import Derived.Test.YtdjbnaleoohafaaGreatDoorAbs18c
namespace Go.Abs
open Go Go.RowKit

/-- An operation that may come ahead of one that panics. -/
def BefB (ops : Array Oper) (n i : Nat) : Prop := i ≠ n ∧ ((ancs ops.toList).getD i 0).testBit n = false
def EffB (ops : Array Oper) (env : Env) (val : Nat → AV) (n e : Nat) : Prop := EffW ops env val e ∧ BefB ops n e

/-- A run in the text's order, of the operations that may come ahead of one. -/
structure DrawEvN (C : Ctx) (lo : Nat) (ops : Array Oper) (env : Env) (σ : Heap) (val : Nat → AV) (hp : Nat → Heap) (n : Nat) : Prop where
  start : hp 0 = σ
  skip : ∀ i, ¬ BefB ops n i → hp (i + 1) = hp i
  op : ∀ i o, BefB ops n i → ops[i]? = some o →
    (wantA ops o (envC ops env val i) = some false ∧ val i = .tuple [] ∧ hp (i + 1) = hp i) ∨
    (wantA ops o (envC ops env val i) = some true ∧ effOp o.op = true ∧ aop C lo o (fun v h => v = val i ∧ h = hp (i + 1)) nope (envC ops env val i) (hp i)) ∨
    (wantA ops o (envC ops env val i) = some true ∧ effOp o.op = false ∧ hp (i + 1) = hp i ∧ opA C lo (envC ops env val i) (hp i) o = some (val i, hp i) ∧
      (∀ e, e < i → EffB ops env val n e → ((ancs ops.toList).getD i 0).testBit e = false → opA C lo (envC ops env val i) (hp e) o = some (val i, hp e)) ∧
      (∀ e, i < e → EffB ops env val n e → ((ancs ops.toList).getD e 0).testBit i = false → opA C lo (envC ops env val i) (hp (e + 1)) o = some (val i, hp (e + 1))))

/-- One operation panics; what is written is written ahead of it. -/
def DrawPan (C : Ctx) (lo : Nat) (ops : Array Oper) (env : Env) (σ : Heap) (p : AV) (σ' : Heap) : Prop :=
  drawStatic ops = true ∧ ∃ n o val hp, ops[n]? = some o ∧ DrawEvN C lo ops env σ val hp n ∧ wantA ops o (envC ops env val n) = some true ∧
    aop C lo o nope (fun q s => q = p ∧ s = σ') (envC ops env val n) (hp n) ∧ ∀ e, EffB ops env val n e → e < n ∧ ((ancs ops.toList).getD n 0).testBit e = true

/-- Nothing is known of what a region writes. -/
def envU (ops : Array Oper) (env : Env) : Env := fun t => if (ops.toList.any fun o => o.dst == some t) = true then .undef else env t

section
variable {C : Ctx} {lo : Nat} {ops : Array Oper} {env : Env} {σ : Heap} {val : Nat → AV} {hp : Nat → Heap}
variable {nt : Nat} {ds : List Deferred} {ρ₀ : Map} {σ₀ : Heap} {w₀ : World}

theorem envOf_other {S : Nat → Bool} {t : Tmp} (h : (ops.toList.any fun o => o.dst == some t) = false) : ∀ n, envOf ops env val S n t = env t
  | 0 => rfl
  | n + 1 => by
    simp only [envOf]
    have key : (ops[n]?).bind (·.dst) ≠ some t := fun e => by
      cases ho : ops[n]? with
      | none => simp [ho] at e
      | some o =>
        simp only [ho, Option.bind_some] at e
        rw [List.any_eq_false] at h
        exact h o (by have := Array.mem_of_getElem? ho; simpa using this) (by simp [e])
    split
    · rw [aput_at, if_neg key]; exact envOf_other h n
    · exact envOf_other h n

theorem EnvRel.envU {ρ : Map} {σ : Heap} {w : World} {S : Nat → Bool} {n : Nat} {a : Act} (h : EnvRel ρ σ w (envOf ops env val S n) a) : EnvRel ρ σ w (Go.Abs.envU ops env) a := fun t => by
  unfold Go.Abs.envU
  split
  · trivial
  · rename_i hn
    have := h t
    rwa [envOf_other (by simpa using hn)] at this

theorem hp_betweenN {n : Nat} (hev : DrawEvN C lo ops env σ val hp n) : ∀ (k s : Nat), s + k ≤ ops.size → (∃ e, s ≤ e ∧ e < s + k ∧ EffB ops env val n e ∧ hp s = hp e) ∨ hp s = hp (s + k) := by
  intro k
  induction k with
  | zero => intro s _; exact .inr rfl
  | succ k ih =>
    intro s hs
    have hlt : s < ops.size := by omega
    have ho : ops[s]? = some ops[s] := Array.getElem?_eq_getElem hlt
    by_cases hE : EffB ops env val n s
    · exact .inl ⟨s, Nat.le_refl _, by omega, hE, rfl⟩
    · have hh : hp (s + 1) = hp s := by
        by_cases hB : BefB ops n s
        · rcases hev.op s _ hB ho with h | h | h
          · exact h.2.2
          · exact absurd ⟨⟨_, ho, h.2.1, h.1⟩, hB⟩ hE
          · exact h.2.2.1
        · exact hev.skip s hB
      rcases ih (s + 1) (by omega) with ⟨e, h1, h2, h3, h4⟩ | h
      · exact .inl ⟨e, by omega, by omega, h3, by rw [← h4, hh]⟩
      · exact .inr (by rw [← hh, h]; congr 1; omega)

/-- What is known when some operations are done. -/
structure MidN (C : Ctx) (lo nt : Nat) (ds : List Deferred) (ρ₀ : Map) (σ₀ : Heap) (w₀ : World) (ops : Array Oper) (env : Env) (val : Nat → AV) (hp : Nat → Heap) (n : Nat) (listed : Array Bool) (s : Nat) (a : Act) (w : World) : Prop where
  size : listed.size = ops.size
  closed : ∀ i o, ops[i]? = some o → listed.getD i false = true → ∀ e ∈ o.after, Region.binds .any e = true → listed.getD e.on false = true
  st : ∃ ρ, St C lo nt ds ρ₀ σ₀ w₀ ρ (hp s) w (envOf ops env val (fun k => listed.getD k false) ops.size) a
  below : ∀ e, EffB ops env val n e → listed.getD e false = true → e < s
  done : ∀ e, e < s → EffB ops env val n e → listed.getD e false = true
  last : s = 0 ∨ ∃ e, s = e + 1 ∧ EffB ops env val n e ∧ listed.getD e false = true
  le : s ≤ ops.size
  bef : ∀ j, listed.getD j false = true → BefB ops n j

theorem drawnP_ok (hstat : drawStatic ops = true) {n : Nat} {on : Oper} (hon : ops[n]? = some on) (hev : DrawEvN C lo ops env σ val hp n) (hwn : wantA ops on (envC ops env val n) = some true) {p : AV} {σ' : Heap}
    (hpan : aop C lo on nope (fun q s => q = p ∧ s = σ') (envC ops env val n) (hp n)) (heff : ∀ e, EffB ops env val n e → e < n ∧ ((ancs ops.toList).getD n 0).testBit e = true)
    (hdst : ∀ (j : Nat) (o : Oper), ops[j]? = some o → dstOK nt o = true) (hlo : lo ≤ σ₀.length) {Q : Exit → Act → World → Prop}
    (hQ : ∀ ρ w a u, VRel ρ σ' w p u → St C lo nt ds ρ₀ σ₀ w₀ ρ σ' w (Go.Abs.envU ops env) a → Q (.panic [{ v := u, recovered := false }]) a w) : ∀ (fuel : Nat) (listed : Array Bool) (s : Nat) (a : Act) (w : World), MidN C lo nt ds ρ₀ σ₀ w₀ ops env val hp n listed s a w →
    ((List.range ops.size).filter fun i => !listed.getD i true).length ≤ fuel → wpAny C.P .any ops Q fuel listed a w := by
  have hpairs := fun i o h => allPairs_get (l := ops.toList) (before := []) (s := 0) hstat rfl i o h
  have hedge : ∀ i o, ops.toList[i]? = some o → ∀ e ∈ o.after, Region.binds .any e = true → e.on < i := fun i o ho e he hb => by have := (hpairs i o ho).2 e he hb; rwa [Nat.zero_add] at this
  have hpair : ∀ i j oi oj, ops[i]? = some oi → ops[j]? = some oj → j < i → pairOK true ops (ancs ops.toList) i j oi oj = true := fun i j oi oj hi hj hlt => by
    have := (hpairs i oi (by simpa using hi)).1 j oj (by omega) (by simpa using hj)
    simpa using this
  have hnlt : n < ops.size := (Array.getElem?_eq_some_iff.1 hon).1
  have ready_none : ∀ (listed : Array Bool), listed.size = ops.size → Region.ready .any ops listed = [] → ∀ i, i < ops.size → listed.getD i false = true := by
    intro listed hsz hr i
    induction i using Nat.strongRecOn with
    | _ i ih =>
      intro hi
      cases hl : listed.getD i false with
      | true => rfl
      | false =>
        have ho : ops[i]? = some ops[i] := Array.getElem?_eq_getElem hi
        have : i ∈ Region.ready .any ops listed := by
          rw [mem_ready]
          refine ⟨?_, _, ho, fun e he hb => ?_⟩
          · have h1 : i < listed.size := by omega
            simp [h1] at hl ⊢; exact hl
          · have hlt := hedge i _ (by simp) e he hb
            exact ih e.on hlt (by omega)
        rw [hr] at this; simp at this
  -- one operation
  have step : ∀ (fuel : Nat) (listed : Array Bool) (s : Nat) (a : Act) (w : World) (i : Nat), MidN C lo nt ds ρ₀ σ₀ w₀ ops env val hp n listed s a w → i ∈ Region.ready .any ops listed →
      (∀ s' a' w', MidN C lo nt ds ρ₀ σ₀ w₀ ops env val hp n (listed.setIfInBounds i true) s' a' w' → wpAny C.P .any ops Q fuel (listed.setIfInBounds i true) a' w') → wpOp C.P ops Q i (wpAny C.P .any ops Q fuel (listed.setIfInBounds i true)) a w := by
    intro fuel listed s a w i hm hi hnext
    obtain ⟨hl0, o, ho, hed⟩ := mem_ready.1 hi
    have hilt : i < ops.size := (Array.getElem?_eq_some_iff.1 ho).1
    have hil : i < listed.size := by rw [hm.size]; exact hilt
    have hlf : listed.getD i false = false := by simp [hil] at hl0 ⊢; exact hl0
    have hancS : ∀ j, ((ancs ops.toList).getD i 0).testBit j = true → listed.getD j false = true := fun j hj =>
      anc_closed (ops := ops.toList) (S := fun j => listed.getD j false = true) (fun k ok hk => hm.closed k ok (by simpa using hk)) hedge i j (fun o' ho' => by
        have : o' = o := by simpa [ho] using ho'.symm
        subst this; exact hed) hj
    have hancN : ∀ j, listed.getD j false = true → ((ancs ops.toList).getD j 0).testBit i = false := fun j hj => by
      cases hb : ((ancs ops.toList).getD j 0).testBit i with
      | false => rfl
      | true =>
        have := anc_closed (ops := ops.toList) (S := fun j => listed.getD j false = true) (fun k ok hk => hm.closed k ok (by simpa using hk)) hedge j i (fun o' ho' => hm.closed j o' (by simpa using ho') hj) hb
        rw [hlf] at this; cases this
    have apart_low : ∀ j oj, ops[j]? = some oj → j < i → listed.getD j false = false → oj.apart ops o = true ∧ ¬ (effOp o.op = true ∧ effOp oj.op = true) := fun j oj hj hlt hS => by
      have := hpair i j o oj ho hj hlt
      unfold pairOK at this
      cases hb : ((ancs ops.toList).getD i 0).testBit j with
      | true => rw [hancS j hb] at hS; cases hS
      | false => rw [hb] at this; simp at this; exact ⟨this.1, fun h => by rcases this.2 with h' | h' <;> simp_all⟩
    have apart_high : ∀ j oj, ops[j]? = some oj → i < j → listed.getD j false = true → o.apart ops oj = true ∧ ¬ (effOp oj.op = true ∧ effOp o.op = true) := fun j oj hj hlt hS => by
      have := hpair j i oj o hj ho hlt
      unfold pairOK at this
      rw [hancN j hS] at this; simp at this; exact ⟨this.1, fun h => by rcases this.2 with h' | h' <;> simp_all⟩
    have hlook : ∀ t ∈ o.looksAt ops, envOf ops env val (fun k => listed.getD k false) ops.size t = envC ops env val i t := by
      intro t ht
      have := envOf_looks (ops := ops) (env := env) (val := val) (S := fun k => listed.getD k false) (i := i) (t := t) (fun j hj hS hd => by
        cases hoj : ops[j]? with
        | none => simp [hoj] at hd
        | some oj =>
          simp only [hoj, Option.bind_some] at hd
          exact (Oper.apart_spec (apart_low j oj hoj hj hS).1).1 t hd ht) (fun j hj hS hd => by
        cases hoj : ops[j]? with
        | none => simp [hoj] at hd
        | some oj =>
          simp only [hoj, Option.bind_some] at hd
          by_cases hji : j = i
          · subst hji; rw [hlf] at hS; cases hS
          · exact (Oper.apart_spec (apart_high j oj hoj (by omega) hS).1).2.2 t hd ht) ops.size
      rw [this, show min ops.size i = i from by omega]
    obtain ⟨hcong, hwant⟩ := looks_congr (C := C) hlook
    have hget : ∀ j d, (listed.setIfInBounds i true).getD j d = if j = i then true else listed.getD j d := fun j d => by
      by_cases hj : j = i
      · subst hj; rw [if_pos rfl]; simp [hil]
      · rw [if_neg hj]; exact getD_set_ne d (Ne.symm hj)
    have henv : envOf ops env val (fun k => (listed.setIfInBounds i true).getD k false) ops.size = aput (envOf ops env val (fun k => listed.getD k false) ops.size) o.dst (val i) := by
      have e1 : (fun k => (listed.setIfInBounds i true).getD k false) = fun k => listed.getD k false || k == i := by
        funext k; rw [hget]
        by_cases hk : k = i
        · subst hk; simp
        · simp [hk]
      rw [e1, envOf_set (S := fun k => listed.getD k false) (i := i) hlf (fun j hj hS t ht => ?_) ops.size hilt]
      · simp [ho]
      · cases hoj : ops[j]? with
        | none => simp [hoj] at ht
        | some oj =>
          simp only [hoj, Option.bind_some] at ht
          simp only [ho, Option.bind_some]
          intro h2
          exact (Oper.apart_spec (apart_high j oj hoj hj hS).1).2.1 t h2 ht
    obtain ⟨ρ, hst⟩ := hm.st
    have hw := fun {b : Bool} h => want_ok (ops := ops) (o := o) (b := b) hst.env (by rw [hst.size]; exact hdst) h
    have mid : BefB ops n i → ∀ s' (hs' : (∀ e, EffB ops env val n e → (listed.setIfInBounds i true).getD e false = true → e < s') ∧ (∀ e, e < s' → EffB ops env val n e → (listed.setIfInBounds i true).getD e false = true) ∧
        (s' = 0 ∨ ∃ e, s' = e + 1 ∧ EffB ops env val n e ∧ (listed.setIfInBounds i true).getD e false = true) ∧ s' ≤ ops.size) ρ' a' w', St C lo nt ds ρ₀ σ₀ w₀ ρ' (hp s') w' (aput (envOf ops env val (fun k => listed.getD k false) ops.size) o.dst (val i)) a' →
        MidN C lo nt ds ρ₀ σ₀ w₀ ops env val hp n (listed.setIfInBounds i true) s' a' w' := fun hin s' hs' ρ' a' w' hst' => by
      refine ⟨by simpa using hm.size, fun k ok hk hS e he hb => ?_, ⟨ρ', by rw [henv]; exact hst'⟩, hs'.1, hs'.2.1, hs'.2.2.1, hs'.2.2.2, fun j hj => ?_⟩
      · rw [hget]
        split
        · rfl
        · rw [hget] at hS
          by_cases hki : k = i
          · subst hki
            have : ok = o := by simpa [ho] using hk.symm
            subst this
            exact hed e he hb
          · rw [if_neg hki] at hS
            exact hm.closed k ok hk hS e he hb
      · rw [hget] at hj
        by_cases hji : j = i
        · subst hji; exact hin
        · rw [if_neg hji] at hj; exact hm.bef j hj
    have notEff : ¬ EffB ops env val n i → (∀ e, EffB ops env val n e → (listed.setIfInBounds i true).getD e false = true → e < s) ∧ (∀ e, e < s → EffB ops env val n e → (listed.setIfInBounds i true).getD e false = true) ∧
        (s = 0 ∨ ∃ e, s = e + 1 ∧ EffB ops env val n e ∧ (listed.setIfInBounds i true).getD e false = true) ∧ s ≤ ops.size := fun hne => by
      refine ⟨fun e hE hS => ?_, fun e he hE => ?_, ?_, hm.le⟩
      · rw [hget] at hS
        by_cases hei : e = i
        · subst hei; exact absurd hE hne
        · rw [if_neg hei] at hS; exact hm.below e hE hS
      · rw [hget]; split
        · rfl
        · exact hm.done e he hE
      · rcases hm.last with h | ⟨e, h1, h2, h3⟩
        · exact .inl h
        · refine .inr ⟨e, h1, h2, ?_⟩
          rw [hget]; split
          · rfl
          · exact h3
    have hnn : listed.getD n false = false := by
      cases h : listed.getD n false with
      | false => rfl
      | true => exact absurd rfl (hm.bef n h).1
    unfold wpOp
    simp only [ho]
    by_cases hin' : i = n
    · -- it panics
      subst hin'
      obtain rfl : on = o := Option.some.inj (hon.symm.trans ho)
      rw [hw (hwant ▸ hwn)]
      simp only [if_true]
      have hhp : hp s = hp i := by
        have hsi : s ≤ i := by
          rcases hm.last with h0 | ⟨e, rfl, g2, g3⟩
          · omega
          · have := (heff e g2).1; omega
        rcases hp_betweenN hev (i - s) s (by omega) with ⟨e, g1, g2, g3, g4⟩ | h
        · have := hm.below e g3 (hancS e (heff e g3).2); omega
        · rw [h]; congr 1; omega
      rw [← hhp] at hpan
      have h3' := (aop_congr (C := C) (lo := lo) (σ := hp s) hcong).symm ▸ hpan
      refine .inl (aop_ok hst (Nat.le_trans hlo hst.step.len) (hdst i on ho) h3' (fun _ _ _ _ _ hf => hf.elim) fun q s' ρ' w' u hk hv hst' _ => ?_)
      obtain ⟨rfl, rfl⟩ := hk
      exact hQ ρ' w' a u hv ⟨hst'.step, hst'.glob, hst'.env.envU, hst'.size, hst'.defers⟩
    have hin : BefB ops n i := by
      refine ⟨hin', ?_⟩
      cases h : ((ancs ops.toList).getD i 0).testBit n with
      | false => rfl
      | true => have := hancS n h; rw [hnn] at this; cases this
    rcases hev.op i o hin ho with ⟨h1, h2, h3⟩ | ⟨h1, h2, h3⟩ | ⟨h1, h2, h3, h4, h5, h6⟩
    · -- not wanted
      rw [hw (hwant ▸ h1)]
      simp only [Bool.false_eq_true, if_false]
      refine hnext s _ _ (mid hin s (notEff fun ⟨⟨o', ho', _, hw'⟩, _⟩ => ?_) ρ _ _ ?_)
      · have : o' = o := by simpa [ho] using ho'.symm
        subst this; rw [h1] at hw'; cases hw'
      · rw [h2]
        exact hst.next (.refl hst.step.sim) ⟨[], rfl, rfl⟩ (hdst i o ho)
    · -- an effect
      rw [hw (hwant ▸ h1)]
      simp only [if_true]
      have hE : EffB ops env val n i := ⟨⟨o, ho, h2, h1⟩, hin⟩
      have hsi : s ≤ i := by
        rcases Nat.lt_or_ge i s with h | h
        · have := hm.done i h hE; rw [hlf] at this; cases this
        · exact h
      have hhp : hp s = hp i := by
        rcases hp_betweenN hev (i - s) s (by omega) with ⟨e, g1, g2, g3, g4⟩ | h
        · obtain ⟨⟨oe, he1, he2, he3⟩, heb⟩ := g3
          cases hS : listed.getD e false with
          | true => have := hm.below e ⟨⟨oe, he1, he2, he3⟩, heb⟩ hS; omega
          | false => exact absurd ⟨h2, he2⟩ (apart_low e oe he1 (by omega) hS).2
        · rw [h]; congr 1; omega
      rw [← hhp] at h3
      have h3' := (aop_congr (C := C) (lo := lo) (σ := hp s) hcong).symm ▸ h3
      refine .inl (aop_ok hst (Nat.le_trans hlo hst.step.len) (hdst i o ho) h3' (fun v σ' ρ' w' a' hk hst' _ => ?_) fun _ _ _ _ _ hf => hf.elim)
      obtain ⟨rfl, rfl⟩ := hk
      refine hnext (i + 1) _ _ (mid hin (i + 1) ⟨fun e he hS => ?_, fun e he hE' => ?_, .inr ⟨i, rfl, hE, by rw [hget, if_pos rfl]⟩, by omega⟩ ρ' _ _ hst')
      · rw [hget] at hS
        by_cases hei : e = i
        · omega
        · rw [if_neg hei] at hS; have := hm.below e he hS; omega
      · rw [hget]
        split
        · rfl
        · rename_i hei
          rcases Nat.lt_or_ge e s with h | h
          · exact hm.done e h hE'
          · obtain ⟨⟨oe, he1, he2, he3⟩, _⟩ := hE'
            cases hS : listed.getD e false with
            | true => rfl
            | false => exact absurd ⟨h2, he2⟩ (apart_low e oe he1 (by omega) hS).2
    · -- it reads and computes
      rw [hw (hwant ▸ h1)]
      simp only [if_true]
      have hne : ¬ EffB ops env val n i := fun ⟨⟨o', ho', he', _⟩, _⟩ => by
        have : o' = o := by simpa [ho] using ho'.symm
        subst this; rw [h2] at he'; cases he'
      have hop : opA C lo (envC ops env val i) (hp s) o = some (val i, hp s) := by
        rcases Nat.lt_or_ge i s with h | h
        · rcases hm.last with h0 | ⟨e, rfl, g2, g3⟩
          · omega
          · have hie : i < e := by
              rcases Nat.lt_or_ge i e with h' | h'
              · exact h'
              · have : i = e := by omega
                subst this; exact absurd g2 hne
            exact h6 e hie g2 (hancN e g3)
        · rcases hp_betweenN hev (i - s) s (by omega) with ⟨e, g1, g2, g3, g4⟩ | h'
          · rw [g4]
            refine h5 e (by omega) g3 ?_
            cases hb : ((ancs ops.toList).getD i 0).testBit e with
            | false => rfl
            | true => have := hm.below e g3 (hancS e hb); omega
          · rw [show s + (i - s) = i from by omega] at h'
            rw [h']; exact h4
      have hop' : aop C lo o (fun v h => v = val i ∧ h = hp s) nope (envOf ops env val (fun k => listed.getD k false) ops.size) (hp s) :=
        aop_of_opA ((opA_congr (C := C) (lo := lo) (σ := hp s) hcong).trans hop) ⟨rfl, rfl⟩
      refine .inl (aop_ok hst (Nat.le_trans hlo hst.step.len) (hdst i o ho) hop' (fun v σ' ρ' w' a' hk hst' _ => ?_) fun _ _ _ _ _ hf => hf.elim)
      obtain ⟨rfl, rfl⟩ := hk
      exact hnext s _ _ (mid hin s (notEff hne) ρ' _ _ hst')
  intro fuel
  induction fuel with
  | zero =>
    intro listed s a w hm hcount
    exfalso
    have : n ∈ (List.range ops.size).filter fun i => !listed.getD i true := by
      rw [List.mem_filter]
      refine ⟨List.mem_range.2 hnlt, ?_⟩
      have h1 : n < listed.size := by rw [hm.size]; exact hnlt
      have hl : listed.getD n false = false := by
        cases h : listed.getD n false with
        | false => rfl
        | true => exact absurd rfl (hm.bef n h).1
      simp [h1] at hl ⊢; exact hl
    have := List.length_pos_of_mem this
    omega
  | succ fuel ih =>
    intro listed s a w hm hcount
    refine ⟨fun hr => ?_, fun i hi => ?_⟩
    · have := ready_none listed hm.size hr n hnlt
      exact absurd rfl (hm.bef n this).1
    refine step fuel listed s a w i hm hi fun s' a' w' hm' => ih _ s' a' w' hm' ?_
    obtain ⟨h0, o, ho, _⟩ := mem_ready.1 hi
    have hilt : i < ops.size := (Array.getElem?_eq_some_iff.1 ho).1
    have h1 : i < listed.size := by rw [hm.size]; exact hilt
    have := filter_lt (l := List.range ops.size) (x := i) (p := fun j => !(listed.setIfInBounds i true).getD j true) (q := fun j => !listed.getD j true) (fun j hj => by
      by_cases hji : j = i
      · subst hji; simp [h1] at hj
      · rw [getD_set_ne true (Ne.symm hji)] at hj; exact hj) (List.mem_range.2 hilt) (by rw [h0]; rfl) (by simp [h1])
    omega

/-- A region that draws, and panics. -/
theorem drawPan_ok {p : AV} {σ' : Heap} {ρ : Map} {w : World} {a : Act} {id : Nat} (hm : C.P.follows .mixedOrders = true) (h : DrawPan C lo ops env σ p σ') (hdst : ∀ (j : Nat) (o : Oper), ops[j]? = some o → dstOK nt o = true)
    (hst : St C lo nt ds ρ₀ σ₀ w₀ ρ σ w env a) (hlo : lo ≤ σ₀.length) {Q : Exit → Act → World → Prop}
    (hQ : ∀ ρ w a u, VRel ρ σ' w p u → St C lo nt ds ρ₀ σ₀ w₀ ρ σ' w (Go.Abs.envU ops env) a → Q (.panic [{ v := u, recovered := false }]) a w) : (Code.region id ops true).wp C.P Q a w := by
  obtain ⟨hs, n, o, val, hp, ho, hev, hw, hpan, heff⟩ := h
  refine wp_region_any hm (drawnP_ok hs ho hev hw hpan heff hdst hlo hQ ops.size _ 0 _ _ ⟨by simp, fun i o hi hl => ?_, ⟨ρ, ?_⟩, fun e _ hl => ?_, fun e he => by omega, .inl rfl, Nat.zero_le _, fun j hl => by rw [rep_false] at hl; cases hl⟩ ?_)
  · rw [rep_false] at hl; cases hl
  · have e1 : ∀ n, envOf ops env val (fun k => (Array.replicate ops.size false).getD k false) n = env := by
      intro n
      induction n with
      | zero => rfl
      | succ n ih => simp only [envOf]; rw [if_neg (by rw [rep_false]; simp), ih]
    rw [e1, hev.start]
    have hb : Below w.heap.size w { w with drawn := w.drawn + 1 } := ⟨rfl, rfl, rfl, Nat.le_refl _, fun _ _ => rfl⟩
    have hx : StepL lo ρ σ w ρ σ { w with drawn := w.drawn + 1 } := ⟨hst.step.sim.grow hb, .grow hb, Nat.le_refl _, fun _ _ h => h⟩
    exact ⟨hst.step.trans hx, hst.glob.ext hx.ext rfl, hst.env.ext hx.ext, hst.size, hst.defers⟩
  · rw [rep_false] at hl; cases hl
  · have := List.length_filter_le (fun i => !(Array.replicate ops.size false).getD i true) (List.range ops.size)
    simpa using this
end
end Go.Abs
