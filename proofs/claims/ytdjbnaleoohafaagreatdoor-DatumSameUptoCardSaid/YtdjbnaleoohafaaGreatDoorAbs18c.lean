/-
  AN ABSTRACT SEMANTICS, 18c: a region that draws its order, whose writing operations may come in either order too.
-/
import Derived.Test.YtdjbnaleoohafaaGreatDoorAbs18b
namespace Go.Abs
open Go Go.RowKit

/-- What must be done ahead is done. -/
def ClosedS (ops : Array Oper) (S : Nat → Bool) : Prop := ∀ i o, ops[i]? = some o → S i = true → ∀ e ∈ o.after, Region.binds .any e = true → S e.on = true

def also (S : Nat → Bool) (i : Nat) : Nat → Bool := fun k => if k = i then true else S k

/-- R: over which heaps so many operations are done. -/
structure DrawR (C : Ctx) (lo : Nat) (ops : Array Oper) (env : Env) (σ σ' : Heap) (val : Nat → AV) (R : (Nat → Bool) → Heap → Prop) : Prop where
  start : R (fun _ => false) σ
  op : ∀ S h i o, R S h → ClosedS ops S → ops[i]? = some o → S i = false → (∀ e ∈ o.after, Region.binds .any e = true → S e.on = true) → 
    (∀ j, ((ancs ops.toList).getD i 0).testBit j = true → S j = true) → (∀ j, S j = true → ((ancs ops.toList).getD j 0).testBit i = false) →
    (wantA ops o (envC ops env val i) = some false ∧ val i = .tuple [] ∧ R (also S i) h) ∨
    (wantA ops o (envC ops env val i) = some true ∧ aop C lo o (fun v h' => v = val i ∧ R (also S i) h') nope (envC ops env val i) h)
  fin : ∀ S h, R S h → (∀ i, i < ops.size → S i = true) → h = σ'

def DrawOKR (C : Ctx) (lo : Nat) (ops : Array Oper) (env : Env) (σ : Heap) (env' : Env) (σ' : Heap) : Prop :=
  drawLoose ops = true ∧ ∃ val R, DrawR C lo ops env σ σ' val R ∧ env' = envC ops env val ops.size

section
variable {C : Ctx} {lo : Nat} {ops : Array Oper} {env : Env} {σ σ' : Heap} {val : Nat → AV} {R : (Nat → Bool) → Heap → Prop}
variable {nt : Nat} {ds : List Deferred} {ρ₀ : Map} {σ₀ : Heap} {w₀ : World}

/-- What is known when some operations are done. -/
structure MidR (C : Ctx) (lo nt : Nat) (ds : List Deferred) (ρ₀ : Map) (σ₀ : Heap) (w₀ : World) (ops : Array Oper) (env : Env) (val : Nat → AV) (R : (Nat → Bool) → Heap → Prop) (listed : Array Bool) (a : Act) (w : World) : Prop where
  size : listed.size = ops.size
  closed : ∀ i o, ops[i]? = some o → listed.getD i false = true → ∀ e ∈ o.after, Region.binds .any e = true → listed.getD e.on false = true
  st : ∃ ρ h, R (fun k => listed.getD k false) h ∧ St C lo nt ds ρ₀ σ₀ w₀ ρ h w (envOf ops env val (fun k => listed.getD k false) ops.size) a

theorem drawnR_ok (hstat : drawLoose ops = true) (hev : DrawR C lo ops env σ σ' val R) (hdst : ∀ (j : Nat) (o : Oper), ops[j]? = some o → dstOK nt o = true) (hlo : lo ≤ σ₀.length) {Q : Exit → Act → World → Prop}
    (hQ : ∀ ρ w a, St C lo nt ds ρ₀ σ₀ w₀ ρ σ' w (envC ops env val ops.size) a → Q .normal a w) : ∀ (fuel : Nat) (listed : Array Bool) (a : Act) (w : World), MidR C lo nt ds ρ₀ σ₀ w₀ ops env val R listed a w →
    ((List.range ops.size).filter fun i => !listed.getD i true).length ≤ fuel → wpAny C.P .any ops Q fuel listed a w := by
  have hpairs := fun i o h => allPairs_get (l := ops.toList) (before := []) (s := 0) hstat rfl i o h
  have hedge : ∀ i o, ops.toList[i]? = some o → ∀ e ∈ o.after, Region.binds .any e = true → e.on < i := fun i o ho e he hb => by have := (hpairs i o ho).2 e he hb; rwa [Nat.zero_add] at this
  have hpair : ∀ i j oi oj, ops[i]? = some oi → ops[j]? = some oj → j < i → pairOK false ops (ancs ops.toList) i j oi oj = true := fun i j oi oj hi hj hlt => by
    have := (hpairs i oi (by simpa using hi)).1 j oj (by omega) (by simpa using hj)
    simpa using this
  -- when nothing is left, all is done
  have fin : ∀ (listed : Array Bool) (a : Act) (w : World), MidR C lo nt ds ρ₀ σ₀ w₀ ops env val R listed a w → (∀ i, i < ops.size → listed.getD i false = true) → Q .normal a w := by
    intro listed a w hm hall
    obtain ⟨ρ, h, hr, hst⟩ := hm.st
    have e1 : ∀ n, n ≤ ops.size → envOf ops env val (fun k => listed.getD k false) n = envC ops env val n := by
      intro n
      induction n with
      | zero => intro _; rfl
      | succ n ih => intro hn; simp only [envC, envOf, hall n (by omega), if_true]; rw [ih (by omega)]
    obtain rfl := hev.fin _ _ hr hall
    rw [e1 _ (Nat.le_refl _)] at hst
    exact hQ ρ w a hst
  have ready_none : ∀ (listed : Array Bool), listed.size = ops.size → Region.ready .any ops listed = [] → ∀ i, i < ops.size → listed.getD i false = true := by
    intro listed hsz hr i
    induction i using Nat.strongRecOn with
    | _ i ih =>
      intro hi
      cases hl : listed.getD i false with
      | true => rfl
      | false =>
        have ho : ops[i]? = some ops[i] := Array.getElem?_eq_getElem hi
        have : i ∈ Region.ready .any ops listed := by
          rw [mem_ready]
          refine ⟨?_, _, ho, fun e he hb => ?_⟩
          · have h1 : i < listed.size := by omega
            simp [h1] at hl ⊢; exact hl
          · have hlt := hedge i _ (by simp) e he hb
            exact ih e.on hlt (by omega)
        rw [hr] at this; simp at this
  -- one operation
  have step : ∀ (fuel : Nat) (listed : Array Bool) (a : Act) (w : World) (i : Nat), MidR C lo nt ds ρ₀ σ₀ w₀ ops env val R listed a w → i ∈ Region.ready .any ops listed →
      (∀ a' w', MidR C lo nt ds ρ₀ σ₀ w₀ ops env val R (listed.setIfInBounds i true) a' w' → wpAny C.P .any ops Q fuel (listed.setIfInBounds i true) a' w') → wpOp C.P ops Q i (wpAny C.P .any ops Q fuel (listed.setIfInBounds i true)) a w := by
    intro fuel listed a w i hm hi hnext
    obtain ⟨hl0, o, ho, hed⟩ := mem_ready.1 hi
    have hilt : i < ops.size := (Array.getElem?_eq_some_iff.1 ho).1
    have hil : i < listed.size := by rw [hm.size]; exact hilt
    have hlf : listed.getD i false = false := by simp [hil] at hl0 ⊢; exact hl0
    have hancS : ∀ j, ((ancs ops.toList).getD i 0).testBit j = true → listed.getD j false = true := fun j hj =>
      anc_closed (ops := ops.toList) (S := fun j => listed.getD j false = true) (fun k ok hk => hm.closed k ok (by simpa using hk)) hedge i j (fun o' ho' => by
        have : o' = o := by simpa [ho] using ho'.symm
        subst this; exact hed) hj
    have hancN : ∀ j, listed.getD j false = true → ((ancs ops.toList).getD j 0).testBit i = false := fun j hj => by
      cases hb : ((ancs ops.toList).getD j 0).testBit i with
      | false => rfl
      | true =>
        have := anc_closed (ops := ops.toList) (S := fun j => listed.getD j false = true) (fun k ok hk => hm.closed k ok (by simpa using hk)) hedge j i (fun o' ho' => hm.closed j o' (by simpa using ho') hj) hb
        rw [hlf] at this; cases this
    have apart_low : ∀ j oj, ops[j]? = some oj → j < i → listed.getD j false = false → oj.apart ops o = true := fun j oj hj hlt hS => by
      have := hpair i j o oj ho hj hlt
      unfold pairOK at this
      cases hb : ((ancs ops.toList).getD i 0).testBit j with
      | true => rw [hancS j hb] at hS; cases hS
      | false => rw [hb] at this; simp at this; exact this
    have apart_high : ∀ j oj, ops[j]? = some oj → i < j → listed.getD j false = true → o.apart ops oj = true := fun j oj hj hlt hS => by
      have := hpair j i oj o hj ho hlt
      unfold pairOK at this
      rw [hancN j hS] at this; simp at this; exact this
    have hlook : ∀ t ∈ o.looksAt ops, envOf ops env val (fun k => listed.getD k false) ops.size t = envC ops env val i t := by
      intro t ht
      have := envOf_looks (ops := ops) (env := env) (val := val) (S := fun k => listed.getD k false) (i := i) (t := t) (fun j hj hS hd => by
        cases hoj : ops[j]? with
        | none => simp [hoj] at hd
        | some oj =>
          simp only [hoj, Option.bind_some] at hd
          exact (Oper.apart_spec (apart_low j oj hoj hj hS)).1 t hd ht) (fun j hj hS hd => by
        cases hoj : ops[j]? with
        | none => simp [hoj] at hd
        | some oj =>
          simp only [hoj, Option.bind_some] at hd
          by_cases hji : j = i
          · subst hji; rw [hlf] at hS; cases hS
          · exact (Oper.apart_spec (apart_high j oj hoj (by omega) hS)).2.2 t hd ht) ops.size
      rw [this, show min ops.size i = i from by omega]
    obtain ⟨hcong, hwant⟩ := looks_congr (C := C) hlook
    have hget : ∀ j d, (listed.setIfInBounds i true).getD j d = if j = i then true else listed.getD j d := fun j d => by
      by_cases hj : j = i
      · subst hj; rw [if_pos rfl]; simp [hil]
      · rw [if_neg hj]; exact getD_set_ne d (Ne.symm hj)
    have henv : envOf ops env val (fun k => (listed.setIfInBounds i true).getD k false) ops.size = aput (envOf ops env val (fun k => listed.getD k false) ops.size) o.dst (val i) := by
      have e1 : (fun k => (listed.setIfInBounds i true).getD k false) = fun k => listed.getD k false || k == i := by
        funext k; rw [hget]
        by_cases hk : k = i
        · subst hk; simp
        · simp [hk]
      rw [e1, envOf_set (S := fun k => listed.getD k false) (i := i) hlf (fun j hj hS t ht => ?_) ops.size hilt]
      · simp [ho]
      · cases hoj : ops[j]? with
        | none => simp [hoj] at ht
        | some oj =>
          simp only [hoj, Option.bind_some] at ht
          simp only [ho, Option.bind_some]
          intro h2
          exact (Oper.apart_spec (apart_high j oj hoj hj hS)).2.1 t h2 ht
    obtain ⟨ρ, h, hr, hst⟩ := hm.st
    have hw := fun {b : Bool} h => want_ok (ops := ops) (o := o) (b := b) hst.env (by rw [hst.size]; exact hdst) h
    have hset : (fun k => (listed.setIfInBounds i true).getD k false) = also (fun k => listed.getD k false) i := by
      funext k; rw [hget]; rfl
    have mid : ∀ h' (hr' : R (also (fun k => listed.getD k false) i) h') ρ' a' w', St C lo nt ds ρ₀ σ₀ w₀ ρ' h' w' (aput (envOf ops env val (fun k => listed.getD k false) ops.size) o.dst (val i)) a' →
        MidR C lo nt ds ρ₀ σ₀ w₀ ops env val R (listed.setIfInBounds i true) a' w' := fun h' hr' ρ' a' w' hst' => by
      refine ⟨by simpa using hm.size, fun k ok hk hS e he hb => ?_, ⟨ρ', h', by rw [hset]; exact hr', by rw [henv]; exact hst'⟩⟩
      rw [hget]
      split
      · rfl
      · rw [hget] at hS
        by_cases hki : k = i
        · subst hki
          have : ok = o := by simpa [ho] using hk.symm
          subst this
          exact hed e he hb
        · rw [if_neg hki] at hS
          exact hm.closed k ok hk hS e he hb
    unfold wpOp
    simp only [ho]
    rcases hev.op _ h i o hr (fun i o h1 h2 e he hb => hm.closed i o h1 h2 e he hb) ho hlf hed hancS hancN with ⟨h1, h2, h3⟩ | ⟨h1, h3⟩
    · rw [hw (hwant ▸ h1)]
      simp only [Bool.false_eq_true, if_false]
      refine hnext _ _ (mid h h3 ρ _ _ ?_)
      rw [h2]
      exact hst.next (.refl hst.step.sim) ⟨[], rfl, rfl⟩ (hdst i o ho)
    · rw [hw (hwant ▸ h1)]
      simp only [if_true]
      have h3' := (aop_congr (C := C) (lo := lo) (σ := h) hcong).symm ▸ h3
      refine .inl (aop_ok hst (Nat.le_trans hlo hst.step.len) (hdst i o ho) h3' (fun v σ'' ρ' w' a' hk hst' _ => ?_) fun _ _ _ _ _ hf => hf.elim)
      obtain ⟨rfl, hr'⟩ := hk
      exact hnext _ _ (mid _ hr' ρ' _ _ hst')
  intro fuel
  induction fuel with
  | zero =>
    intro listed a w hm hcount
    have hall : ∀ i, i < ops.size → listed.getD i false = true := by
      intro i hi
      cases hl : listed.getD i false with
      | true => rfl
      | false =>
        have : i ∈ (List.range ops.size).filter fun i => !listed.getD i true := by
          rw [List.mem_filter]
          refine ⟨List.mem_range.2 hi, ?_⟩
          have h1 : i < listed.size := by rw [hm.size]; exact hi
          simp [h1] at hl ⊢; exact hl
        have := List.length_pos_of_mem this
        omega
    refine ⟨?_, fin listed a w hm hall⟩
    cases hr : Region.ready .any ops listed with
    | nil => rfl
    | cons i r =>
      have hi : i ∈ Region.ready .any ops listed := by rw [hr]; simp
      obtain ⟨h0, o, ho, _⟩ := mem_ready.1 hi
      have hilt : i < ops.size := (Array.getElem?_eq_some_iff.1 ho).1
      have h1 : i < listed.size := by rw [hm.size]; exact hilt
      have := hall i hilt
      simp [h1] at this h0
      rw [this] at h0; cases h0
  | succ fuel ih =>
    intro listed a w hm hcount
    refine ⟨fun hr => fin listed a w hm (ready_none listed hm.size hr), fun i hi => ?_⟩
    refine step fuel listed a w i hm hi fun a' w' hm' => ih _ a' w' hm' ?_
    obtain ⟨h0, o, ho, _⟩ := mem_ready.1 hi
    have hilt : i < ops.size := (Array.getElem?_eq_some_iff.1 ho).1
    have h1 : i < listed.size := by rw [hm.size]; exact hilt
    have := filter_lt (l := List.range ops.size) (x := i) (p := fun j => !(listed.setIfInBounds i true).getD j true) (q := fun j => !listed.getD j true) (fun j hj => by
      by_cases hji : j = i
      · subst hji; simp [h1] at hj
      · rw [getD_set_ne true (Ne.symm hji)] at hj; exact hj) (List.mem_range.2 hilt) (by rw [h0]; rfl) (by simp [h1])
    omega

/-- A region that draws. -/
theorem drawR_ok {env' : Env} {ρ : Map} {w : World} {a : Act} {id : Nat} (hm : C.P.follows .mixedOrders = true) (h : DrawOKR C lo ops env σ env' σ') (hdst : ∀ (j : Nat) (o : Oper), ops[j]? = some o → dstOK nt o = true)
    (hst : St C lo nt ds ρ₀ σ₀ w₀ ρ σ w env a) (hlo : lo ≤ σ₀.length) {Q : Exit → Act → World → Prop} (hQ : ∀ ρ w a, St C lo nt ds ρ₀ σ₀ w₀ ρ σ' w env' a → Q .normal a w) : (Code.region id ops true).wp C.P Q a w := by
  obtain ⟨hs, val, R, hev, rfl⟩ := h
  refine wp_region_any hm (drawnR_ok hs hev hdst hlo hQ ops.size _ _ _ ⟨by simp, fun i o hi hl => ?_, ⟨ρ, σ, ?_, ?_⟩⟩ ?_)
  · rw [rep_false] at hl; cases hl
  · have : (fun k => (Array.replicate ops.size false).getD k false) = fun _ => false := by funext k; exact rep_false _ _
    rw [this]; exact hev.start
  · have e1 : ∀ n, envOf ops env val (fun k => (Array.replicate ops.size false).getD k false) n = env := by
      intro n
      induction n with
      | zero => rfl
      | succ n ih => simp only [envOf]; rw [if_neg (by rw [rep_false]; simp), ih]
    rw [e1]
    have hb : Below w.heap.size w { w with drawn := w.drawn + 1 } := ⟨rfl, rfl, rfl, Nat.le_refl _, fun _ _ => rfl⟩
    have hx : StepL lo ρ σ w ρ σ { w with drawn := w.drawn + 1 } := ⟨hst.step.sim.grow hb, .grow hb, Nat.le_refl _, fun _ _ h => h⟩
    exact ⟨hst.step.trans hx, hst.glob.ext hx.ext rfl, hst.env.ext hx.ext, hst.size, hst.defers⟩
  · have := List.length_filter_le (fun i => !(Array.replicate ops.size false).getD i true) (List.range ops.size)
    simpa using this
end
end Go.Abs
