/-
  AN ABSTRACT SEMANTICS, 18e: a region whose orders come to different things: each order is looked at.
-/
import Derived.Test.YtdjbnaleoohafaaGreatDoorAbs18d
namespace Go.Abs
open Go Go.RowKit

/-- Operations in a given order. -/
def aopsI (C : Ctx) (lo : Nat) (ops : Array Oper) : List Nat → (AExit → Env → Heap → Prop) → Env → Heap → Prop
  | [], K, env, σ => K .normal env σ
  | i :: rest, K, env, σ => match ops[i]? with
    | none => aopsI C lo ops rest K env σ
    | some o => match wantA ops o env with
      | some true => aop C lo o (fun v σ' => aopsI C lo ops rest K (aput env o.dst v) σ') nope env σ
      | some false => aopsI C lo ops rest K (aput env o.dst (.tuple [])) σ
      | none => False

/-- All orders that may be drawn. -/
def allOrders (ops : Array Oper) : Nat → Array Bool → List (List Nat)
  | 0, _ => [[]]
  | fuel + 1, listed => match Region.ready .any ops listed with
    | [] => [[]]
    | i :: l => (i :: l).flatMap fun i => (allOrders ops fuel (listed.setIfInBounds i true)).map (i :: ·)

theorem lin_mem (ops : Array Oper) : ∀ (fuel t : Nat) (listed : Array Bool), Region.linearise.go .any ops fuel t listed [] ∈ allOrders ops fuel listed := by
  intro fuel
  induction fuel with
  | zero => intro t listed; simp [Region.linearise.go, allOrders]
  | succ fuel ih =>
    intro t listed
    simp only [Region.linearise.go, allOrders]
    change (match (Region.ready .any ops listed)[t % (Region.ready .any ops listed).length]? with
      | some i => Region.linearise.go .any ops fuel (t / (Region.ready .any ops listed).length) (listed.setIfInBounds i true) [i]
      | none => [].reverse) ∈ _
    cases hr : Region.ready .any ops listed with
    | nil => simp
    | cons x xs =>
      have hlt : t % (x :: xs).length < (x :: xs).length := Nat.mod_lt _ (by simp)
      have hget : (x :: xs)[t % (x :: xs).length]? = some (x :: xs)[t % (x :: xs).length] := List.getElem?_eq_getElem hlt
      rw [hget]
      simp only
      rw [linearise_go_acc, List.reverse_singleton, List.singleton_append]
      exact List.mem_flatMap.2 ⟨_, List.getElem_mem hlt, List.mem_map.2 ⟨_, ih _ _, rfl⟩⟩

section
variable {C : Ctx} {lo nt : Nat} {ds : List Deferred} {ρ₀ : Map} {σ₀ : Heap} {w₀ : World}

theorem keep_takeE {m : Nat} {ρ : Map} {σ : Heap} {w : World} (av : AV) (v : Value) (hb : av.refsB m = true) (h : VRel ρ σ w av v) : VRel ρ (σ.take m) w av v := vrel_ext (Ext.take m ρ σ w) av v hb h

theorem aopsI_ok {ops : Array Oper} {Q : Exit → Act → World → Prop} {K : AExit → Env → Heap → Prop} (hdst : ∀ (j : Nat) (o : Oper), ops[j]? = some o → dstOK nt o = true)
    (hK : ∀ env σ ρ w a, K .normal env σ → St C lo nt ds ρ₀ σ₀ w₀ ρ σ w env a → lo ≤ σ.length → Q .normal a w) : ∀ (l : List Nat) (env : Env) (σ : Heap) (ρ : Map) (w : World) (a : Act),
    aopsI C lo ops l K env σ → St C lo nt ds ρ₀ σ₀ w₀ ρ σ w env a → lo ≤ σ.length → wpOps C.P ops Q l a w := by
  intro l
  induction l with
  | nil => intro env σ ρ w a h hs hlo; exact hK env σ ρ w a h hs hlo
  | cons i rest ih =>
    intro env σ ρ w a h hs hlo
    simp only [wpOps]
    simp only [aopsI] at h
    split at h
    · rename_i hi
      rw [hi]
      exact ih _ _ ρ w a h hs hlo
    · rename_i o hi
      rw [hi]
      simp only
      split at h
      · rename_i hw
        rw [want_ok hs.env (by rw [hs.size]; exact hdst) hw]
        simp only [if_true]
        exact .inl (aop_ok hs hlo (hdst i o hi) h (fun v σ' ρ' w' a' hk' hs' hlo' => ih _ _ ρ' w' a' hk' hs' hlo') fun _ _ _ _ _ hf => hf.elim)
      · rename_i hw
        rw [want_ok hs.env (by rw [hs.size]; exact hdst) hw]
        simp only [Bool.false_eq_true, if_false]
        exact ih _ _ ρ w _ h (hs.next (.refl hs.step.sim) (u := undef) ⟨[], rfl, rfl⟩ (hdst i o hi)) hlo
      · exact h.elim

/-- What leads to what goes is forgotten. -/
def dropE (m : Nat) (env : Env) : Env := fun x => if (env x).refsB m = true then env x else .undef

/-- What was made goes. -/
theorem St.drop {ρ ρ' : Map} {σ σ' : Heap} {w w' : World} {env env' : Env} {a a' : Act} (h : St C lo nt ds ρ₀ σ₀ w₀ ρ σ w env a) (hlo : lo ≤ σ.length) (h' : St C lo nt ds ρ σ w ρ' σ' w' env' a')
    (hc : ∀ r o, r < σ.length → σ'[r]? = some o → o.refsB σ.length = true) : St C lo nt ds ρ₀ σ₀ w₀ ρ' (σ'.take σ.length) w' (dropE σ.length env') a' := by
  have hst : StepL lo ρ σ w ρ' (σ'.take σ.length) w' := by
    refine ⟨h'.step.sim.take hc, h'.step.ext.trans (Ext.take _ _ _ _), by rw [List.length_take]; exact Nat.le_min.2 ⟨Nat.le_refl _, h'.step.len⟩, fun b hb hcb i o hi ho => ?_⟩
    rw [List.getElem?_take_of_lt (by omega)] at ho
    exact h'.step.closed b hb hcb i o hi ho
  refine ⟨h.step.trans hst, h.glob.ext hst.ext rfl, fun t => ?_, h'.size, h'.defers⟩
  unfold dropE
  split
  · rename_i hr; exact keep_takeE _ _ hr (h'.env t)
  · trivial

/-- What was made since goes; told from where all began. -/
theorem St.since {ρ ρ' : Map} {σ σ' : Heap} {w w' : World} {env env' : Env} {a a' : Act} (h : St C lo nt ds ρ₀ σ₀ w₀ ρ σ w env a) (h' : St C lo nt ds ρ₀ σ₀ w₀ ρ' σ' w' env' a')
    (hlo : lo ≤ σ₀.length) (hc : ∀ r o, r < σ.length → σ'[r]? = some o → o.refsB σ.length = true) : St C lo nt ds ρ₀ σ₀ w₀ ρ' (σ'.take σ.length) w' (dropE σ.length env') a' := by
  have l1 := h.step.len
  have l2 := h'.step.len
  refine ⟨⟨h'.step.sim.take hc, h'.step.ext.trans ((Ext.take σ.length ρ' σ' w').mono l1), by rw [List.length_take]; exact Nat.le_min.2 ⟨l1, l2⟩, fun b hb hcb i o hi ho => ?_⟩, fun g cs hg => ?_, fun t => ?_, h'.size, h'.defers⟩
  · rw [List.getElem?_take_of_lt (by omega)] at ho
    exact h'.step.closed b hb hcb i o hi ho
  · exact keep_takeE _ _ (vrel_refs _ _ (h.glob g cs hg)) (h'.glob g cs hg)
  · unfold dropE
    split
    · rename_i hr; exact keep_takeE _ _ hr (h'.env t)
    · trivial
end
end Go.Abs
