/-
  AN ABSTRACT SEMANTICS, 21: contracts that touch nothing that is owned.
-/
import Derived.Test.YtdjbnaleoohafaaGreatDoorAbs20
namespace Go.Abs
open Go Go.RowKit

/-- What is known of the package-level variables owns nothing. -/
def PlainG (C : Ctx) : Prop := ∀ g cs, C.G g = some cs → refsBL 0 cs = true

/-- A contract that reads and writes nothing that is owned. -/
def PureOK (C : Ctx) (f : FuncId) (args : List AV) (r : AV) : Prop := FnOK C 0 f args [] r []

section
variable {C : Ctx} {lo : Nat} {ρ ρ' : Map} {σ σ' : Heap} {w w' : World}

theorem own_none (ρ : Map) (b : Nat) : ¬ Own ρ [] b := fun ⟨r, o, h1, _⟩ => by simp at h1

/-- All that is owned is put out of reach. -/
def Map.away (ρ : Map) (σ : Heap) : Map := ⟨ρ.loc, Mut ρ σ⟩

theorem Sim.away (hs : Sim ρ σ w) : Sim (ρ.away σ) [] w :=
  ⟨fun r o h => by simp at h, fun r r' o o' h => by simp at h, fun b hb => ⟨hs.mut_lt hb, own_none _ b⟩⟩

theorem keep_away : Keep 0 ρ σ w (ρ.away σ) [] w :=
  ⟨Nat.le_refl _, fun _ _ _ => rfl, fun b _ h hm => hm.elim (own_none _ b) h, fun r hr => by omega⟩

theorem keep_back (hx : Ext 0 (ρ.away σ) [] w ρ' [] w') : Keep 0 ρ' [] w' ρ σ w' :=
  ⟨Nat.le_refl _, fun _ _ _ => rfl, fun b _ h hm => h (.inr (by rw [hx.forb]; exact hm)), fun r hr => by omega⟩

theorem step_back (hs : Sim ρ σ w) (h : StepL 0 (ρ.away σ) [] w ρ' [] w') : StepL lo ρ σ w ρ σ w' := by
  have hb : Below w.heap.size w w' := ⟨h.ext.os, h.ext.tape, h.ext.output, h.ext.size, fun b hb => h.ext.block b hb (own_none _ b)⟩
  exact ⟨hs.grow hb, Ext.grow hb, Nat.le_refl _, fun _ _ hc => hc⟩

/-- Such a contract holds whatever is owned. -/
theorem fn_of_pure {f : FuncId} {args : List AV} {r : AV} (hG : PlainG C) (ha : refsBL 0 args = true) (h : PureOK C f args r) (lo : Nat) (σ : Heap) : FnOK C lo f args σ r σ := by
  intro ρ w vs hs hg hl
  refine (h (ρ.away σ) w vs hs.away ?_ (lrel_keep keep_away args vs ha hl)).mono fun e w' hp => ?_
  · intro g cs hgc
    exact vrel_keep keep_away _ _ (by simp only [AV.refsB]; exact hG g cs hgc) (hg g cs hgc)
  · obtain ⟨ρ', v, he, hv, hst⟩ := post_iff.1 hp
    have hst' : StepL 0 (ρ.away σ) [] w ρ' [] w' := hst
    exact post_iff.2 ⟨ρ, v, he, vrel_keep (keep_back hst'.ext) _ v (vrel_refs _ v hv) hv, step_back hs hst'⟩

theorem call_of_pure {f : FuncId} {args : List AV} {r : AV} (hG : PlainG C) (ha : refsBL 0 args = true) (hf : goodFn C.P f = true) (h : PureOK C f args r) (lo : Nat) (σ : Heap) : CallOK C lo f args σ r σ :=
  .inl ⟨hf, fn_of_pure hG ha h lo σ⟩
end
end Go.Abs
