/-
  THE LAYER's OWN EXAMPLE, RUN: works() of lexiconlaw11 answers true; by the interpreter of the abstract semantics, in the kernel.
-/
import Derived.Test.YtdjbnaleoohafaaGreatDoorDat
namespace Go.Proofs.YtdjbnaleoohafaaGreatDoor.Same
open Go Go.Abs
/-- avrocodec.Take defers: it is run by the rule of what defers. -/
noncomputable def XX (call : Abs.Callee) (f : FuncId) (args : List AV) (σ : Heap) : Option (AV × Heap) :=
  if f = 12 then runFnD CC call 1000 Go.Proofs.Tryz.f12 args σ else none
theorem f12_get : CC.P.funcs[12]? = some Go.Proofs.Tryz.f12 := by kernel_rfl
theorem f10_get : CC.P.funcs[10]? = some Go.Proofs.Tryz.f10 := by kernel_rfl
theorem good12 : goodFn CC.P 12 = true := by kernel_rfl
theorem xx_good : GoodX CC XX := by
  intro callee hc f args σ r σ' h
  unfold XX at h
  split at h
  · rename_i hf
    subst hf
    exact .inl ⟨good12, runFnD_ok fol allok hc f12_get h⟩
  · cases h
/-- Is it true, over nothing? -/
def isTN : Option (AV × Heap) → Bool
  | some (.bool true, []) => true
  | _ => false
theorem isTN_eq {x : Option (AV × Heap)} (h : isTN x = true) : x = some (.bool true, []) := by
  unfold isTN at h
  split at h
  · rfl
  · cases h
theorem run10 : isTN (runFn CC (callF CC XX 1000 100) 1000 Go.Proofs.Tryz.f10 [] []) = true := by kernel_rfl
theorem works_ok : PureOK CC 10 [] (.bool true) := pure_of_run fol allok xx_good f10_get (isTN_eq run10)
end Go.Proofs.YtdjbnaleoohafaaGreatDoor.Same
