/-
  DatumSame, THE SECOND FORM's CARD, joined.
-/
import Derived.Test.YtdjbnaleoohafaaGreatDoorLift
import Derived.Test.YtdjbnaleoohafaaGreatDoorFacts2
namespace Go.Proofs.YtdjbnaleoohafaaGreatDoor.Same
open Go Go.Abs Go.ChangeShapes Go.WideShapes Go.ChangeAt Go.RowKit

theorem holds : Rows.DatumSameUptoSaid :=
  OpenClaim.holds_of_cond 7 Tryz.f7 rfl rfl rfl rfl rfl rfl rfl ⟨rfl, rfl, rfl, rfl, rfl⟩ rfl rfl rfl rfl rfl k1 Tryz.func7 k2 k3 k4
    (fun os started H enc _ F => lifted os started H enc F)

/-- No parameter wants a stand-in; the program's own looks are off. -/
theorem plain (f : FuncId) (fn : Func) (hf : Tryz.pinned.checked.prog.funcNamed "lexicon/lexiconlaw11.DatumSame" = some f) (hfn : Tryz.pinned.checked.prog.funcs[f]? = some fn) :
    true = Tryz.pinned.checked.prog.looks [] ∧ ∀ (j : Nat) t, fn.params[j]? = some t → Tryz.pinned.checked.prog.wantsStandIn t = false := by
  obtain rfl : f = 7 := Option.some.inj ((show Tryz.prog.funcNamed "lexicon/lexiconlaw11.DatumSame" = some 7 by kernel_rfl).symm.trans hf) |>.symm
  obtain rfl : fn = Tryz.f7 := (Option.some.inj (Tryz.func7.symm.trans hfn)).symm
  refine ⟨by kernel_rfl, fun j t ht => ?_⟩
  rw [Tryz.params7] at ht
  have hm : t ∈ [37, 37] := by simpa using Array.mem_of_getElem? ht
  have hall : ([37, 37].all fun u => !Tryz.prog.wantsStandIn u) = true := by kernel_rfl
  rw [List.all_eq_true] at hall
  have hw : Tryz.prog.wantsStandIn t = false := by simpa using hall t hm
  exact hw

theorem card : Rows.DatumSameUptoCardSaid :=
  Claim7.holds_tied_plain_at .later [] _ _ _ _ holds (fun _ h => by cases h) (by kernel_rfl) (fun _ h => by cases h) datumSameUpto_row_tie rfl ⟨rfl, rfl⟩ (by kernel_rfl) rfl plain (by kernel_rfl)
end Go.Proofs.YtdjbnaleoohafaaGreatDoor.Same
#print axioms Go.Proofs.YtdjbnaleoohafaaGreatDoor.Same.card
