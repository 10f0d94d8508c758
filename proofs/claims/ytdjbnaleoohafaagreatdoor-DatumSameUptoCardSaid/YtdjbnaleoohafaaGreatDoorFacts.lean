/-
  THE ROW's CLOSED FACTS, one by one.
-/
import Derived.Test.YtdjbnaleoohafaaGreatDoorCards
import Derived.Test.YtdjbnaleoohafaaGreatDoorTie
import Derived.WalkKit
import Derived.ProofKit
import Derived.JoinedCond
import Derived.Stop.Joined
namespace Go.Proofs.YtdjbnaleoohafaaGreatDoor.Same
open Go
theorem j1 : (Rows.datumSameUptoRow.wf (OpenSpec.ofChange (Rows.OpenSpec.upto Rows.datumSameSpec).bare)) = true := by kernel_rfl
theorem j2 : (laidOutB Tryz.pinned.checked.prog) = true := by kernel_rfl
theorem j3 : (mapsRowed Tryz.pinned.checked.prog) = true := by kernel_rfl
theorem j4 : (Tryz.f7.params.all (Tryz.pinned.checked.prog.readableRec ·)) = true := by kernel_rfl
theorem j5 : (namedTie Tryz.pinned.checked.prog Rows.datumSameUptoRow.named (Rows.OpenSpec.upto Rows.datumSameSpec).bare.vars) = true := by kernel_rfl
theorem j6 : ((Rows.datumSameUptoRow.stops == [])) = true := by kernel_rfl
theorem j7 : ((Tryz.pinned.checked.prog.stops == [])) = true := by kernel_rfl
theorem j8 : ((Rows.datumSameUptoRow.knobs == [])) = true := by kernel_rfl
theorem j9 : ((Tryz.pinned.checked.prog.stopKnobs == [])) = true := by kernel_rfl
theorem j10 : ((Rows.datumSameUptoRow.inPlace == Tryz.pinned.checked.prog.inPlace 7)) = true := by kernel_rfl
theorem j11 : ((Rows.datumSameUptoRow.unfollowed == Tryz.pinned.checked.prog.unfollowed 7)) = true := by kernel_rfl
theorem j12 : ((Rows.datumSameUptoRow.recurses == Tryz.pinned.checked.prog.recurses 7)) = true := by kernel_rfl
theorem j13 : ((Rows.datumSameUptoRow.named == Tryz.pinned.checked.prog.varsNamed 7)) = true := by kernel_rfl
theorem j14 : ((Rows.datumSameUptoRow.maps == (Tryz.f7.params.toList ++ (Rows.OpenSpec.upto Rows.datumSameSpec).bare.plain.varTypes Tryz.pinned.checked.prog).any (Tryz.pinned.checked.prog.mapsRec ·))) = true := by kernel_rfl
theorem j15 : ((Rows.datumSameUptoRow.ifaces == (Tryz.f7.params.toList ++ (Rows.OpenSpec.upto Rows.datumSameSpec).bare.plain.varTypes Tryz.pinned.checked.prog).any (Tryz.pinned.checked.prog.ifacesRec ·))) = true := by kernel_rfl
theorem j16 : ((Rows.datumSameUptoRow.mapsOut == Tryz.pinned.checked.prog.mapsAmong Tryz.f7.resultTypes.toList)) = true := by kernel_rfl
theorem j17 : ((Rows.datumSameUptoRow.loops == (Tryz.f7.params.toList ++ (Rows.OpenSpec.upto Rows.datumSameSpec).bare.plain.varTypes Tryz.pinned.checked.prog).any (Tryz.pinned.checked.prog.loopsFrom ·))) = true := by kernel_rfl
theorem j18 : ((Rows.datumSameUptoRow.wideKeys == (Tryz.f7.params.toList ++ (Rows.OpenSpec.upto Rows.datumSameSpec).bare.plain.varTypes Tryz.pinned.checked.prog ++ Tryz.f7.resultTypes.toList).any (Tryz.pinned.checked.prog.wideKeysFrom ·))) = true := by kernel_rfl
theorem j19 : ((Rows.OpenSpec.upto Rows.datumSameSpec).bare.vars.all (Tryz.pinned.checked.prog.varReadable ·)) = true := by kernel_rfl
theorem j20 : (Tryz.f7.resultTypes.all (fun t => Tryz.pinned.checked.prog.readableRec t && decide (t < Tryz.pinned.checked.prog.types.size))) = true := by kernel_rfl
theorem j21 : ((Rows.datumSameUptoRow.ifacesOut == Tryz.f7.resultTypes.toList.any (Tryz.pinned.checked.prog.ifacesRec ·))) = true := by kernel_rfl
theorem j22 : ((Rows.datumSameUptoRow.loopsOut == Tryz.f7.resultTypes.toList.any (Tryz.pinned.checked.prog.loopsFrom ·))) = true := by kernel_rfl
theorem j23 : ((Rows.datumSameUptoRow.plainKeys == Tryz.pinned.checked.prog.plainKeys)) = true := by kernel_rfl
theorem j24 : (Rows.datumSameUptoRow.shortTexts.isNone) = true := by kernel_rfl
theorem j25 : (Tryz.pinned.checked.prog.stopsHeard) = true := by kernel_rfl
theorem j26 : (Tryz.pinned.checked.prog.mayEnter) = true := by kernel_rfl
theorem j27 : ((Rows.datumSameUptoRow.lifted == Tryz.pinned.checked.prog.liftsFinal)) = true := by kernel_rfl
theorem j28 : ((Tryz.pinned.checked.prog.make == some Rows.datumSameUptoRow.make)) = true := by kernel_rfl
theorem j29 : ((Rows.datumSameUptoRow.kinds == (if Rows.datumSameUptoRow.domain.isEmpty then [] else Tryz.f7.params.toList.map fun t => match Tryz.pinned.checked.prog.underlying t with | some (.int k) => some k | _ => none))) = true := by kernel_rfl
theorem j30 : ((Rows.datumSameUptoRow.pinned == Rows.datumSameUptoRow.pinnedBy)) = true := by kernel_rfl
theorem j31 : ((Rows.datumSameUptoRow.veiled == (Tryz.f7.params.toList ++ (Rows.OpenSpec.upto Rows.datumSameSpec).bare.plain.varTypes Tryz.pinned.checked.prog ++ Tryz.f7.resultTypes.toList).any (Tryz.pinned.checked.prog.veiledRec ·))) = true := by kernel_rfl
theorem j32 : (Rows.datumSameUptoRow.veiledFits Tryz.pinned.checked.prog Tryz.f7.params.toList (Tryz.f7.params.toList ++ (Rows.OpenSpec.upto Rows.datumSameSpec).bare.plain.varTypes Tryz.pinned.checked.prog ++ Tryz.f7.resultTypes.toList)) = true := by kernel_rfl
theorem k1 : Tryz.pinned.checked.prog.funcNamed Rows.datumSameUptoRow.func = some 7 := by kernel_rfl
theorem k3 : Tryz.f7.isInstance Tryz.pinned.checked.prog Rows.datumSameUptoRow.origin Rows.datumSameUptoRow.targs := of_decide_eq_true (by kernel_rfl)
theorem k4 : Tryz.f7.isWrapper Tryz.pinned.checked.prog Rows.datumSameUptoRow.wrapper Rows.datumSameUptoRow.mainSum := by unfold Func.isWrapper; first | (rw [if_pos (by decide +kernel)]; kernel_rfl) | (rw [if_neg (by decide +kernel)]; exact ⟨rfl, rfl⟩)
end Go.Proofs.YtdjbnaleoohafaaGreatDoor.Same
