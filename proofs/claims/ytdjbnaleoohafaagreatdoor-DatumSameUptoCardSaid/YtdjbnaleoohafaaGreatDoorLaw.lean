/-
  THE LAW, given both sides and the example: true, whatever the two data.
-/
import Derived.Test.YtdjbnaleoohafaaGreatDoorSize
import Derived.Test.YtdjbnaleoohafaaGreatDoorRun
namespace Go.Proofs.YtdjbnaleoohafaaGreatDoor.Same
open Go Go.Abs
set_option maxRecDepth 100000
theorem good10 : goodFn CC.P 10 = true := by kernel_rfl
theorem law7 : ∀ (x y : Dat), x.ok → y.ok → PureOK CC 7 [x.av, y.av] (.bool true)
  | .mk k b i u s sp ts tp ls lp, .mk k' b' i' u' s' sp' ts' tp' ls' lp', hx, hy => by
    have c10 := fun σ => call_of_pure pg (by rfl) good10 works_ok 0 σ
    obtain ⟨c, hs⟩ := small18 _ _ hx hy
    have c18 := fun σ => call_of_pure pg (by simp [refsBL, AV.refsB, refsB_dat _ hx, refsB_dat _ hy]) good18 hs 0 σ
    have a1 := fun σ => call_of_pure pg (by simp [refsBL, refsB_dat _ hx, refsB_dat _ hy]) good29 (same29 _ _ hx hy) 0 σ
    have a2 := fun σ => call_of_pure pg (by simp [refsBL, refsB_dat _ hx, refsB_dat _ hy]) good15 (same15 _ _ hx hy) 0 σ
    have a3 := fun σ => call_of_pure pg (by simp [refsBL, refsB_dat _ hx, refsB_dat _ hy]) good29 (same29 _ _ hy hx) 0 σ
    have a4 := fun σ => call_of_pure pg (by simp [refsBL, refsB_dat _ hx]) good29 (same29 _ _ hx hx) 0 σ
    rw [same_comm (.mk k' b' i' u' s' sp' ts' tp' ls' lp')] at a3
    rw [same_self] at a4
    clear hs hx hy
    generalize same (.mk k b i u s sp ts tp ls lp) (.mk k' b' i' u' s' sp' ts' tp' ls' lp') = q at a1 a2 a3
    unfold Dat.av at *
    cases c with
    | false =>
      refine pure_runFS CC fol allok f7_get (Nat.le_of_ble_eq_true rfl) rfl [.pure (.bool false), .pure (.bool true)] ?_
      conv => whnf
      exact ⟨rfl, rfl, c10 _, c18 _, trivial⟩
    | true =>
      refine pure_runFS CC fol allok f7_get (Nat.le_of_ble_eq_true rfl) rfl [.pure (.bool true), .pure (.bool q), .pure (.bool q), .b true, .pure (.bool q), .pure (.bool q), .b true, .pure (.bool true), .pure (.bool true)] ?_
      conv => whnf
      refine ⟨rfl, rfl, by kernel_rfl, .inr (.inl ?_), c10 _, a4 _, ?_, a2 _, a3 _, ?_, a2 _, a1 _, c18 _, trivial⟩
      · conv => whnf
        exact ⟨rfl, rfl, rfl, rfl, rfl, rfl, rfl, rfl, rfl, rfl, rfl, rfl, rfl, rfl, rfl, rfl, rfl, rfl, rfl, rfl, rfl, rfl, rfl, rfl, rfl, trivial⟩
      · simp
      · simp
end Go.Proofs.YtdjbnaleoohafaaGreatDoor.Same
