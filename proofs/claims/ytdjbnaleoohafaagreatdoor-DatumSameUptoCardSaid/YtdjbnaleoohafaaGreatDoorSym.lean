/-
  THE WALKS OF DatumSame: both sides say of any two values whether they are the same, part by part.
-/
import Derived.Test.YtdjbnaleoohafaaGreatDoorAbs31
import Derived.Test.YtdjbnaleoohafaaGreatDoorProg
import Derived.KernelRfl
namespace Go.Proofs.YtdjbnaleoohafaaGreatDoor.Same
open Go Go.Abs
set_option maxRecDepth 100000
noncomputable def CC : Ctx := ⟨Go.Proofs.Tryz.prog, fun _ => none⟩
theorem fol : CC.P.follows .mixedOrders = true := by kernel_rfl
theorem allok : allOK CC.P = true := by kernel_rfl
theorem pg : PlainG CC := fun g cs h => by cases h
theorem f44_get : CC.P.funcs[44]? = some Go.Proofs.Tryz.f44 := by kernel_rfl
theorem f45_get : CC.P.funcs[45]? = some Go.Proofs.Tryz.f45 := by kernel_rfl
theorem f46_get : CC.P.funcs[46]? = some Go.Proofs.Tryz.f46 := by kernel_rfl
theorem f29_get : CC.P.funcs[29]? = some Go.Proofs.Tryz.f29 := by kernel_rfl
theorem f15_get : CC.P.funcs[15]? = some Go.Proofs.Tryz.f15 := by kernel_rfl
theorem f35_get : CC.P.funcs[35]? = some Go.Proofs.Tryz.f35 := by kernel_rfl
theorem f18_get : CC.P.funcs[18]? = some Go.Proofs.Tryz.f18 := by kernel_rfl
theorem f7_get : CC.P.funcs[7]? = some Go.Proofs.Tryz.f7 := by kernel_rfl
theorem u22 : CC.P.underlying 22 = some (.slice 5) := by kernel_rfl
theorem u5 : CC.P.underlying 5 = some (.int .u8) := by kernel_rfl
theorem u9 : CC.P.underlying 9 = some .string := by kernel_rfl
theorem u34 : CC.P.underlying 34 = some (.slice 9) := by kernel_rfl
theorem u35 : CC.P.underlying 35 = some (.slice 37) := by kernel_rfl
theorem c9 : CC.P.cellsOf 9 = 1 := by kernel_rfl
theorem c37 : CC.P.cellsOf 37 = 7 := by kernel_rfl

/-- bytes.Equal. -/
theorem bytesEqual (s s' : List UInt8) (sp sp' : List AV) : PureOK CC 44 [.imm (byteAVs s) sp false, .imm (byteAVs s') sp' false] (.bool (s == s')) := by
  refine pure_runFS CC fol allok f44_get (Nat.le_of_ble_eq_true rfl) rfl [.op 6 (.str s), .op 8 (.str s'), .b (s == s')] ?_
  conv => whnf
  exact ⟨rfl, rfl, rfl, opA_bytes rfl rfl u22 u5 u9, opA_bytes rfl rfl u22 u5 u9, trivial⟩

/-- The body of a function's code, and the loops in it. -/
def loopsOf : Code → List Code
  | .seq a b => loopsOf a ++ loopsOf b
  | .cond _ a b => loopsOf a ++ loopsOf b
  | .block _ b => loopsOf b
  | .loop b => [b]
  | _ => []
def loopN (fn : Func) (n : Nat) : Code := match fn.body with
  | some c => (loopsOf c).getD n .skip
  | none => .skip

/-- slices.Equal of texts: the head of its loop. -/
abbrev l45 (ts ts' : List (List UInt8)) (tp tp' : List AV) (i : Nat) : List (Nat × AV) :=
  [(0, .imm (ts.map .str) tp false), (1, .imm (ts'.map .str) tp' false), (12, .int .i64 ts.length), (13, .int .i64 i)]
theorem loop45 (ts ts' : List (List UInt8)) (tp tp' : List AV) (hl : ts.length = ts'.length) (hb : ts.length ≤ 2 ^ 48) : ∀ (m i : Nat), i + m = ts.length →
    (ts.drop i = ts'.drop i → ExecL CC 0 (loopN Go.Proofs.Tryz.f45 0) (hdT 5 (l45 ts ts' tp tp' i)).get [] (.exit 0) (hdT 5 []).get []) ∧
    (ts.drop i ≠ ts'.drop i → ExecL CC 0 (loopN Go.Proofs.Tryz.f45 0) (hdT 5 (l45 ts ts' tp tp' i)).get [] .ret (hdT 5 [(4, .bool false)]).get [])
  | 0, i, h => by
    have e : ts.drop i = ts'.drop i := by rw [List.drop_eq_nil_of_le (by omega), List.drop_eq_nil_of_le (by omega)]
    refine ⟨fun _ => loop_out CC [.b false] (by simp) ?_, fun hn => absurd e hn⟩
    conv => whnf
    refine ⟨⟨rfl, rfl, rfl, trivial⟩, ?_, trivial⟩
    simp; omega
  | m + 1, i, h => by
    have hi : i < ts.length := by omega
    have hi' : i < ts'.length := by omega
    have e1 : ts.drop i = ts[i] :: ts.drop (i + 1) := List.drop_eq_getElem_cons hi
    have e2 : ts'.drop i = ts'[i] :: ts'.drop (i + 1) := List.drop_eq_getElem_cons hi'
    have x1 : (ts.map AV.str)[((i : Nat) : Int).toNat]? = some (.str ts[i]) := by simp [hi]
    have x2 : (ts'.map AV.str)[((i : Nat) : Int).toNat]? = some (.str ts'[i]) := by simp [hi']
    by_cases hq : ts[i] = ts'[i]
    · obtain ⟨ih1, ih2⟩ := loop45 ts ts' tp tp' hl hb m (i + 1) (by omega)
      have step : ∀ {ex : AExit} {env : Env}, ExecL CC 0 (loopN Go.Proofs.Tryz.f45 0) (hdT 5 (l45 ts ts' tp tp' (i + 1))).get [] ex env [] → ExecL CC 0 (loopN Go.Proofs.Tryz.f45 0) (hdT 5 (l45 ts ts' tp tp' i)).get [] ex env [] := fun k => by
        refine loop_on CC [.b true, .op 18 (.pimm [.str ts[i]]), .op 22 (.pimm [.str ts'[i]]), .b false] (n := 5) (l := l45 ts ts' tp tp' (i + 1)) (σ' := []) ?_ k
        conv => whnf
        refine ⟨⟨rfl, rfl, rfl, rfl, rfl, rfl, ?_, trivial⟩, by kernel_rfl, .inl (by kernel_rfl), ?_, opA_index rfl rfl rfl u34 (by omega) x2 c9 Nat.one_pos, opA_index rfl rfl rfl u34 (by omega) x1 c9 Nat.one_pos, ?_, trivial⟩
        · exact congrArg (AV.int .i64) (wrap_succ (by omega))
        · simp [hq]
        · simp; omega
      refine ⟨fun he => step (ih1 ?_), fun hn => step (ih2 ?_)⟩
      · rw [e1, e2] at he; exact (List.cons.inj he).2
      · intro h'; apply hn; rw [e1, e2, hq, h']
    · refine ⟨fun he => absurd ?_ hq, fun _ => ?_⟩
      · rw [e1, e2] at he; exact (List.cons.inj he).1
      · refine loop_out CC [.b true, .op 18 (.pimm [.str ts[i]]), .op 22 (.pimm [.str ts'[i]]), .b true] (by simp) ?_
        conv => whnf
        refine ⟨⟨rfl, rfl, rfl, rfl, trivial⟩, by kernel_rfl, .inl (by kernel_rfl), ?_, opA_index rfl rfl rfl u34 (by omega) x2 c9 Nat.one_pos, opA_index rfl rfl rfl u34 (by omega) x1 c9 Nat.one_pos, ?_, trivial⟩
        · simp [hq]
        · simp; omega

theorem lenI {α : Type} (f : α → AV) (l : List α) : AV.int .i64 ((l.map f).length : Int) = AV.int .i64 (l.length : Int) := by rw [List.length_map]
/-- slices.Equal of texts. -/
theorem textsEqual (ts ts' : List (List UInt8)) (tp tp' : List AV) (hb : ts.length ≤ 2 ^ 48) : PureOK CC 45 [.imm (ts.map .str) tp false, .imm (ts'.map .str) tp' false] (.bool (ts == ts')) := by
  by_cases hl : ts.length = ts'.length
  · obtain ⟨l1, l2⟩ := loop45 ts ts' tp tp' hl hb ts.length 0 (by omega)
    by_cases he : ts = ts'
    · rw [show (ts == ts') = true by simpa using he]
      refine pure_runFS CC fol allok f45_get (Nat.le_of_ble_eq_true rfl) rfl [.b false, .loop 5 (l45 ts ts' tp tp' 0) (.exit 0) (hdT 5 []) []] ?_
      conv => whnf
      refine ⟨rfl, rfl, ⟨rfl, rfl, rfl, lenI AV.str ts, rfl, trivial⟩, l1 (by simp [he]), ?_, trivial⟩
      simp [hl]
    · rw [show (ts == ts') = false by simpa using he]
      refine pure_runFS CC fol allok f45_get (Nat.le_of_ble_eq_true rfl) rfl [.b false, .loop 5 (l45 ts ts' tp tp' 0) .ret (hdT 5 [(4, .bool false)]) []] ?_
      conv => whnf
      refine ⟨rfl, rfl, ⟨rfl, rfl, rfl, lenI AV.str ts, rfl, trivial⟩, l2 (by simpa using he), ?_, trivial⟩
      simp [hl]
  · rw [show (ts == ts') = false by simp; intro h; exact hl (by rw [h])]
    refine pure_runFS CC fol allok f45_get (Nat.le_of_ble_eq_true rfl) rfl [.b true] ?_
    conv => whnf
    refine ⟨rfl, rfl, ?_, trivial⟩
    simp; omega
end Go.Proofs.YtdjbnaleoohafaaGreatDoor.Same
