/-
  THE MEASURE of a datum: some number.
-/
import Derived.Test.YtdjbnaleoohafaaGreatDoorRef
namespace Go.Proofs.YtdjbnaleoohafaaGreatDoor.Same
open Go Go.Abs
set_option maxRecDepth 100000
theorem good35 : goodFn CC.P 35 = true := by kernel_rfl
theorem good18 : goodFn CC.P 18 = true := by kernel_rfl
abbrev l35 (sl : Nat) (lim a : Int) (i : Nat) : List (Nat × AV) := [(1, .int .i64 lim), (2, .ptr 0 0), (5, .int .i64 a), (sl, .int .i64 i)]
abbrev e35 (lim a : Int) : List (Nat × AV) := [(1, .int .i64 lim), (2, .ptr 0 0), (5, .int .i64 a)]
theorem loop35t (x1 x2 x3 x4 x5 x7 : AV) (ts : List (List UInt8)) (tp : List AV) (lim : Int) (hb : ts.length ≤ 2 ^ 48) : ∀ (m i : Nat) (a : Int), i + m = ts.length →
    ∃ a', ExecL CC 0 (loopN Go.Proofs.Tryz.f35 0) (hdT 6 (l35 6 lim a i)).get [.box [x1, x2, x3, x4, x5, .imm (ts.map .str) tp false, x7]] (.exit 0) (hdT 6 (e35 lim a')).get [.box [x1, x2, x3, x4, x5, .imm (ts.map .str) tp false, x7]]
  | 0, i, a, h => by
    refine ⟨a, loop_out CC [.b false] (by simp) ?_⟩
    conv => whnf
    refine ⟨⟨rfl, rfl, rfl, rfl, rfl, rfl, trivial⟩, ?_, trivial⟩
    simp; omega
  | m + 1, i, a, h => by
    have hi : i < ts.length := by omega
    have g1 : (ts.map AV.str)[((i : Nat) : Int).toNat]? = some (.str ts[i]) := by simp [hi]
    obtain ⟨a', ih⟩ := loop35t x1 x2 x3 x4 x5 x7 ts tp lim hb m (i + 1) (IntKind.i64.wrap (IntKind.i64.wrap (a + 1) + (ts[i].length : Int))) (by omega)
    refine ⟨a', loop_on CC [.b true, .op 24 (.pimm [.str ts[i]])] ?_ ih⟩
    conv => whnf
    refine ⟨⟨rfl, rfl, rfl, rfl, rfl, rfl, ?_, trivial⟩, opA_index rfl rfl rfl u34 (by omega) g1 c9 Nat.one_pos, ?_, trivial⟩
    · exact congrArg (AV.int .i64) (wrap_succ (by omega))
    · simp; omega

theorem loop35l (z1 z2 z3 z4 z5 z6 : AV) (ls : List Dat) (lp : List AV) (lim : Int) (ho : oks ls) (hb : ls.length ≤ 2 ^ 48)
    (H : ∀ x ∈ ls, ∀ l : Int, ∃ r : Int, PureOK CC 35 [x.av, .int .i64 l] (.int .i64 r)) : ∀ (m i : Nat) (a : Int), i + m = ls.length →
    ∃ a', ExecL CC 0 (loopN Go.Proofs.Tryz.f35 1) (hdT 6 (l35 7 lim a i)).get [.box [z1, z2, z3, z4, z5, z6, .imm (avs ls) lp false]] (.exit 2) (hdT 6 (e35 lim a')).get [.box [z1, z2, z3, z4, z5, z6, .imm (avs ls) lp false]]
  | 0, i, a, h => by
    refine ⟨a, loop_out CC [.b false] (by simp) ?_⟩
    conv => whnf
    refine ⟨⟨rfl, rfl, rfl, rfl, rfl, rfl, trivial⟩, ?_, trivial⟩
    simp [avs_len]; omega
  | m + 1, i, a, h => by
    have hi : i < ls.length := by omega
    by_cases hlim : a ≤ lim
    · have x1 : (avs ls)[((i : Nat) : Int).toNat]? = some ls[i].av := by simp [avs_get ls i hi]
      have o1 := oks_mem ho ls[i] (List.getElem_mem hi)
      obtain ⟨r, hr⟩ := H ls[i] (List.getElem_mem hi) (IntKind.i64.wrap (lim - a))
      have hc := fun σ => call_of_pure pg (by simp [refsBL, AV.refsB, refsB_dat _ o1]) good35 hr 0 σ
      have n1 := dat_cl ls[i]
      obtain ⟨a', ih⟩ := loop35l z1 z2 z3 z4 z5 z6 ls lp lim ho hb H m (i + 1) (IntKind.i64.wrap (a + r)) (by omega)
      clear hr
      generalize hxx : ls[i] = x at *
      cases x with
      | mk k b i1 u s sp ts tp lq lr =>
      unfold Dat.av at x1 hc n1
      refine ⟨a', loop_on CC [.b true, .b true, .op 44 (.pimm [.int .i64 k, .bool b, .int .i64 i1, .int .u64 u, .imm (byteAVs s) sp false, .imm (ts.map .str) tp false, .imm (avs lq) lr false]), .pure (.int .i64 r)] ?_ ih⟩
      conv => whnf
      refine ⟨⟨rfl, rfl, rfl, rfl, rfl, rfl, ?_, trivial⟩, hc _, opA_index rfl rfl rfl u35 (by omega) x1 (by rw [n1]; exact c37) (by rw [n1]; decide), ?_, ?_, trivial⟩
      · exact congrArg (AV.int .i64) (wrap_succ (by omega))
      · simp [hlim]
      · simp [avs_len]; omega
    · refine ⟨a, loop_out CC [.b true, .b false] (by simp) ?_⟩
      conv => whnf
      refine ⟨⟨rfl, rfl, rfl, rfl, rfl, rfl, trivial⟩, ?_, ?_, trivial⟩
      · simp; omega
      · simp [avs_len]; omega

/-- size. -/
theorem size35n : ∀ (n : Nat) (x : Dat), SizeOf.sizeOf x < n → x.ok → ∀ lim : Int, ∃ r : Int, PureOK CC 35 [x.av, .int .i64 lim] (.int .i64 r)
  | 0, _, h, _ => absurd h (by omega)
  | n + 1, .mk k b i u s sp ts tp ls lp, hn, hx => by
    intro lim
    have H : ∀ x ∈ ls, ∀ l : Int, ∃ r : Int, PureOK CC 35 [x.av, .int .i64 l] (.int .i64 r) := fun x hm => size35n n x (by have := List.sizeOf_lt_of_mem hm; simp at hn; omega) (by unfold Dat.ok at hx; exact oks_mem hx.2.2.2.2.2 x hm)
    unfold Dat.ok at hx
    obtain ⟨x1, x2, x3, x4, x5, x6⟩ := hx
    unfold Dat.av
    obtain ⟨a1, t1⟩ := loop35t (.int .i64 k) (.bool b) (.int .i64 i) (.int .u64 u) (.imm (byteAVs s) sp false) (.imm (avs ls) lp false) ts tp lim x1 ts.length 0 (IntKind.i64.wrap (1 + ((byteAVs s).length : Int))) (by omega)
    obtain ⟨a2, t2⟩ := loop35l (.int .i64 k) (.bool b) (.int .i64 i) (.int .u64 u) (.imm (byteAVs s) sp false) (.imm (ts.map .str) tp false) ls lp lim x6 x2 H ls.length 0 a1 (by omega)
    refine ⟨a2, ?_⟩
    refine pure_runFS CC fol allok f35_get (Nat.le_of_ble_eq_true rfl) rfl [.loop 6 (l35 6 lim (IntKind.i64.wrap (1 + ((byteAVs s).length : Int))) 0) (.exit 0) (hdT 6 (e35 lim a1)) [.box [.int .i64 k, .bool b, .int .i64 i, .int .u64 u, .imm (byteAVs s) sp false, .imm (ts.map .str) tp false, .imm (avs ls) lp false]],
      .loop 6 (l35 7 lim a1 0) (.exit 2) (hdT 6 (e35 lim a2)) [.box [.int .i64 k, .bool b, .int .i64 i, .int .u64 u, .imm (byteAVs s) sp false, .imm (ts.map .str) tp false, .imm (avs ls) lp false]]] ?_
    conv => whnf
    exact ⟨rfl, rfl, ⟨rfl, rfl, rfl, rfl, rfl, trivial⟩, t2, ⟨rfl, rfl, rfl, rfl, rfl, trivial⟩, t1, trivial⟩
theorem size35 (x : Dat) (hx : x.ok) (lim : Int) : ∃ r : Int, PureOK CC 35 [x.av, .int .i64 lim] (.int .i64 r) := size35n (SizeOf.sizeOf x + 1) x (by omega) hx lim


/-- small. -/
theorem small18 : ∀ (x y : Dat), x.ok → y.ok → ∃ c, PureOK CC 18 [.imm [x.av, y.av] [] true] (.bool c)
  | .mk k b i u s sp ts tp ls lp, .mk k' b' i' u' s' sp' ts' tp' ls' lp', hx, hy => by
    obtain ⟨r, hr⟩ := size35 _ hx 20000
    obtain ⟨r', hr'⟩ := size35 _ hy 20000
    have hc := fun σ => call_of_pure pg (by simp [refsBL, AV.refsB, refsB_dat _ hx]) good35 hr 0 σ
    have hc' := fun σ => call_of_pure pg (by simp [refsBL, AV.refsB, refsB_dat _ hy]) good35 hr' 0 σ
    clear hr hr' hx hy
    unfold Dat.av at hc hc' ⊢
    by_cases h1 : r > 20000
    · have L : ExecL CC 0 (loopN Go.Proofs.Tryz.f18 0) (hdT 5 [(0, .imm [.agg [.int .i64 k, .bool b, .int .i64 i, .int .u64 u, .imm (byteAVs s) sp false, .imm (ts.map .str) tp false, .imm (avs ls) lp false], .agg [.int .i64 k', .bool b', .int .i64 i', .int .u64 u', .imm (byteAVs s') sp' false, .imm (ts'.map .str) tp' false, .imm (avs ls') lp' false]] [] true), (3, .int .i64 0)]).get [] .ret (hdT 5 [(2, .bool false)]).get [] := by
        refine loop_out CC [.b true, .pure (.int .i64 r), .b true] (by simp) ?_
        conv => whnf
        refine ⟨⟨rfl, rfl, rfl, rfl, trivial⟩, ?_, hc _, rfl, trivial⟩
        simpa using h1
      refine ⟨false, pure_runFS CC fol allok f18_get (Nat.le_of_ble_eq_true rfl) rfl [.loop 5 [(0, .imm [.agg [.int .i64 k, .bool b, .int .i64 i, .int .u64 u, .imm (byteAVs s) sp false, .imm (ts.map .str) tp false, .imm (avs ls) lp false], .agg [.int .i64 k', .bool b', .int .i64 i', .int .u64 u', .imm (byteAVs s') sp' false, .imm (ts'.map .str) tp' false, .imm (avs ls') lp' false]] [] true), (3, .int .i64 0)] .ret (hdT 5 [(2, .bool false)]) []] ?_⟩
      conv => whnf
      exact ⟨rfl, rfl, ⟨rfl, rfl, rfl, trivial⟩, L, trivial⟩
    have S : ∀ {ex : AExit} {env : Env} {σ : Heap}, ExecL CC 0 (loopN Go.Proofs.Tryz.f18 0) (hdT 5 [(0, .imm [.agg [.int .i64 k, .bool b, .int .i64 i, .int .u64 u, .imm (byteAVs s) sp false, .imm (ts.map .str) tp false, .imm (avs ls) lp false], .agg [.int .i64 k', .bool b', .int .i64 i', .int .u64 u', .imm (byteAVs s') sp' false, .imm (ts'.map .str) tp' false, .imm (avs ls') lp' false]] [] true), (3, .int .i64 1)]).get [] ex env σ → ExecL CC 0 (loopN Go.Proofs.Tryz.f18 0) (hdT 5 [(0, .imm [.agg [.int .i64 k, .bool b, .int .i64 i, .int .u64 u, .imm (byteAVs s) sp false, .imm (ts.map .str) tp false, .imm (avs ls) lp false], .agg [.int .i64 k', .bool b', .int .i64 i', .int .u64 u', .imm (byteAVs s') sp' false, .imm (ts'.map .str) tp' false, .imm (avs ls') lp' false]] [] true), (3, .int .i64 0)]).get [] ex env σ := fun kk => by
      refine loop_on CC [.b true, .pure (.int .i64 r), .b false] (σ' := []) ?_ kk
      conv => whnf
      refine ⟨⟨rfl, rfl, rfl, rfl, rfl, trivial⟩, ?_, hc _, rfl, trivial⟩
      simpa using h1
    by_cases h2 : r' > 20000
    · have L : ExecL CC 0 (loopN Go.Proofs.Tryz.f18 0) (hdT 5 [(0, .imm [.agg [.int .i64 k, .bool b, .int .i64 i, .int .u64 u, .imm (byteAVs s) sp false, .imm (ts.map .str) tp false, .imm (avs ls) lp false], .agg [.int .i64 k', .bool b', .int .i64 i', .int .u64 u', .imm (byteAVs s') sp' false, .imm (ts'.map .str) tp' false, .imm (avs ls') lp' false]] [] true), (3, .int .i64 1)]).get [] .ret (hdT 5 [(2, .bool false)]).get [] := by
        refine loop_out CC [.b true, .pure (.int .i64 r'), .b true] (by simp) ?_
        conv => whnf
        refine ⟨⟨rfl, rfl, rfl, rfl, trivial⟩, ?_, hc' _, rfl, trivial⟩
        simpa using h2
      refine ⟨false, pure_runFS CC fol allok f18_get (Nat.le_of_ble_eq_true rfl) rfl [.loop 5 [(0, .imm [.agg [.int .i64 k, .bool b, .int .i64 i, .int .u64 u, .imm (byteAVs s) sp false, .imm (ts.map .str) tp false, .imm (avs ls) lp false], .agg [.int .i64 k', .bool b', .int .i64 i', .int .u64 u', .imm (byteAVs s') sp' false, .imm (ts'.map .str) tp' false, .imm (avs ls') lp' false]] [] true), (3, .int .i64 0)] .ret (hdT 5 [(2, .bool false)]) []] ?_⟩
      conv => whnf
      exact ⟨rfl, rfl, ⟨rfl, rfl, rfl, trivial⟩, S L, trivial⟩
    have S' : ∀ {ex : AExit} {env : Env} {σ : Heap}, ExecL CC 0 (loopN Go.Proofs.Tryz.f18 0) (hdT 5 [(0, .imm [.agg [.int .i64 k, .bool b, .int .i64 i, .int .u64 u, .imm (byteAVs s) sp false, .imm (ts.map .str) tp false, .imm (avs ls) lp false], .agg [.int .i64 k', .bool b', .int .i64 i', .int .u64 u', .imm (byteAVs s') sp' false, .imm (ts'.map .str) tp' false, .imm (avs ls') lp' false]] [] true), (3, .int .i64 2)]).get [] ex env σ → ExecL CC 0 (loopN Go.Proofs.Tryz.f18 0) (hdT 5 [(0, .imm [.agg [.int .i64 k, .bool b, .int .i64 i, .int .u64 u, .imm (byteAVs s) sp false, .imm (ts.map .str) tp false, .imm (avs ls) lp false], .agg [.int .i64 k', .bool b', .int .i64 i', .int .u64 u', .imm (byteAVs s') sp' false, .imm (ts'.map .str) tp' false, .imm (avs ls') lp' false]] [] true), (3, .int .i64 1)]).get [] ex env σ := fun kk => by
      refine loop_on CC [.b true, .pure (.int .i64 r'), .b false] (σ' := []) ?_ kk
      conv => whnf
      refine ⟨⟨rfl, rfl, rfl, rfl, rfl, trivial⟩, ?_, hc' _, rfl, trivial⟩
      simpa using h2
    have L : ExecL CC 0 (loopN Go.Proofs.Tryz.f18 0) (hdT 5 [(0, .imm [.agg [.int .i64 k, .bool b, .int .i64 i, .int .u64 u, .imm (byteAVs s) sp false, .imm (ts.map .str) tp false, .imm (avs ls) lp false], .agg [.int .i64 k', .bool b', .int .i64 i', .int .u64 u', .imm (byteAVs s') sp' false, .imm (ts'.map .str) tp' false, .imm (avs ls') lp' false]] [] true), (3, .int .i64 2)]).get [] (.exit 0) (hdT 5 []).get [] := by
      refine loop_out CC [.b false] (by simp) ?_
      conv => whnf
      exact ⟨⟨rfl, rfl, rfl, trivial⟩, rfl, trivial⟩
    refine ⟨true, pure_runFS CC fol allok f18_get (Nat.le_of_ble_eq_true rfl) rfl [.loop 5 [(0, .imm [.agg [.int .i64 k, .bool b, .int .i64 i, .int .u64 u, .imm (byteAVs s) sp false, .imm (ts.map .str) tp false, .imm (avs ls) lp false], .agg [.int .i64 k', .bool b', .int .i64 i', .int .u64 u', .imm (byteAVs s') sp' false, .imm (ts'.map .str) tp' false, .imm (avs ls') lp' false]] [] true), (3, .int .i64 0)] (.exit 0) (hdT 5 []) []] ?_⟩
    conv => whnf
    exact ⟨rfl, rfl, ⟨rfl, rfl, rfl, trivial⟩, S (S' L), trivial⟩
end Go.Proofs.YtdjbnaleoohafaaGreatDoor.Same
