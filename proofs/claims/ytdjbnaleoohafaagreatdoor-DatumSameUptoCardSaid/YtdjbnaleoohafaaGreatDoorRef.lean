/-
  THE REFERENCE's side of "the same".
-/
import Derived.Test.YtdjbnaleoohafaaGreatDoorEq
namespace Go.Proofs.YtdjbnaleoohafaaGreatDoor.Same
open Go Go.Abs
set_option maxRecDepth 100000
/-- The two boxed data. -/
abbrev HH (c1 c2 : List AV) : Heap := [.box c1, .box c2]
abbrev l15 (sl : Nat) (i : Nat) : List (Nat × AV) := [(2, .ptr 0 0), (3, .ptr 1 0), (sl, .int .i64 i)]
abbrev e15 : List (Nat × AV) := [(2, .ptr 0 0), (3, .ptr 1 0)]

theorem loop15t (x1 x2 x3 x4 x5 x7 y1 y2 y3 y4 y5 y7 : AV) (ts ts' : List (List UInt8)) (tp tp' : List AV) (hl : ts.length = ts'.length) (hb : ts.length ≤ 2 ^ 48) : ∀ (m i : Nat), i + m = ts.length →
    (ts.drop i = ts'.drop i → ExecL CC 0 (loopN Go.Proofs.Tryz.f15 0) (hdT 7 (l15 5 i)).get (HH [x1, x2, x3, x4, x5, .imm (ts.map .str) tp false, x7] [y1, y2, y3, y4, y5, .imm (ts'.map .str) tp' false, y7]) (.exit 0) (hdT 7 e15).get (HH [x1, x2, x3, x4, x5, .imm (ts.map .str) tp false, x7] [y1, y2, y3, y4, y5, .imm (ts'.map .str) tp' false, y7])) ∧
    (ts.drop i ≠ ts'.drop i → ExecL CC 0 (loopN Go.Proofs.Tryz.f15 0) (hdT 7 (l15 5 i)).get (HH [x1, x2, x3, x4, x5, .imm (ts.map .str) tp false, x7] [y1, y2, y3, y4, y5, .imm (ts'.map .str) tp' false, y7]) .ret (hdT 7 [(4, .bool false)]).get (HH [x1, x2, x3, x4, x5, .imm (ts.map .str) tp false, x7] [y1, y2, y3, y4, y5, .imm (ts'.map .str) tp' false, y7]))
  | 0, i, h => by
    have e : ts.drop i = ts'.drop i := by rw [List.drop_eq_nil_of_le (by omega), List.drop_eq_nil_of_le (by omega)]
    refine ⟨fun _ => loop_out CC [.b false] (by simp) ?_, fun hn => absurd e hn⟩
    conv => whnf
    refine ⟨⟨rfl, rfl, rfl, rfl, rfl, trivial⟩, ?_, trivial⟩
    simp; omega
  | m + 1, i, h => by
    have hi : i < ts.length := by omega
    have hi' : i < ts'.length := by omega
    have e1 : ts.drop i = ts[i] :: ts.drop (i + 1) := List.drop_eq_getElem_cons hi
    have e2 : ts'.drop i = ts'[i] :: ts'.drop (i + 1) := List.drop_eq_getElem_cons hi'
    have g1 : (ts.map AV.str)[((i : Nat) : Int).toNat]? = some (.str ts[i]) := by simp [hi]
    have g2 : (ts'.map AV.str)[((i : Nat) : Int).toNat]? = some (.str ts'[i]) := by simp [hi']
    by_cases hq : ts[i] = ts'[i]
    · obtain ⟨ih1, ih2⟩ := loop15t x1 x2 x3 x4 x5 x7 y1 y2 y3 y4 y5 y7 ts ts' tp tp' hl hb m (i + 1) (by omega)
      have step : ∀ {ex : AExit} {env : Env} {σ : Heap}, ExecL CC 0 (loopN Go.Proofs.Tryz.f15 0) (hdT 7 (l15 5 (i + 1))).get (HH [x1, x2, x3, x4, x5, .imm (ts.map .str) tp false, x7] [y1, y2, y3, y4, y5, .imm (ts'.map .str) tp' false, y7]) ex env σ → ExecL CC 0 (loopN Go.Proofs.Tryz.f15 0) (hdT 7 (l15 5 i)).get (HH [x1, x2, x3, x4, x5, .imm (ts.map .str) tp false, x7] [y1, y2, y3, y4, y5, .imm (ts'.map .str) tp' false, y7]) ex env σ := fun kk => by
        refine loop_on CC [.b true, .op 70 (.pimm [.str ts[i]]), .op 75 (.pimm [.str ts'[i]]), .b false] (n := 7) (l := l15 5 (i + 1)) (σ' := HH [x1, x2, x3, x4, x5, .imm (ts.map .str) tp false, x7] [y1, y2, y3, y4, y5, .imm (ts'.map .str) tp' false, y7]) ?_ kk
        conv => whnf
        refine ⟨⟨rfl, rfl, rfl, rfl, rfl, ?_, trivial⟩, by kernel_rfl, .inl (by kernel_rfl), ?_, opA_index rfl rfl rfl u34 (by omega) g2 c9 Nat.one_pos, opA_index rfl rfl rfl u34 (by omega) g1 c9 Nat.one_pos, ?_, trivial⟩
        · exact congrArg (AV.int .i64) (wrap_succ (by omega))
        · simp [hq]
        · simp; omega
      refine ⟨fun he => step (ih1 ?_), fun hn => step (ih2 ?_)⟩
      · rw [e1, e2] at he; exact (List.cons.inj he).2
      · intro h'; apply hn; rw [e1, e2, hq, h']
    · refine ⟨fun he => absurd ?_ hq, fun _ => ?_⟩
      · rw [e1, e2] at he; exact (List.cons.inj he).1
      · refine loop_out CC [.b true, .op 70 (.pimm [.str ts[i]]), .op 75 (.pimm [.str ts'[i]]), .b true] (by simp) ?_
        conv => whnf
        refine ⟨⟨rfl, rfl, rfl, rfl, trivial⟩, by kernel_rfl, .inl (by kernel_rfl), ?_, opA_index rfl rfl rfl u34 (by omega) g2 c9 Nat.one_pos, opA_index rfl rfl rfl u34 (by omega) g1 c9 Nat.one_pos, ?_, trivial⟩
        · simp [hq]
        · simp; omega

theorem loop15l (z1 z2 z3 z4 z5 z6 w1 w2 w3 w4 w5 w6 : AV) (ls ls' : List Dat) (lp lp' : List AV) (ho : oks ls) (ho' : oks ls') (hl : ls.length = ls'.length) (hb : ls.length ≤ 2 ^ 48)
    (H : ∀ x ∈ ls, ∀ y, y.ok → PureOK CC 15 [x.av, y.av] (.bool (same x y))) : ∀ (m i : Nat), i + m = ls.length →
    (sames (ls.drop i) (ls'.drop i) = true → ExecL CC 0 (loopN Go.Proofs.Tryz.f15 1) (hdT 7 (l15 6 i)).get (HH [z1, z2, z3, z4, z5, z6, .imm (avs ls) lp false] [w1, w2, w3, w4, w5, w6, .imm (avs ls') lp' false]) (.exit 2) (hdT 7 e15).get (HH [z1, z2, z3, z4, z5, z6, .imm (avs ls) lp false] [w1, w2, w3, w4, w5, w6, .imm (avs ls') lp' false])) ∧
    (sames (ls.drop i) (ls'.drop i) = false → ExecL CC 0 (loopN Go.Proofs.Tryz.f15 1) (hdT 7 (l15 6 i)).get (HH [z1, z2, z3, z4, z5, z6, .imm (avs ls) lp false] [w1, w2, w3, w4, w5, w6, .imm (avs ls') lp' false]) .ret (hdT 7 [(4, .bool false)]).get (HH [z1, z2, z3, z4, z5, z6, .imm (avs ls) lp false] [w1, w2, w3, w4, w5, w6, .imm (avs ls') lp' false]))
  | 0, i, h => by
    have e : sames (ls.drop i) (ls'.drop i) = true := by rw [List.drop_eq_nil_of_le (by omega), List.drop_eq_nil_of_le (by omega)]; rfl
    refine ⟨fun _ => loop_out CC [.b false] (by simp) ?_, fun hn => by rw [e] at hn; cases hn⟩
    conv => whnf
    refine ⟨⟨rfl, rfl, rfl, rfl, rfl, trivial⟩, ?_, trivial⟩
    simp [avs_len]; omega
  | m + 1, i, h => by
    have hi : i < ls.length := by omega
    have hi' : i < ls'.length := by omega
    have x1 : (avs ls)[((i : Nat) : Int).toNat]? = some ls[i].av := by simp [avs_get ls i hi]
    have x2 : (avs ls')[((i : Nat) : Int).toNat]? = some ls'[i].av := by simp [avs_get ls' i hi']
    have o1 := oks_mem ho ls[i] (List.getElem_mem hi)
    have o2 := oks_mem ho' ls'[i] (List.getElem_mem hi')
    have hc := fun σ => call_of_pure pg (by simp [refsBL, refsB_dat _ o1, refsB_dat _ o2]) good15 (H ls[i] (List.getElem_mem hi) ls'[i] o2) 0 σ
    have e : sames (ls.drop i) (ls'.drop i) = (same ls[i] ls'[i] && sames (ls.drop (i + 1)) (ls'.drop (i + 1))) := by
      rw [List.drop_eq_getElem_cons hi, List.drop_eq_getElem_cons hi', sames_cons]
    have n1 := dat_cl ls[i]
    have n2 := dat_cl ls'[i]
    rw [e]
    generalize hxx : ls[i] = x at *
    generalize hyy : ls'[i] = y at *
    obtain ⟨ih1, ih2⟩ := loop15l z1 z2 z3 z4 z5 z6 w1 w2 w3 w4 w5 w6 ls ls' lp lp' ho ho' hl hb H m (i + 1) (by omega)
    cases x with
    | mk k b i1 u s sp ts tp lq lr =>
    cases y with
    | mk k' b' i1' u' s' sp' ts' tp' lq' lr' =>
    unfold Dat.av at x1 x2 hc n1 n2
    cases hq : same (.mk k b i1 u s sp ts tp lq lr) (.mk k' b' i1' u' s' sp' ts' tp' lq' lr') with
    | true =>
      rw [hq] at hc
      have step : ∀ {ex : AExit} {env : Env} {σ : Heap}, ExecL CC 0 (loopN Go.Proofs.Tryz.f15 1) (hdT 7 (l15 6 (i + 1))).get (HH [z1, z2, z3, z4, z5, z6, .imm (avs ls) lp false] [w1, w2, w3, w4, w5, w6, .imm (avs ls') lp' false]) ex env σ → ExecL CC 0 (loopN Go.Proofs.Tryz.f15 1) (hdT 7 (l15 6 i)).get (HH [z1, z2, z3, z4, z5, z6, .imm (avs ls) lp false] [w1, w2, w3, w4, w5, w6, .imm (avs ls') lp' false]) ex env σ := fun kk => by
        refine loop_on CC [.b true, .op 88 (.pimm [.int .i64 k, .bool b, .int .i64 i1, .int .u64 u, .imm (byteAVs s) sp false, .imm (ts.map .str) tp false, .imm (avs lq) lr false]), .op 93 (.pimm [.int .i64 k', .bool b', .int .i64 i1', .int .u64 u', .imm (byteAVs s') sp' false, .imm (ts'.map .str) tp' false, .imm (avs lq') lr' false]), .pure (.bool true)] (n := 7) (l := l15 6 (i + 1)) (σ' := HH [z1, z2, z3, z4, z5, z6, .imm (avs ls) lp false] [w1, w2, w3, w4, w5, w6, .imm (avs ls') lp' false]) ?_ kk
        conv => whnf
        refine ⟨⟨rfl, rfl, rfl, rfl, rfl, ?_, trivial⟩, by kernel_rfl, .inl (by kernel_rfl), hc _, opA_index rfl rfl rfl u35 (by omega) x2 (by rw [n2]; exact c37) (by rw [n2]; decide), opA_index rfl rfl rfl u35 (by omega) x1 (by rw [n1]; exact c37) (by rw [n1]; decide), ?_, trivial⟩
        · exact congrArg (AV.int .i64) (wrap_succ (by omega))
        · simp [avs_len]; omega
      exact ⟨fun he => step (ih1 (by simpa using he)), fun hn => step (ih2 (by simpa using hn))⟩
    | false =>
      rw [hq] at hc
      refine ⟨fun he => by simp at he, fun _ => ?_⟩
      refine loop_out CC [.b true, .op 88 (.pimm [.int .i64 k, .bool b, .int .i64 i1, .int .u64 u, .imm (byteAVs s) sp false, .imm (ts.map .str) tp false, .imm (avs lq) lr false]), .op 93 (.pimm [.int .i64 k', .bool b', .int .i64 i1', .int .u64 u', .imm (byteAVs s') sp' false, .imm (ts'.map .str) tp' false, .imm (avs lq') lr' false]), .pure (.bool false)] (by simp) ?_
      conv => whnf
      refine ⟨⟨rfl, rfl, rfl, rfl, trivial⟩, by kernel_rfl, .inl (by kernel_rfl), hc _, opA_index rfl rfl rfl u35 (by omega) x2 (by rw [n2]; exact c37) (by rw [n2]; decide), opA_index rfl rfl rfl u35 (by omega) x1 (by rw [n1]; exact c37) (by rw [n1]; decide), ?_, trivial⟩
      simp [avs_len]; omega

/-- ref.Same. -/
theorem same15n : ∀ (n : Nat) (x y : Dat), SizeOf.sizeOf x < n → x.ok → y.ok → PureOK CC 15 [x.av, y.av] (.bool (same x y))
  | 0, _, _, h, _, _ => absurd h (by omega)
  | n + 1, .mk k b i u s sp ts tp ls lp, .mk k' b' i' u' s' sp' ts' tp' ls' lp', hn, hx, hy => by
    have H : ∀ x ∈ ls, ∀ y, y.ok → PureOK CC 15 [x.av, y.av] (.bool (same x y)) := fun x hm y hy' => same15n n x y (by have := List.sizeOf_lt_of_mem hm; simp at hn; omega) (by unfold Dat.ok at hx; exact oks_mem hx.2.2.2.2.2 x hm) hy'
    unfold Dat.ok at hx hy
    obtain ⟨x1, x2, x3, x4, x5, x6⟩ := hx
    obtain ⟨y1, y2, y3, y4, y5, y6⟩ := hy
    have hsame : same (.mk k b i u s sp ts tp ls lp) (.mk k' b' i' u' s' sp' ts' tp' ls' lp') = (decide (k = k') && decide (b = b') && decide (i = i') && decide (u = u') && decide (s = s') && decide (ts = ts') && sames ls ls') := by unfold same; rfl
    unfold Dat.av
    by_cases h1 : k = k'
    case neg =>
      rw [show same (.mk k b i u s sp ts tp ls lp) (.mk k' b' i' u' s' sp' ts' tp' ls' lp') = false by simp [hsame, h1]]
      refine pure_runFS CC fol allok f15_get (Nat.le_of_ble_eq_true rfl) rfl [.b true] ?_
      conv => whnf
      refine ⟨rfl, rfl, ?_, trivial⟩
      all_goals (simp [h1, avs_len]; try omega)
    by_cases h2 : b = b'
    case neg =>
      rw [show same (.mk k b i u s sp ts tp ls lp) (.mk k' b' i' u' s' sp' ts' tp' ls' lp') = false by simp [hsame, h2]]
      refine pure_runFS CC fol allok f15_get (Nat.le_of_ble_eq_true rfl) rfl [.b false, .b true] ?_
      conv => whnf
      refine ⟨rfl, rfl, ?_, ?_, trivial⟩
      all_goals (simp [h1, h2, avs_len]; try omega)
    by_cases h3 : i = i'
    case neg =>
      rw [show same (.mk k b i u s sp ts tp ls lp) (.mk k' b' i' u' s' sp' ts' tp' ls' lp') = false by simp [hsame, h3]]
      refine pure_runFS CC fol allok f15_get (Nat.le_of_ble_eq_true rfl) rfl [.b false, .b false, .b true] ?_
      conv => whnf
      refine ⟨rfl, rfl, ?_, ?_, ?_, trivial⟩
      all_goals (simp [h1, h2, h3, avs_len]; try omega)
    by_cases h4 : u = u'
    case neg =>
      rw [show same (.mk k b i u s sp ts tp ls lp) (.mk k' b' i' u' s' sp' ts' tp' ls' lp') = false by simp [hsame, h4]]
      refine pure_runFS CC fol allok f15_get (Nat.le_of_ble_eq_true rfl) rfl [.b false, .b false, .b false, .b true] ?_
      conv => whnf
      refine ⟨rfl, rfl, ?_, ?_, ?_, ?_, trivial⟩
      all_goals (simp [h1, h2, h3, h4, avs_len]; try omega)
    by_cases h5 : s = s'
    case neg =>
      rw [show same (.mk k b i u s sp ts tp ls lp) (.mk k' b' i' u' s' sp' ts' tp' ls' lp') = false by simp [hsame, h5]]
      refine pure_runFS CC fol allok f15_get (Nat.le_of_ble_eq_true rfl) rfl [.b false, .b false, .b false, .b false, .op 36 (.str s), .op 39 (.str s'), .b true] ?_
      conv => whnf
      refine ⟨rfl, rfl, ?_, opA_bytes rfl rfl u22 u5 u9, opA_bytes rfl rfl u22 u5 u9, ?_, ?_, ?_, ?_, trivial⟩
      all_goals (simp [h1, h2, h3, h4, h5, avs_len]; try omega)
    by_cases h6 : ts.length = ts'.length
    case neg =>
      rw [show same (.mk k b i u s sp ts tp ls lp) (.mk k' b' i' u' s' sp' ts' tp' ls' lp') = false by rw [hsame]; simp [show ¬ ts = ts' from fun e => h6 (by rw [e])]]
      refine pure_runFS CC fol allok f15_get (Nat.le_of_ble_eq_true rfl) rfl [.b false, .b false, .b false, .b false, .op 36 (.str s), .op 39 (.str s'), .b false, .b true] ?_
      conv => whnf
      refine ⟨rfl, rfl, ?_, ?_, opA_bytes rfl rfl u22 u5 u9, opA_bytes rfl rfl u22 u5 u9, ?_, ?_, ?_, ?_, trivial⟩
      all_goals (simp [h1, h2, h3, h4, h5, h6, avs_len]; try omega)
    by_cases h7 : ls.length = ls'.length
    case neg =>
      rw [show same (.mk k b i u s sp ts tp ls lp) (.mk k' b' i' u' s' sp' ts' tp' ls' lp') = false by rw [hsame, sames_len h7]; simp]
      refine pure_runFS CC fol allok f15_get (Nat.le_of_ble_eq_true rfl) rfl [.b false, .b false, .b false, .b false, .op 36 (.str s), .op 39 (.str s'), .b false, .b false, .b true] ?_
      conv => whnf
      refine ⟨rfl, rfl, ?_, ?_, ?_, opA_bytes rfl rfl u22 u5 u9, opA_bytes rfl rfl u22 u5 u9, ?_, ?_, ?_, ?_, trivial⟩
      all_goals (simp [h1, h2, h3, h4, h5, h6, h7, avs_len]; try omega)
    obtain ⟨t1, t2⟩ := loop15t (.int .i64 k) (.bool b) (.int .i64 i) (.int .u64 u) (.imm (byteAVs s) sp false) (.imm (avs ls) lp false) (.int .i64 k') (.bool b') (.int .i64 i') (.int .u64 u') (.imm (byteAVs s') sp' false) (.imm (avs ls') lp' false) ts ts' tp tp' h6 x1 ts.length 0 (by omega)
    obtain ⟨m1, m2⟩ := loop15l (.int .i64 k) (.bool b) (.int .i64 i) (.int .u64 u) (.imm (byteAVs s) sp false) (.imm (ts.map .str) tp false) (.int .i64 k') (.bool b') (.int .i64 i') (.int .u64 u') (.imm (byteAVs s') sp' false) (.imm (ts'.map .str) tp' false) ls ls' lp lp' x6 y6 h7 x2 H ls.length 0 (by omega)
    by_cases h8 : ts = ts'
    case neg =>
      rw [show same (.mk k b i u s sp ts tp ls lp) (.mk k' b' i' u' s' sp' ts' tp' ls' lp') = false by rw [hsame]; simp [h8]]
      refine pure_runFS CC fol allok f15_get (Nat.le_of_ble_eq_true rfl) rfl [.b false, .b false, .b false, .b false, .op 36 (.str s), .op 39 (.str s'), .b false, .b false, .b false, .loop 7 (l15 5 0) .ret (hdT 7 [(4, .bool false)]) (HH [.int .i64 k, .bool b, .int .i64 i, .int .u64 u, .imm (byteAVs s) sp false, .imm (ts.map .str) tp false, .imm (avs ls) lp false] [.int .i64 k', .bool b', .int .i64 i', .int .u64 u', .imm (byteAVs s') sp' false, .imm (ts'.map .str) tp' false, .imm (avs ls') lp' false])] ?_
      conv => whnf
      refine ⟨rfl, rfl, ⟨rfl, rfl, rfl, rfl, trivial⟩, t2 (by simpa using h8), ?_, ?_, ?_, opA_bytes rfl rfl u22 u5 u9, opA_bytes rfl rfl u22 u5 u9, ?_, ?_, ?_, ?_, trivial⟩
      all_goals (simp [h1, h2, h3, h4, h5, h6, h7, avs_len]; try omega)
    rw [show same (.mk k b i u s sp ts tp ls lp) (.mk k' b' i' u' s' sp' ts' tp' ls' lp') = sames ls ls' by rw [hsame]; simp [h1, h2, h3, h4, h5, h8]]
    cases h9 : sames ls ls' with
    | false =>
      refine pure_runFS CC fol allok f15_get (Nat.le_of_ble_eq_true rfl) rfl [.b false, .b false, .b false, .b false, .op 36 (.str s), .op 39 (.str s'), .b false, .b false, .b false, .loop 7 (l15 5 0) (.exit 0) (hdT 7 e15) (HH [.int .i64 k, .bool b, .int .i64 i, .int .u64 u, .imm (byteAVs s) sp false, .imm (ts.map .str) tp false, .imm (avs ls) lp false] [.int .i64 k', .bool b', .int .i64 i', .int .u64 u', .imm (byteAVs s') sp' false, .imm (ts'.map .str) tp' false, .imm (avs ls') lp' false]), .loop 7 (l15 6 0) .ret (hdT 7 [(4, .bool false)]) (HH [.int .i64 k, .bool b, .int .i64 i, .int .u64 u, .imm (byteAVs s) sp false, .imm (ts.map .str) tp false, .imm (avs ls) lp false] [.int .i64 k', .bool b', .int .i64 i', .int .u64 u', .imm (byteAVs s') sp' false, .imm (ts'.map .str) tp' false, .imm (avs ls') lp' false])] ?_
      conv => whnf
      refine ⟨rfl, rfl, ⟨rfl, rfl, rfl, rfl, trivial⟩, m2 (by simpa using h9), ⟨rfl, rfl, rfl, rfl, trivial⟩, t1 (by simpa using h8), ?_, ?_, ?_, opA_bytes rfl rfl u22 u5 u9, opA_bytes rfl rfl u22 u5 u9, ?_, ?_, ?_, ?_, trivial⟩
      all_goals (simp [h1, h2, h3, h4, h5, h6, h7, avs_len]; try omega)
    | true =>
      refine pure_runFS CC fol allok f15_get (Nat.le_of_ble_eq_true rfl) rfl [.b false, .b false, .b false, .b false, .op 36 (.str s), .op 39 (.str s'), .b false, .b false, .b false, .loop 7 (l15 5 0) (.exit 0) (hdT 7 e15) (HH [.int .i64 k, .bool b, .int .i64 i, .int .u64 u, .imm (byteAVs s) sp false, .imm (ts.map .str) tp false, .imm (avs ls) lp false] [.int .i64 k', .bool b', .int .i64 i', .int .u64 u', .imm (byteAVs s') sp' false, .imm (ts'.map .str) tp' false, .imm (avs ls') lp' false]), .loop 7 (l15 6 0) (.exit 2) (hdT 7 e15) (HH [.int .i64 k, .bool b, .int .i64 i, .int .u64 u, .imm (byteAVs s) sp false, .imm (ts.map .str) tp false, .imm (avs ls) lp false] [.int .i64 k', .bool b', .int .i64 i', .int .u64 u', .imm (byteAVs s') sp' false, .imm (ts'.map .str) tp' false, .imm (avs ls') lp' false])] ?_
      conv => whnf
      refine ⟨rfl, rfl, ⟨rfl, rfl, rfl, rfl, trivial⟩, m1 (by simpa using h9), ⟨rfl, rfl, rfl, rfl, trivial⟩, t1 (by simpa using h8), ?_, ?_, ?_, opA_bytes rfl rfl u22 u5 u9, opA_bytes rfl rfl u22 u5 u9, ?_, ?_, ?_, ?_, trivial⟩
      all_goals (simp [h1, h2, h3, h4, h5, h6, h7, avs_len]; try omega)
theorem same15 (x y : Dat) (hx : x.ok) (hy : y.ok) : PureOK CC 15 [x.av, y.av] (.bool (same x y)) := same15n (SizeOf.sizeOf x + 1) x y (by omega) hx hy
end Go.Proofs.YtdjbnaleoohafaaGreatDoor.Same
