/-
  BOTH SIDES OF "the same" answer what they should.
-/
import Derived.Test.YtdjbnaleoohafaaGreatDoorDat
namespace Go.Proofs.YtdjbnaleoohafaaGreatDoor.Same
open Go Go.Abs
set_option maxRecDepth 100000
theorem good29 : goodFn CC.P 29 = true := by kernel_rfl
theorem good15 : goodFn CC.P 15 = true := by kernel_rfl
theorem sames_cons (a b : Dat) (l l' : List Dat) : sames (a :: l) (b :: l') = (same a b && sames l l') := by conv => lhs; unfold sames
theorem dat_cl : ∀ d : Dat, d.av.ncells = 7
  | .mk .. => rfl

abbrev l46 (ls ls' : List Dat) (lp lp' : List AV) (i : Nat) : List (Nat × AV) :=
  [(1, .imm (avs ls') lp' false), (2, .func (.func 29) [] []), (15, .imm (avs ls) lp false), (16, .int .i64 ls.length), (17, .int .i64 i)]
theorem refs46 (ls ls' : List Dat) (lp lp' : List AV) (i : Nat) (ho : oks ls) (ho' : oks ls') (hp : refsBL 0 lp = true) (hp' : refsBL 0 lp' = true) : refsT 0 (hdT 6 (l46 ls ls' lp lp' i)) := by
  conv => whnf
  simp [refsT, AV.refsB, refsBL, fullU, refsB_dats ls ho, refsB_dats ls' ho', hp, hp']
theorem loop46 (ls ls' : List Dat) (lp lp' : List AV) (ho : oks ls) (ho' : oks ls') (hp : refsBL 0 lp = true) (hp' : refsBL 0 lp' = true) (hl : ls.length = ls'.length) (hb : ls.length ≤ 2 ^ 48)
    (H : ∀ x ∈ ls, ∀ y, y.ok → PureOK CC 29 [x.av, y.av] (.bool (same x y))) : ∀ (m i : Nat), i + m = ls.length →
    (sames (ls.drop i) (ls'.drop i) = true → ExecL CC 0 (loopN Go.Proofs.Tryz.f46 0) (hdT 6 (l46 ls ls' lp lp' i)).get [] (.exit 0) (hdT 6 []).get []) ∧
    (sames (ls.drop i) (ls'.drop i) = false → ∃ σ, ExecL CC 0 (loopN Go.Proofs.Tryz.f46 0) (hdT 6 (l46 ls ls' lp lp' i)).get [] .ret (hdT 6 [(6, .bool false)]).get σ)
  | 0, i, h => by
    have e : sames (ls.drop i) (ls'.drop i) = true := by rw [List.drop_eq_nil_of_le (by omega), List.drop_eq_nil_of_le (by omega)]; rfl
    refine ⟨fun _ => loop_out CC [.b false] (by simp) ?_, fun hn => by rw [e] at hn; cases hn⟩
    conv => whnf
    refine ⟨⟨rfl, rfl, rfl, trivial⟩, ?_, trivial⟩
    simp; omega
  | m + 1, i, h => by
    have hi : i < ls.length := by omega
    have hi' : i < ls'.length := by omega
    have x1 : (avs ls)[((i : Nat) : Int).toNat]? = some ls[i].av := by simp [avs_get ls i hi]
    have x2 : (avs ls')[((i : Nat) : Int).toNat]? = some ls'[i].av := by simp [avs_get ls' i hi']
    have o1 := oks_mem ho ls[i] (List.getElem_mem hi)
    have o2 := oks_mem ho' ls'[i] (List.getElem_mem hi')
    have hc := fun σ => call_of_pure pg (by simp [refsBL, refsB_dat _ o1, refsB_dat _ o2]) good29 (H ls[i] (List.getElem_mem hi) ls'[i] o2) 0 σ
    have e : sames (ls.drop i) (ls'.drop i) = (same ls[i] ls'[i] && sames (ls.drop (i + 1)) (ls'.drop (i + 1))) := by
      rw [List.drop_eq_getElem_cons hi, List.drop_eq_getElem_cons hi', sames_cons]
    have n1 := dat_cl ls[i]
    have n2 := dat_cl ls'[i]
    rw [e]
    generalize hxx : ls[i] = x at *
    generalize hyy : ls'[i] = y at *
    obtain ⟨ih1, ih2⟩ := loop46 ls ls' lp lp' ho ho' hp hp' hl hb H m (i + 1) (by omega)
    cases x with
    | mk k b i1 u s sp ts tp lq lr =>
    cases y with
    | mk k' b' i1' u' s' sp' ts' tp' lq' lr' =>
    unfold Dat.av at x1 x2 hc n1 n2
    cases hq : same (.mk k b i1 u s sp ts tp lq lr) (.mk k' b' i1' u' s' sp' ts' tp' lq' lr') with
    | true =>
      rw [hq] at hc
      have step : ∀ {ex : AExit} {env : Env} {σ : Heap}, ExecL CC 0 (loopN Go.Proofs.Tryz.f46 0) (hdT 6 (l46 ls ls' lp lp' (i + 1))).get [] ex env σ → ExecL CC 0 (loopN Go.Proofs.Tryz.f46 0) (hdT 6 (l46 ls ls' lp lp' i)).get [] ex env σ := fun kk => by
        refine loop_onD CC [.b true, .op 20 (.pimm [.int .i64 k, .bool b, .int .i64 i1, .int .u64 u, .imm (byteAVs s) sp false, .imm (ts.map .str) tp false, .imm (avs lq) lr false]), .op 24 (.pimm [.int .i64 k', .bool b', .int .i64 i1', .int .u64 u', .imm (byteAVs s') sp' false, .imm (ts'.map .str) tp' false, .imm (avs lq') lr' false]), .pure (.bool true)] (n := 6) (l := l46 ls ls' lp lp' (i + 1)) (refs46 ls ls' lp lp' (i + 1) ho ho' hp hp') ?_ kk
        conv => whnf
        refine ⟨⟨rfl, rfl, fun r o h => by simp at h, rfl, rfl, rfl, rfl, rfl, ?_, trivial⟩, hc _, opA_index rfl rfl rfl u35 (by omega) x2 (by rw [n2]; exact c37) (by rw [n2]; decide), opA_index rfl rfl rfl u35 (by omega) x1 (by rw [n1]; exact c37) (by rw [n1]; decide), ?_, trivial⟩
        · exact congrArg (AV.int .i64) (wrap_succ (by omega))
        · simp; omega
      refine ⟨fun he => step (ih1 (by simpa using he)), fun hn => ?_⟩
      obtain ⟨σ, hσ⟩ := ih2 (by simpa using hn)
      exact ⟨σ, step hσ⟩
    | false =>
      rw [hq] at hc
      refine ⟨fun he => by simp at he, fun _ => ?_⟩
      refine loop_outE CC [.b true, .op 20 (.pimm [.int .i64 k, .bool b, .int .i64 i1, .int .u64 u, .imm (byteAVs s) sp false, .imm (ts.map .str) tp false, .imm (avs lq) lr false]), .op 24 (.pimm [.int .i64 k', .bool b', .int .i64 i1', .int .u64 u', .imm (byteAVs s') sp' false, .imm (ts'.map .str) tp' false, .imm (avs lq') lr' false]), .pure (.bool false)] (by simp) ?_
      conv => whnf
      refine ⟨⟨rfl, rfl, rfl, trivial⟩, hc _, opA_index rfl rfl rfl u35 (by omega) x2 (by rw [n2]; exact c37) (by rw [n2]; decide), opA_index rfl rfl rfl u35 (by omega) x1 (by rw [n1]; exact c37) (by rw [n1]; decide), ?_, trivial⟩
      simp; omega
theorem lenA (l : List Dat) : AV.int .i64 ((avs l).length : Int) = AV.int .i64 (l.length : Int) := by rw [avs_len]
/-- slices.EqualFunc of data. -/
theorem listsEqual (ls ls' : List Dat) (lp lp' : List AV) (ho : oks ls) (ho' : oks ls') (hp : refsBL 0 lp = true) (hp' : refsBL 0 lp' = true) (hb : ls.length ≤ 2 ^ 48)
    (H : ∀ x ∈ ls, ∀ y, y.ok → PureOK CC 29 [x.av, y.av] (.bool (same x y))) : PureOK CC 46 [.imm (avs ls) lp false, .imm (avs ls') lp' false, .func (.func 29) [] []] (.bool (sames ls ls')) := by
  by_cases hl : ls.length = ls'.length
  · obtain ⟨l1, l2⟩ := loop46 ls ls' lp lp' ho ho' hp hp' hl hb H ls.length 0 (by omega)
    cases he : sames ls ls' with
    | true =>
      refine pure_runFS CC fol allok f46_get (Nat.le_of_ble_eq_true rfl) rfl [.b false, .loop 6 (l46 ls ls' lp lp' 0) (.exit 0) (hdT 6 []) []] ?_
      conv => whnf
      refine ⟨rfl, rfl, ⟨rfl, rfl, rfl, rfl, lenA ls, rfl, trivial⟩, l1 (by simpa using he), ?_, trivial⟩
      simp [avs_len, hl]
    | false =>
      obtain ⟨σ, l2⟩ := l2 (by simpa using he)
      refine pure_runFS CC fol allok f46_get (Nat.le_of_ble_eq_true rfl) rfl [.b false, .loop 6 (l46 ls ls' lp lp' 0) .ret (hdT 6 [(6, .bool false)]) σ] ?_
      conv => whnf
      refine ⟨rfl, rfl, ⟨rfl, rfl, rfl, rfl, lenA ls, rfl, trivial⟩, l2, ?_, trivial⟩
      simp [avs_len, hl]
  · rw [sames_len hl]
    refine pure_runFS CC fol allok f46_get (Nat.le_of_ble_eq_true rfl) rfl [.b true] ?_
    conv => whnf
    refine ⟨rfl, rfl, ?_, trivial⟩
    simp [avs_len]; omega

theorem call_b {f : FuncId} {args : List AV} {b c : Bool} (ha : refsBL 0 args = true) (hf : goodFn CC.P f = true) (h : PureOK CC f args (.bool b)) (e : b = c) (σ : Heap) : CallOK CC 0 f args σ (.bool c) σ := by
  subst e; exact call_of_pure pg ha hf h 0 σ
theorem good44 : goodFn CC.P 44 = true := by kernel_rfl
theorem good45 : goodFn CC.P 45 = true := by kernel_rfl
theorem good46 : goodFn CC.P 46 = true := by kernel_rfl

/-- avrocodec.Same. -/
theorem same29n : ∀ (n : Nat) (x y : Dat), SizeOf.sizeOf x < n → x.ok → y.ok → PureOK CC 29 [x.av, y.av] (.bool (same x y))
  | 0, _, _, h, _, _ => absurd h (by omega)
  | n + 1, .mk k b i u s sp ts tp ls lp, .mk k' b' i' u' s' sp' ts' tp' ls' lp', hn, hx, hy => by
    have H : ∀ x ∈ ls, ∀ y, y.ok → PureOK CC 29 [x.av, y.av] (.bool (same x y)) := fun x hm y hy' => same29n n x y (by have := List.sizeOf_lt_of_mem hm; simp at hn; omega) (by unfold Dat.ok at hx; exact oks_mem hx.2.2.2.2.2 x hm) hy'
    unfold Dat.ok at hx hy
    obtain ⟨x1, x2, x3, x4, x5, x6⟩ := hx
    obtain ⟨y1, y2, y3, y4, y5, y6⟩ := hy
    unfold Dat.av
    by_cases h1 : k = k'
    case neg =>
      rw [show same (.mk k b i u s sp ts tp ls lp) (.mk k' b' i' u' s' sp' ts' tp' ls' lp') = false by unfold same; simp [h1]]
      refine pure_runFS CC fol allok f29_get (Nat.le_of_ble_eq_true rfl) rfl [.b false] ?_
      conv => whnf
      refine ⟨rfl, rfl, ?_, trivial⟩
      simp [h1]
    by_cases h2 : b = b'
    case neg =>
      rw [show same (.mk k b i u s sp ts tp ls lp) (.mk k' b' i' u' s' sp' ts' tp' ls' lp') = false by unfold same; simp [h2]]
      refine pure_runFS CC fol allok f29_get (Nat.le_of_ble_eq_true rfl) rfl [.b true, .b false] ?_
      conv => whnf
      refine ⟨rfl, rfl, ?_, ?_, trivial⟩
      all_goals simp [h1, h2]
    by_cases h3 : i = i'
    case neg =>
      rw [show same (.mk k b i u s sp ts tp ls lp) (.mk k' b' i' u' s' sp' ts' tp' ls' lp') = false by unfold same; simp [h3]]
      refine pure_runFS CC fol allok f29_get (Nat.le_of_ble_eq_true rfl) rfl [.b true, .b true, .b false] ?_
      conv => whnf
      refine ⟨rfl, rfl, ?_, ?_, ?_, trivial⟩
      all_goals simp [h1, h2, h3]
    by_cases h4 : u = u'
    case neg =>
      rw [show same (.mk k b i u s sp ts tp ls lp) (.mk k' b' i' u' s' sp' ts' tp' ls' lp') = false by unfold same; simp [h4]]
      refine pure_runFS CC fol allok f29_get (Nat.le_of_ble_eq_true rfl) rfl [.b true, .b true, .b true, .b false] ?_
      conv => whnf
      refine ⟨rfl, rfl, ?_, ?_, ?_, ?_, trivial⟩
      all_goals simp [h1, h2, h3, h4]
    have c44 := fun c (e : (s == s') = c) => call_b (by simp [refsBL, AV.refsB, refsBL_bytes, x3, y3]) good44 (bytesEqual s s' sp sp') e
    have c45 := fun c (e : (ts == ts') = c) => call_b (by simp [refsBL, AV.refsB, refsBL_strs, x4, y4]) good45 (textsEqual ts ts' tp tp' x1) e
    have c46 := fun c (e : sames ls ls' = c) => call_b (by simp [refsBL, AV.refsB, refsB_dats ls x6, refsB_dats ls' y6, x5, y5]) good46 (listsEqual ls ls' lp lp' x6 y6 x5 y5 x2 H) e
    by_cases h5 : s = s'
    case neg =>
      rw [show same (.mk k b i u s sp ts tp ls lp) (.mk k' b' i' u' s' sp' ts' tp' ls' lp') = false by unfold same; simp [h5]]
      refine pure_runFS CC fol allok f29_get (Nat.le_of_ble_eq_true rfl) rfl [.b true, .b true, .b true, .b true, .pure (.bool false)] ?_
      conv => whnf
      refine ⟨rfl, rfl, c44 false (by simpa using h5) _, ?_, ?_, ?_, ?_, trivial⟩
      all_goals simp [h1, h2, h3, h4]
    by_cases h6 : ts = ts'
    case neg =>
      rw [show same (.mk k b i u s sp ts tp ls lp) (.mk k' b' i' u' s' sp' ts' tp' ls' lp') = false by unfold same; simp [h6]]
      refine pure_runFS CC fol allok f29_get (Nat.le_of_ble_eq_true rfl) rfl [.b true, .b true, .b true, .b true, .pure (.bool true), .pure (.bool false)] ?_
      conv => whnf
      refine ⟨rfl, rfl, c45 false (by simpa using h6) _, c44 true (by simpa using h5) _, ?_, ?_, ?_, ?_, trivial⟩
      all_goals simp [h1, h2, h3, h4]
    rw [show same (.mk k b i u s sp ts tp ls lp) (.mk k' b' i' u' s' sp' ts' tp' ls' lp') = sames ls ls' by unfold same; simp [h1, h2, h3, h4, h5, h6]]
    refine pure_runFS CC fol allok f29_get (Nat.le_of_ble_eq_true rfl) rfl [.b true, .b true, .b true, .b true, .pure (.bool true), .pure (.bool true), .pure (.bool (sames ls ls'))] ?_
    conv => whnf
    refine ⟨rfl, rfl, c46 _ rfl _, c45 true (by simpa using h6) _, c44 true (by simpa using h5) _, ?_, ?_, ?_, ?_, trivial⟩
    all_goals simp [h1, h2, h3, h4]
theorem same29 (x y : Dat) (hx : x.ok) (hy : y.ok) : PureOK CC 29 [x.av, y.av] (.bool (same x y)) := same29n (SizeOf.sizeOf x + 1) x y (by omega) hx hy
end Go.Proofs.YtdjbnaleoohafaaGreatDoor.Same
