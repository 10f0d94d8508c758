/-
  AN ABSTRACT SEMANTICS, 18b: a constant text turned into bytes: a literal and its conversion in one step.
-/
import Derived.Test.YtdjbnaleoohafaaGreatDoorAbs18
namespace Go.Abs
open Go Go.RowKit

section
variable {C : Ctx} {lo nt : Nat} {ds : List Deferred} {ρ₀ : Map} {σ₀ : Heap} {w₀ : World} {ρ : Map} {σ : Heap} {w : World}

/-- A literal of bytes and its conversion to its own type: the literal's bytes. -/
def litA (C : Ctx) (env : Env) (σ : Heap) (o o' : Oper) : Option (Tmp × AV) :=
  match o.op, o.dst, o.guard, o'.op, o'.guard with
  | .buildSlice T len parts, some d, none, .convert S D (.tmp t), none =>
    if t = d ∧ S = T ∧ D = T then
      match C.P.underlying T with
      | some (.slice e) => match C.P.underlying e with
        | some (.int .u8) => match buildSliceA C.P σ T len (parts.toList.map fun p => (p.1, evA C env p.2)) with
          | some x => some (d, x)
          | none => none
        | _ => none
      | _ => none
    else none
  | _, _, _, _, _ => none

theorem lit_run {P : Program} {us : Array Value} {e T : TypeId} {n : Nat} (hT : P.underlying T = some (.slice e)) (he : P.underlying e = some (.int .u8)) :
    (convert T T (.slice (some ⟨w.heap.size, 0, none⟩) n n)).run P (w.alloc (.cells us e)) = .ok (.slice (some ⟨w.heap.size, 0, none⟩) n n) ((w.alloc (.cells us e)).freeze ⟨w.heap.size, us.size, none⟩ 1) := by
  have hsh : (w.alloc (.cells us e)).shape? w.heap.size = some (e, us.size) := by
    have h1 : (w.alloc (.cells us e)).heap[w.heap.size]? = some (.cells us e) := heap_alloc_new w _
    unfold World.shape?; rw [h1]
  simp [convert, run_und hT, run_und he, markStringish, run_shape, hsh, run_freeze]

theorem lit_heap {us : Array Value} {e : TypeId} : ((w.alloc (.cells us e)).freeze ⟨w.heap.size, us.size, none⟩ 1).heap[w.heap.size]? = some (.cells us e (us.size, us.size + 1)) := by
  have h1 : (w.alloc (.cells us e)).heap[w.heap.size]? = some (.cells us e) := heap_alloc_new w _
  simp only [World.freeze, Nat.one_ne_zero, if_false, Array.getElem?_modify, if_true, h1, Option.map_some]
  simp

theorem lit_below {us : Array Value} {e : TypeId} : Below w.heap.size w ((w.alloc (.cells us e)).freeze ⟨w.heap.size, us.size, none⟩ 1) := by
  have hb1 : Below w.heap.size w (w.alloc (.cells us e)) := below_alloc w _
  refine ⟨rfl, rfl, rfl, ?_, fun k hk => ?_⟩
  · have := hb1.size
    simp only [World.freeze, Nat.one_ne_zero, if_false, Array.size_modify]; exact this
  · rw [← hb1.block k hk]
    simp only [World.freeze, Nat.one_ne_zero, if_false, Array.getElem?_modify]
    rw [if_neg (by omega)]

theorem lit_imm (hs : Sim ρ σ w) {xs : List AV} {sz : Nat} (hu : unif sz xs = true) {us : Array Value} (hl : LRel ρ σ w (flat xs) us.toList) (ho : ∀ u ∈ us.toList, u.oneCell' = true) (hlen : xs.length ≤ 2 ^ 48) (e : TypeId) :
    VRel ρ σ ((w.alloc (.cells us e)).freeze ⟨w.heap.size, us.size, none⟩ 1) (.imm xs [] true) (.slice (some ⟨w.heap.size, 0, none⟩) xs.length xs.length) := by
  refine vrel_imm (by simp) (fun _ => rfl) hlen (fun h => by cases h) (fun _ => ⟨w.heap.size, 0, sz, rfl, fun hm => ?_, ?_, by simpa using hu, ?_⟩)
  · have := hs.mut_lt hm; omega
  · simp [World.freeze]
  · rw [List.append_nil]
    exact rrel_of_flat (Cells.of_block lit_heap) (lrel_ext (Ext.grow (n := σ.length) lit_below) _ _ (lrel_refs _ _ hl) hl) ho

/-- Operations in the order of the text, where literals are turned. -/
def aopsL (C : Ctx) (lo : Nat) (ops : Array Oper) : List Oper → (AExit → Env → Heap → Prop) → Env → Heap → Prop
  | [], K, env, σ => K .normal env σ
  | [o], K, env, σ => aops C lo ops [o] K env σ
  | o :: o' :: rest, K, env, σ => match litA C env σ o o' with
    | some (d, x) => aopsL C lo ops rest K (aput (aput env (some d) x) o'.dst x) σ
    | none => match wantA ops o env with
      | some true => aop C lo o (fun v σ' => aopsL C lo ops (o' :: rest) K (aput env o.dst v) σ') (fun p σ' => K (.pan p) env σ') env σ
      | some false => aopsL C lo ops (o' :: rest) K (aput env o.dst (.tuple [])) σ
      | none => False

theorem litA_some {env : Env} {o o' : Oper} {d : Tmp} {x : AV} (h : litA C env σ o o' = some (d, x)) :
    ∃ T len parts e, o.op = .buildSlice T len parts ∧ o.dst = some d ∧ o.guard = none ∧ o'.op = .convert T T (.tmp d) ∧ o'.guard = none ∧ C.P.underlying T = some (.slice e) ∧ C.P.underlying e = some (.int .u8) ∧
      buildSliceA C.P σ T len (parts.toList.map fun p => (p.1, evA C env p.2)) = some x := by
  unfold litA at h
  split at h
  · rename_i T len parts d' S D t h1 h2 h3 h4 h5
    split at h
    · rename_i hq
      obtain ⟨rfl, rfl, rfl⟩ := hq
      split at h
      · rename_i e hT
        split at h
        · rename_i he
          split at h
          · rename_i y hy
            cases h
            exact ⟨_, _, _, _, h1, h2, h3, h4, h5, hT, he, hy⟩
          · cases h
        · cases h
      · cases h
    · cases h
  · cases h

theorem aopsL_ok {ops : Array Oper} {Q : Exit → Act → World → Prop} {K : AExit → Env → Heap → Prop} (hdst : ∀ (j : Nat) (o : Oper), ops[j]? = some o → dstOK nt o = true)
    (hK : ∀ env σ ρ w a, K .normal env σ → St C lo nt ds ρ₀ σ₀ w₀ ρ σ w env a → lo ≤ σ.length → Q .normal a w)
    (hP : ∀ p env σ ρ w a u, K (.pan p) env σ → VRel ρ σ w p u → St C lo nt ds ρ₀ σ₀ w₀ ρ σ w env a → lo ≤ σ.length → Q (.panic [{ v := u, recovered := false }]) a w) : ∀ (n : Nat) (l : List Oper) (k : Nat), l.length ≤ n → ops.toList.drop k = l → ∀ (env : Env) (σ : Heap) (ρ : Map) (w : World) (a : Act),
    aopsL C lo ops l K env σ → St C lo nt ds ρ₀ σ₀ w₀ ρ σ w env a → lo ≤ σ.length → wpOps C.P ops Q (List.range' k l.length) a w
  | n, [], k, _, _, env, σ, ρ, w, a, h, hs, hlo => hK env σ ρ w a h hs hlo
  | n, [o], k, _, hk, env, σ, ρ, w, a, h, hs, hlo => aops_ok hdst hK hP [o] k hk env σ ρ w a h hs hlo
  | 0, o :: o' :: rest, k, hn, _, _, _, _, _, _, _, _, _ => by simp at hn
  | n + 1, o :: o' :: rest, k, hn, hk, env, σ, ρ, w, a, h, hs, hlo => by
    have hko : ops[k]? = some o := by
      have := congrArg (fun l => l[0]?) hk
      simpa [List.getElem?_drop] using this
    have hko' : ops[k + 1]? = some o' := by
      have := congrArg (fun l => l[1]?) hk
      simpa [List.getElem?_drop] using this
    have hrest : ops.toList.drop (k + 1) = o' :: rest := by
      have := congrArg (List.drop 1) hk
      rw [List.drop_drop] at this
      simpa [Nat.add_comm] using this
    have hrest2 : ops.toList.drop (k + 1 + 1) = rest := by
      have := congrArg (List.drop 2) hk
      rw [List.drop_drop] at this
      rw [show k + 1 + 1 = k + 2 from rfl, this]; rfl
    simp only [List.length_cons] at hn
    rw [List.length_cons, List.range'_succ]
    simp only [wpOps, hko]
    simp only [aopsL] at h
    split at h
    · rename_i d x hlit
      obtain ⟨T, len, parts, e, e1, e2, e3, e4, e5, e6, e7, e8⟩ := litA_some hlit
      have hg := hs.glob
      obtain ⟨xs, us, el, sz, rfl, r1, r2, r3, r4, r5, r6⟩ := buildSliceA_new (w := w) (prel_ev hg hs.env parts.toList) e8
      obtain rfl : e = el := by rw [e6] at r2; cases r2; rfl
      have hparts : (parts.toList.map fun p => (p.1, a.eval p.2)).toArray = parts.map fun (i, x) => (i, a.eval x) := by
        apply Array.ext'; simp
      rw [hparts] at r1
      have w1 : Region.wanted o (yielded ops a.tmps) = true := by unfold Region.wanted; rw [e3]
      rw [w1]
      simp only [if_true]
      left
      unfold Oper.wp
      have x1 : (execOp a.eval o).run C.P w = .ok (.value (.slice (some ⟨w.heap.size, 0, none⟩) xs.length xs.length)) (w.alloc (.cells us e)) := by
        simp only [execOp, e1, Sem.run_bind, r1, Result.andThen_ok, Sem.run_pure]
      rw [x1, Oper.upon_value, List.length_cons, List.range'_succ]
      simp only [wpOps, hko']
      have w2 : Region.wanted o' (yielded ops (a.put o.dst (.slice (some ⟨w.heap.size, 0, none⟩) xs.length xs.length)).tmps) = true := by unfold Region.wanted; rw [e5]
      rw [w2]
      simp only [if_true]
      left
      unfold Oper.wp
      have hd : d < a.tmps.size := by
        have := hdst k o hko
        rw [hs.size]
        simpa [dstOK, e2] using this
      have ev : (a.put o.dst (.slice (some ⟨w.heap.size, 0, none⟩) xs.length xs.length)).eval (.tmp d) = .slice (some ⟨w.heap.size, 0, none⟩) xs.length xs.length := by
        simp [Act.put, e2, Act.eval, hd]
      have x2 : (execOp (a.put o.dst (.slice (some ⟨w.heap.size, 0, none⟩) xs.length xs.length)).eval o').run C.P (w.alloc (.cells us e)) =
          .ok (.value (.slice (some ⟨w.heap.size, 0, none⟩) xs.length xs.length)) ((w.alloc (.cells us e)).freeze ⟨w.heap.size, us.size, none⟩ 1) := by
        simp only [execOp, e4, ev, Sem.run_bind, lit_run e6 e7, Result.andThen_ok, Sem.run_pure]
      rw [x2, Oper.upon_value]
      have hv := lit_imm (ρ := ρ) hs.step.sim r3 r4 r5 r6 e
      have hstep : StepL lo ρ σ w ρ σ ((w.alloc (.cells us e)).freeze ⟨w.heap.size, us.size, none⟩ 1) := ⟨hs.step.sim.grow lit_below, Ext.grow lit_below, Nat.le_refl _, fun _ _ h => h⟩
      have s1 := hs.next hstep hv (hdst k o hko)
      have s2 := s1.next (.refl s1.step.sim) hv (hdst (k + 1) o' hko')
      rw [e2] at s2
      refine aopsL_ok hdst hK hP n rest (k + 1 + 1) (by omega) hrest2 _ _ ρ _ _ h ?_ hlo
      rw [e2]
      exact s2
    · split at h
      · rename_i hw
        rw [want_ok hs.env (by rw [hs.size]; exact hdst) hw]
        simp only [if_true]
        refine .inl (aop_ok hs hlo (hdst k o hko) h (fun v σ' ρ' w' a' hk' hs' hlo' => ?_) fun p σ' ρ' w' u hk' hv' hs' hlo' => hP p env σ' ρ' w' a u hk' hv' hs' hlo')
        exact aopsL_ok hdst hK hP n (o' :: rest) (k + 1) (by simp only [List.length_cons]; omega) hrest _ _ ρ' w' a' hk' hs' hlo'
      · rename_i hw
        rw [want_ok hs.env (by rw [hs.size]; exact hdst) hw]
        simp only [Bool.false_eq_true, if_false]
        exact aopsL_ok hdst hK hP n (o' :: rest) (k + 1) (by simp only [List.length_cons]; omega) hrest _ _ ρ w _ h (hs.next (.refl hs.step.sim) (u := undef) ⟨[], rfl, rfl⟩ (hdst k o hko)) hlo
      · exact h.elim
end
end Go.Abs
