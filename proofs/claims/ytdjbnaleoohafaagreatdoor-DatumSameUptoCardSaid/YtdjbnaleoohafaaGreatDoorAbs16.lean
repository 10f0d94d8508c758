/-
  AN ABSTRACT SEMANTICS, 16: calls, straight code, branches, loops: the abstract conditions and what they give.
-/
import Derived.Test.YtdjbnaleoohafaaGreatDoorAbs15
import Derived.Orders
namespace Go.Abs
open Go Go.RowKit

theorem or_le_mono {a b o : Nat} {p : Prop} (h : b ≤ a) (hq : a ≤ o ∨ p) : b ≤ o ∨ p := hq.imp (fun x => Nat.le_trans h x) id

section
variable {C : Ctx} {lo b : Nat} {env : Env} {σ : Heap}

theorem writeCells_mono (h : b ≤ lo) {cs : List AV} {p : AV} {σ' : Heap} (hw : writeCells lo σ cs p = some σ') : writeCells b σ cs p = some σ' := by
  unfold writeCells at hw ⊢
  split at hw
  · split at hw
    · split at hw
      · rename_i hq; rw [if_pos ⟨hq.1, or_le_mono h hq.2⟩]; exact hw
      · cases hw
    · cases hw
  · split at hw
    · split at hw
      · rename_i hv
        rw [if_pos hv]
        split at hw
        · split at hw
          · rename_i hx hq; rw [if_pos ⟨hq.1, or_le_mono h hq.2.1, hq.2.2⟩]; exact hw
          · cases hw
        · cases hw
      · cases hw
    · cases hw
  · cases hw

theorem storeA_mono (h : b ≤ lo) {P : Program} {T : TypeId} {p x : AV} {σ' : Heap} (hw : storeA P lo σ T p x = some σ') : storeA P b σ T p x = some σ' := by
  unfold storeA at hw ⊢
  split at hw
  · split at hw
    · rename_i hq; rw [if_pos hq]; exact writeCells_mono h hw
    · cases hw
  · cases hw

theorem mapUpdateA_mono (h : b ≤ lo) {P : Program} {T : TypeId} {x k v : AV} {σ' : Heap} (hw : mapUpdateA P lo σ T x k v = some σ') : mapUpdateA P b σ T x k v = some σ' := by
  unfold mapUpdateA at hw ⊢
  split at hw
  · split at hw
    · split at hw
      · rename_i hq; rw [if_pos ⟨hq.1, or_le_mono h hq.2⟩]; exact hw
      · cases hw
    · cases hw
  · cases hw

theorem copyA_mono (h : b ≤ lo) {P : Program} {T : TypeId} {x y : AV} {r : AV × Heap} (hw : copyA P lo σ T x y = some r) : copyA P b σ T x y = some r := by
  unfold copyA at hw ⊢
  split at hw
  · split at hw
    · split at hw
      · split at hw
        · rename_i hes hq; rw [if_pos ⟨hq.1, hq.2.1, hq.2.2.1, or_le_mono h hq.2.2.2⟩]; exact hw
        · cases hw
      · cases hw
    · cases hw
  · cases hw

theorem appendA_mono (h : b ≤ lo) {P : Program} {ts : List TypeId} {x y : AV} {r : AV × Heap} (hw : appendA P lo σ ts x y = some r) : appendA P b σ ts x y = some r := by
  unfold appendA at hw ⊢
  split at hw
  · split at hw
    · split at hw
      · split at hw
        · split at hw
          · rename_i h1
            rw [if_pos h1]
            split at hw
            · rename_i he
              rw [if_pos he]; exact hw
            · rename_i he
              rw [if_neg he]
              split at hw
              · rename_i hq
                rw [if_pos hq]
                split at hw
                · exact hw
                · exact hw
                · split at hw
                  · split at hw
                    · rename_i hw2
                      rw [if_pos ⟨hw2.1, hw2.2.1, hw2.2.2.1, or_le_mono h hw2.2.2.2.1, hw2.2.2.2.2⟩]; exact hw
                    · cases hw
                  · cases hw
                · cases hw
              · cases hw
          · cases hw
        · cases hw
      · cases hw
    · cases hw
  · cases hw

theorem builtinA_mono (h : b ≤ lo) {bi : Builtin} {ta : Array TypeId} {args : List AV} {r : AV × Heap} (hw : builtinA C lo σ bi ta args = some r) : builtinA C b σ bi ta args = some r := by
  unfold builtinA at hw ⊢
  split at hw
  · exact hw
  · exact appendA_mono h hw
  · split at hw
    · exact copyA_mono h hw
    · cases hw
  · exact hw
  · exact hw
  · cases hw

theorem opA_mono (h : b ≤ lo) {o : Oper} {r : AV × Heap} (hw : opA C lo env σ o = some r) : opA C b env σ o = some r := by
  unfold opA at hw ⊢
  split at hw <;> first
    | exact hw
    | (simp only [Option.map_eq_some_iff] at hw ⊢; obtain ⟨s, h1, h2⟩ := hw; first | exact ⟨s, storeA_mono h h1, h2⟩ | exact ⟨s, mapUpdateA_mono h h1, h2⟩)
    | (split at hw
       · exact builtinA_mono h hw
       · cases hw)
    | cases hw
end

/-- What is shown of a step inside a call whose caller's objects begin below 'lo'. -/
structure StepL (lo : Nat) (ρ : Map) (σ : Heap) (w : World) (ρ' : Map) (σ' : Heap) (w' : World) : Prop where
  sim : Sim ρ' σ' w'
  ext : Ext σ.length ρ σ w ρ' σ' w'
  len : σ.length ≤ σ'.length
  closed : ∀ b, b ≤ lo → Closed b σ → Closed b σ'

theorem StepL.refl {lo : Nat} {ρ : Map} {σ : Heap} {w : World} (hs : Sim ρ σ w) : StepL lo ρ σ w ρ σ w := ⟨hs, .refl _ _ _ _, Nat.le_refl _, fun _ _ h => h⟩
theorem StepL.trans {lo : Nat} {ρ ρ' ρ'' : Map} {σ σ' σ'' : Heap} {w w' w'' : World} (h : StepL lo ρ σ w ρ' σ' w') (k : StepL lo ρ' σ' w' ρ'' σ'' w'') : StepL lo ρ σ w ρ'' σ'' w'' :=
  ⟨k.sim, h.ext.trans (k.ext.mono h.len), Nat.le_trans h.len k.len, fun b hb hc => k.closed b hb (h.closed b hb hc)⟩
theorem StepL.mono {lo lo' : Nat} {ρ ρ' : Map} {σ σ' : Heap} {w w' : World} (h : StepL lo ρ σ w ρ' σ' w') (hl : lo' ≤ lo) : StepL lo' ρ σ w ρ' σ' w' :=
  ⟨h.sim, h.ext, h.len, fun b hb => h.closed b (Nat.le_trans hb hl)⟩

section
variable {C : Ctx} {lo : Nat} {ρ : Map} {σ : Heap} {w : World}

theorem opL_ok {env : Env} {a : Act} {o : Oper} {av : AV} {σ' : Heap} (hs : Sim ρ σ w) (hlo : lo ≤ σ.length) (hg : GRel C ρ σ w) (he : EnvRel ρ σ w env a) (h : opA C lo env σ o = some (av, σ')) :
    ∃ ρ' w', StepL lo ρ σ w ρ' σ' w' ∧ ((∃ v, (execOp a.eval o).run C.P w = .ok (.value v) w' ∧ VRel ρ' σ' w' av v) ∨ ((execOp a.eval o).run C.P w = .ok .skip w' ∧ av = .undef)) := by
  have h0 : opA C 0 env σ o = some (av, σ') := opA_mono (Nat.zero_le _) h
  obtain ⟨ρ', w', h1, h2⟩ := opA_ok hs (fun r o hr => by omega) (Nat.zero_le _) hg he h0
  refine ⟨ρ', w', ⟨h1.sim, h1.ext, h1.len, fun b hb hc => ?_⟩, h2⟩
  obtain ⟨_, _, h3, _⟩ := opA_ok hs hc (Nat.le_trans hb hlo) hg he (opA_mono hb h)
  exact h3.closed

/-- A panic, as what a call gives: no call returns a tuple of one. -/
def panOf : AV → Option AV
  | .tuple [p] => some p
  | _ => none
theorem panOf_some {r p : AV} (h : panOf r = some p) : r = .tuple [p] := by
  unfold panOf at h
  split at h
  · cases h; rfl
  · cases h

/-- What a call gives. -/
def Post (lo : Nat) (ρ : Map) (σ : Heap) (w : World) (r : AV) (σ' : Heap) (e : Ending) (w' : World) : Prop :=
  match panOf r with
  | none => ∃ ρ' v, e = .returned v ∧ VRel ρ' σ' w' r v ∧ StepL lo ρ σ w ρ' σ' w'
  | some p => ∃ ρ' v, e = .panicked [{ v, recovered := false }] ∧ VRel ρ' σ' w' p v ∧ StepL lo ρ σ w ρ' σ' w'
/-- The ending itself. -/
def endOf (r : AV) (v : Value) : Ending := match panOf r with
  | none => .returned v
  | some _ => .panicked [{ v, recovered := false }]
def bodyOf (r : AV) : AV := (panOf r).getD r
theorem post_iff {lo : Nat} {ρ : Map} {σ : Heap} {w : World} {r : AV} {σ' : Heap} {e : Ending} {w' : World} : Post lo ρ σ w r σ' e w' ↔ ∃ ρ' v, e = endOf r v ∧ VRel ρ' σ' w' (bodyOf r) v ∧ StepL lo ρ σ w ρ' σ' w' := by
  unfold Post endOf bodyOf
  cases h : panOf r <;> simp

/-- A CONTRACT: called with these arguments over this heap, the function returns this value over that heap. -/
def FnOK (C : Ctx) (lo : Nat) (f : FuncId) (args : List AV) (σ : Heap) (r : AV) (σ' : Heap) : Prop :=
  ∀ ρ w vs, Sim ρ σ w → GRel C ρ σ w → LRel ρ σ w args vs → Calls C.P f vs.toArray w (Post lo ρ σ w r σ')

/-- A function without a body. -/
def ExtOK (C : Ctx) (lo : Nat) (f : FuncId) (args : List AV) (σ : Heap) (r : AV) (σ' : Heap) : Prop :=
  ∀ ρ w vs, Sim ρ σ w → GRel C ρ σ w → LRel ρ σ w args vs → panOf r = none ∧ ∃ ρ' w' v, (callFunc f vs.toArray).run C.P w = .ok (.value v) w' ∧ VRel ρ' σ' w' r v ∧ StepL lo ρ σ w ρ' σ' w'

def goodFn (P : Program) (f : FuncId) : Bool := match P.funcs[f]? with
  | some fn => fn.name != "runtime.NumGoroutine" && fn.body.isSome
  | none => false

def CallOK (C : Ctx) (lo : Nat) (f : FuncId) (args : List AV) (σ : Heap) (r : AV) (σ' : Heap) : Prop :=
  (goodFn C.P f = true ∧ FnOK C lo f args σ r σ') ∨ ExtOK C lo f args σ r σ'

theorem run_callFunc {f : FuncId} (h : goodFn C.P f = true) (args : Array Value) : (callFunc f args).run C.P w = .ok (.enter f args) w := by
  unfold goodFn at h
  split at h
  · rename_i fn hf
    simp only [Bool.and_eq_true, bne_iff_ne, ne_eq] at h
    have hb : fn.body ≠ none := by cases hb : fn.body <;> simp_all
    simp [callFunc, hf, h.1, hb]
  · cases h

/-- The method of a value behind an interface is this function, on the value itself. -/
def MethOK (C : Ctx) (t : TypeId) (name : String) (f : FuncId) : Prop := ∀ (v : Value) (w : World), (method (C.P.types.size + Made.depth) t v name).run C.P w = .ok (f, v) w

/-- No panic. -/
def nope : AV → Heap → Prop := fun _ _ => False

/-- Behind a call: it returned, or it panicked. -/
def afterA (K Kp : AV → Heap → Prop) (r : AV) (σ' : Heap) : Prop := match panOf r with
  | none => K r σ'
  | some p => Kp p σ'

/-- One operation, under what must hold behind it. -/
def aop (C : Ctx) (lo : Nat) (o : Oper) (K Kp : AV → Heap → Prop) (env : Env) (σ : Heap) : Prop :=
  match o.op with
  | .call { callee := .value fo, args, .. } => match evA C env fo with
    | .func (.func f) first cap => ∃ r σ', CallOK C lo f (first ++ args.toList.map (evA C env) ++ cap) σ r σ' ∧ afterA K Kp r σ'
    | _ => False
  | .call { callee := .invoke recv name, args, .. } => match evA C env recv with
    | .iface t v => ∃ f r σ', MethOK C t name f ∧ CallOK C lo f (v :: args.toList.map (evA C env)) σ r σ' ∧ afterA K Kp r σ'
    | _ => False
  | .panic x => match evA C env x with
    | .iface t v => Kp (.iface t v) σ
    | _ => False
  | _ => match opA C lo env σ o with
    | some (v, σ') => K v σ'
    | none => False

def aput (env : Env) (d : Option Tmp) (v : AV) : Env := match d with
  | some d => fun t => if t = d then v else env t
  | none => env

/-- Is an operation wanted: its guard. -/
def wantA (ops : Array Oper) (o : Oper) (env : Env) : Option Bool :=
  match o.guard with
  | none => some true
  | some (j, want) => match (ops[j]?).bind (·.dst) with
    | some d => match env d with
      | .bool b => some (b == want)
      | .tuple _ => some false
      | _ => none
    | none => none

/-- How code ends. -/
inductive AExit where
  | normal
  | exit (id : Nat)
  | ret
  | goto (l : Nat)
  | pan (v : AV)

/-- Operations in the order of the text. -/
def aops (C : Ctx) (lo : Nat) (ops : Array Oper) : List Oper → (AExit → Env → Heap → Prop) → Env → Heap → Prop
  | [], K, env, σ => K .normal env σ
  | o :: rest, K, env, σ => match wantA ops o env with
    | some true => aop C lo o (fun v σ' => aops C lo ops rest K (aput env o.dst v) σ') (fun p σ' => K (.pan p) env σ') env σ
    | some false => aops C lo ops rest K (aput env o.dst (.tuple [])) σ
    | none => False

/-- What is known between two operations. -/
structure St (C : Ctx) (lo nt : Nat) (ds : List Deferred) (ρ₀ : Map) (σ₀ : Heap) (w₀ : World) (ρ : Map) (σ : Heap) (w : World) (env : Env) (a : Act) : Prop where
  step : StepL lo ρ₀ σ₀ w₀ ρ σ w
  glob : GRel C ρ σ w
  env : EnvRel ρ σ w env a
  size : a.tmps.size = nt
  defers : a.defers = ds

def dstOK (nt : Nat) (o : Oper) : Bool := match o.dst with
  | some d => decide (d < nt)
  | none => true

theorem GRel.ext {n : Nat} {ρ' : Map} {σ' : Heap} {w' : World} (h : GRel C ρ σ w) (hx : Ext n ρ σ w ρ' σ' w') (hn : n = σ.length) : GRel C ρ' σ' w' := fun g cs hg =>
  vrel_ext hx _ _ (hn ▸ vrel_refs _ _ (h g cs hg)) (h g cs hg)

theorem EnvRel.ext {ρ' : Map} {σ' : Heap} {w' : World} {env : Env} {a : Act} (h : EnvRel ρ σ w env a) (hx : Ext σ.length ρ σ w ρ' σ' w') : EnvRel ρ' σ' w' env a := fun t =>
  vrel_ext hx _ _ (vrel_refs _ _ (h t)) (h t)

theorem EnvRel.put {env : Env} {a : Act} {o : Oper} {v : AV} {u : Value} (h : EnvRel ρ σ w env a) (hv : VRel ρ σ w v u) (hd : dstOK a.tmps.size o = true) : EnvRel ρ σ w (aput env o.dst v) (a.put o.dst u) := by
  intro t
  unfold aput Act.put
  unfold dstOK at hd
  cases hdst : o.dst with
  | none => exact h t
  | some d =>
    simp only [hdst, decide_eq_true_eq] at hd
    simp only
    by_cases ht : t = d
    · subst ht
      rw [if_pos rfl]
      simpa [hd] using hv
    · rw [if_neg ht]
      have := h t
      simpa [Array.getElem?_setIfInBounds_ne (Ne.symm ht)] using this

theorem put_size (a : Act) (d : Option Tmp) (v : Value) : (a.put d v).tmps.size = a.tmps.size := by cases d <;> simp [Act.put]
theorem put_defers (a : Act) (d : Option Tmp) (v : Value) : (a.put d v).defers = a.defers := by cases d <;> rfl

variable {nt : Nat} {ds : List Deferred} {ρ₀ : Map} {σ₀ : Heap} {w₀ : World}

theorem St.next {env : Env} {a : Act} {o : Oper} {ρ' : Map} {σ' : Heap} {w' : World} {v : AV} {u : Value} (h : St C lo nt ds ρ₀ σ₀ w₀ ρ σ w env a) (hs : StepL lo ρ σ w ρ' σ' w') (hv : VRel ρ' σ' w' v u) (hd : dstOK nt o = true) :
    St C lo nt ds ρ₀ σ₀ w₀ ρ' σ' w' (aput env o.dst v) (a.put o.dst u) where
  step := h.step.trans hs
  glob := h.glob.ext hs.ext rfl
  env := (h.env.ext hs.ext).put hv (by rw [h.size]; exact hd)
  size := by rw [put_size]; exact h.size
  defers := by rw [put_defers]; exact h.defers

theorem want_ok {env : Env} {a : Act} {ops : Array Oper} {o : Oper} {b : Bool} (he : EnvRel ρ σ w env a) (hd : ∀ (j : Nat) (o' : Oper), ops[j]? = some o' → dstOK a.tmps.size o' = true) (h : wantA ops o env = some b) : Region.wanted o (yielded ops a.tmps) = b := by
  unfold wantA at h
  unfold Region.wanted
  cases hg : o.guard with
  | none => simp only [hg, Option.some.injEq] at h; subst h; rfl
  | some jw =>
    obtain ⟨j, want⟩ := jw
    simp only [hg] at h
    simp only
    split at h
    · rename_i d hdst
      have hd' : d < a.tmps.size := by
        cases ho : ops[j]? with
        | none => simp [ho] at hdst
        | some o' =>
          have := hd j o' ho
          simp only [ho, Option.bind_some] at hdst
          simpa [dstOK, hdst] using this
      have hv := he d
      have hget : a.tmps[d]? = some (a.tmps.getD d undef) := by simp [hd']
      split at h
      · rename_i c hc
        rw [hc] at hv
        simp only [VRel] at hv
        cases h
        simp only [yielded, hdst, Option.bind_some, hget, hv]
        cases c <;> cases want <;> rfl
      · rename_i l hc
        rw [hc] at hv
        obtain ⟨vs, hv, _⟩ := hv
        cases h
        simp only [yielded, hdst, Option.bind_some, hget, hv]
        rfl
      · cases h
    · cases h

/-- One operation, shown of the model. -/
theorem aop_ok {env : Env} {a : Act} {o : Oper} {K Kp : AV → Heap → Prop} {next : Act → World → Prop} {Q : Exit → Act → World → Prop} (hs : St C lo nt ds ρ₀ σ₀ w₀ ρ σ w env a) (hlo : lo ≤ σ.length) (hd : dstOK nt o = true)
    (h : aop C lo o K Kp env σ) (hK : ∀ v σ' ρ' w' a', K v σ' → St C lo nt ds ρ₀ σ₀ w₀ ρ' σ' w' (aput env o.dst v) a' → lo ≤ σ'.length → next a' w')
    (hP : ∀ p σ' ρ' w' u, Kp p σ' → VRel ρ' σ' w' p u → St C lo nt ds ρ₀ σ₀ w₀ ρ' σ' w' env a → lo ≤ σ'.length → Q (.panic [{ v := u, recovered := false }]) a w') : o.wp C.P a w next Q := by
  have ev := fun x => evA_ok hs.glob hs.env x
  have plain : ∀ {av : AV} {σ' : Heap}, opA C lo env σ o = some (av, σ') → K av σ' → o.wp C.P a w next Q := by
    intro av σ' ho hk
    obtain ⟨ρ', w', h1, h2⟩ := opL_ok hs.step.sim hlo hs.glob hs.env ho
    unfold Oper.wp
    rcases h2 with ⟨v, h2, h3⟩ | ⟨h2, h3⟩
    · rw [h2]; exact hK _ _ _ _ _ hk (hs.next h1 h3 hd) (Nat.le_trans hlo h1.len)
    · rw [h2]; exact hK _ _ _ _ _ hk (hs.next h1 (by subst h3; trivial) hd) (Nat.le_trans hlo h1.len)
  have called : ∀ {f : FuncId} {args : List AV} {vs : List Value} {r : AV} {σ' : Heap}, LRel ρ σ w args vs → (execOp a.eval o).run C.P w = (callFunc f vs.toArray).run C.P w → CallOK C lo f args σ r σ' → afterA K Kp r σ' → o.wp C.P a w next Q := by
    intro f args vs r σ' hl hrun hc hk
    unfold Oper.wp
    rw [hrun]
    rcases hc with ⟨hgood, hc⟩ | hc
    · rw [run_callFunc hgood]
      refine (hc ρ w vs hs.step.sim hs.glob hl).mono fun e w' hp => ?_
      unfold Post at hp
      unfold afterA at hk
      split at hp
      · rename_i hn
        rw [hn] at hk
        obtain ⟨ρ', v, rfl, h1, h2⟩ := hp
        exact hK _ _ _ _ _ hk (hs.next h2 h1 hd) (Nat.le_trans hlo h2.len)
      · rename_i p hn
        rw [hn] at hk
        obtain ⟨ρ', v, rfl, h1, h2⟩ := hp
        exact hP _ _ _ _ _ hk h1 ⟨hs.step.trans h2, hs.glob.ext h2.ext rfl, hs.env.ext h2.ext, hs.size, hs.defers⟩ (Nat.le_trans hlo h2.len)
    · obtain ⟨hn, ρ', w', v, h1, h2, h3⟩ := hc ρ w vs hs.step.sim hs.glob hl
      unfold afterA at hk
      rw [hn] at hk
      rw [h1]
      exact hK _ _ _ _ _ hk (hs.next h3 h2 hd) (Nat.le_trans hlo h3.len)
  unfold aop at h
  split at h
  · rename_i fo args ta hop
    split at h
    · rename_i f first cap hf
      obtain ⟨r, σ', h1, h2⟩ := h
      have hfv := ev fo
      rw [hf] at hfv
      obtain ⟨vs, us, hfv, l1, l2⟩ := hfv
      refine called (vs := vs ++ args.toList.map a.eval ++ us) (lrel_append (lrel_append l1 (lrel_ev hs.glob hs.env _)) l2) ?_ h1 h2
      simp only [execOp, hop, resolve, hfv, Deferred.ofValue, Sem.run_bind, Sem.run_pure, Result.andThen_ok, invoke]
      congr 2
      apply Array.ext'; simp
    · exact h.elim
  · rename_i recv name args ta hop
    split at h
    · rename_i t v hf
      obtain ⟨f, r, σ', hm, h1, h2⟩ := h
      have hfv := ev recv
      rw [hf] at hfv
      obtain ⟨u, hfv, hv⟩ := hfv
      have hl : LRel ρ σ w (v :: args.toList.map (evA C env)) (u :: args.toList.map a.eval) := ⟨u, _, rfl, hv, lrel_ev hs.glob hs.env _⟩
      refine called hl ?_ h1 h2
      simp only [execOp, hop, resolve, Sem.run_bind, Sem.run_pure, Result.andThen_ok, invoke, hfv]
      have hget : (#[Value.iface t u] ++ args.map a.eval)[0]? = some (.iface t u) := by
        rw [Array.getElem?_append_left (Nat.zero_lt_one)]; rfl
      simp only [hget, callMethod, Sem.run_bind, run_program, Result.andThen_ok, hm u w]
      congr 2
      apply Array.ext'
      simp
      rw [List.take_of_length_le (by simp)]
    · exact h.elim
  · rename_i x hop
    split at h
    · rename_i t v hf
      have hfv := ev x
      rw [hf] at hfv
      obtain ⟨u, hfv, hv⟩ := hfv
      have hrun : (execOp a.eval o).run C.P w = .halt (.panic (.iface t u)) w := by simp [execOp, hop, hfv, Instr.panic, goPanic]
      unfold Oper.wp
      rw [hrun]
      exact hP _ _ _ _ _ h ⟨u, rfl, hv⟩ hs hlo
    · exact h.elim
  · split at h
    · rename_i v σ' ho
      exact plain ho h
    · exact h.elim

theorem aops_ok {ops : Array Oper} {Q : Exit → Act → World → Prop} {K : AExit → Env → Heap → Prop} (hdst : ∀ (j : Nat) (o : Oper), ops[j]? = some o → dstOK nt o = true)
    (hK : ∀ env σ ρ w a, K .normal env σ → St C lo nt ds ρ₀ σ₀ w₀ ρ σ w env a → lo ≤ σ.length → Q .normal a w)
    (hP : ∀ p env σ ρ w a u, K (.pan p) env σ → VRel ρ σ w p u → St C lo nt ds ρ₀ σ₀ w₀ ρ σ w env a → lo ≤ σ.length → Q (.panic [{ v := u, recovered := false }]) a w) : ∀ (l : List Oper) (k : Nat), ops.toList.drop k = l → ∀ (env : Env) (σ : Heap) (ρ : Map) (w : World) (a : Act),
    aops C lo ops l K env σ → St C lo nt ds ρ₀ σ₀ w₀ ρ σ w env a → lo ≤ σ.length → wpOps C.P ops Q (List.range' k l.length) a w := by
  intro l
  induction l with
  | nil => intro k _ env σ ρ w a h hs hlo; exact hK env σ ρ w a h hs hlo
  | cons o rest ih =>
    intro k hk env σ ρ w a h hs hlo
    have hko : ops[k]? = some o := by
      have := congrArg (fun l => l[0]?) hk
      simpa [List.getElem?_drop] using this
    have hrest : ops.toList.drop (k + 1) = rest := by
      have := congrArg (List.drop 1) hk
      rw [List.drop_drop] at this
      simpa [Nat.add_comm] using this
    rw [List.length_cons, List.range'_succ]
    simp only [wpOps, hko]
    simp only [aops] at h
    split at h
    · rename_i hw
      rw [want_ok hs.env (by rw [hs.size]; exact hdst) hw]
      simp only [if_true]
      refine .inl (aop_ok hs hlo (hdst k o hko) h (fun v σ' ρ' w' a' hk' hs' hlo' => ih (k + 1) hrest _ _ ρ' w' a' hk' hs' hlo') fun p σ' ρ' w' u hk' hv' hs' hlo' => hP p env σ' ρ' w' a u hk' hv' hs' hlo')
    · rename_i hw
      rw [want_ok hs.env (by rw [hs.size]; exact hdst) hw]
      simp only [Bool.false_eq_true, if_false]
      exact ih (k + 1) hrest _ _ ρ w _ h (hs.next (.refl hs.step.sim) (u := undef) ⟨[], rfl, rfl⟩ (hdst k o hko)) hlo
    · exact h.elim
end
end Go.Abs
