/-
  AN ABSTRACT SEMANTICS, 26: deferred calls, and what recovers.
-/
import Derived.Test.YtdjbnaleoohafaaGreatDoorAbs25
import Derived.Defers
import Derived.Recover
namespace Go.Abs
open Go Go.RowKit

/-- A deferred call. -/
structure ADef where
  f : FuncId
  args : List AV

def DRel (C : Ctx) (ρ : Map) (σ : Heap) (w : World) : List ADef → List Deferred → Prop
  | [], ds => ds = []
  | d :: r, ds => ∃ x xs cap, ds = x :: xs ∧ x.target = .fn (.func d.f) cap ∧ goodFn C.P d.f = true ∧ LRel ρ σ w d.args (x.args.toList ++ cap.toList) ∧ DRel C ρ σ w r xs

section
variable {C : Ctx} {lo nt : Nat} {ρ₀ : Map} {σ₀ : Heap} {w₀ : World}

theorem DRel.ext {ρ ρ' : Map} {σ σ' : Heap} {w w' : World} (hx : Ext σ.length ρ σ w ρ' σ' w') : ∀ {ads : List ADef} {ds : List Deferred}, DRel C ρ σ w ads ds → DRel C ρ' σ' w' ads ds
  | [], _, h => h
  | d :: r, ds, ⟨x, xs, cap, h1, h2, h3, h4, h5⟩ => ⟨x, xs, cap, h1, h2, h3, lrel_ext hx _ _ (lrel_refs _ _ h4) h4, DRel.ext hx h5⟩

/-- What is known between two operations, deferred calls among it. -/
structure StD (C : Ctx) (lo nt : Nat) (ρ₀ : Map) (σ₀ : Heap) (w₀ : World) (ρ : Map) (σ : Heap) (w : World) (ads : List ADef) (env : Env) (a : Act) : Prop where
  st : St C lo nt a.defers ρ₀ σ₀ w₀ ρ σ w env a
  defs : DRel C ρ σ w ads a.defers

/-- Operations in the order of the text, some of which defer. -/
def aopsD (C : Ctx) (lo : Nat) (ops : Array Oper) : List Oper → (List ADef → Env → Heap → Prop) → List ADef → Env → Heap → Prop
  | [], K, ds, env, σ => K ds env σ
  | o :: rest, K, ds, env, σ => match wantA ops o env with
    | some true => match o.op with
      | .defer { callee := .value fo, args, .. } => match evA C env fo with
        | .func (.func f) first cap => goodFn C.P f = true ∧ aopsD C lo ops rest K (⟨f, first ++ args.toList.map (evA C env) ++ cap⟩ :: ds) (aput env o.dst .undef) σ
        | _ => False
      | _ => aop C lo o (fun v σ' => aopsD C lo ops rest K ds (aput env o.dst v) σ') nope env σ
    | some false => aopsD C lo ops rest K ds (aput env o.dst (.tuple [])) σ
    | none => False

theorem StD.next {ρ ρ' : Map} {σ σ' : Heap} {w w' : World} {ads : List ADef} {env : Env} {a : Act} {o : Oper} {v : AV} {u : Value} (h : StD C lo nt ρ₀ σ₀ w₀ ρ σ w ads env a) (hs : StepL lo ρ σ w ρ' σ' w') (hv : VRel ρ' σ' w' v u) (hd : dstOK nt o = true) :
    StD C lo nt ρ₀ σ₀ w₀ ρ' σ' w' ads (aput env o.dst v) (a.put o.dst u) := by
  have := h.st.next hs hv hd
  have hx := DRel.ext hs.ext h.defs
  have e := put_defers a o.dst u
  exact ⟨by rw [e]; exact this, by rw [e]; exact hx⟩

/-- From here on. -/
theorem StD.here {ρ : Map} {σ : Heap} {w : World} {ads : List ADef} {env : Env} {a : Act} (h : StD C lo nt ρ₀ σ₀ w₀ ρ σ w ads env a) : St C lo nt a.defers ρ σ w ρ σ w env a :=
  ⟨.refl h.st.step.sim, h.st.glob, h.st.env, h.st.size, rfl⟩
theorem StD.on {ρ ρ' : Map} {σ σ' : Heap} {w w' : World} {ads : List ADef} {env env' : Env} {a a' : Act} (h : StD C lo nt ρ₀ σ₀ w₀ ρ σ w ads env a) (h' : St C lo nt a.defers ρ σ w ρ' σ' w' env' a') : StD C lo nt ρ₀ σ₀ w₀ ρ' σ' w' ads env' a' :=
  ⟨⟨h.st.step.trans h'.step, h'.glob, h'.env, h'.size, rfl⟩, by rw [h'.defers]; exact DRel.ext h'.step.ext h.defs⟩

theorem aopsD_ok {ops : Array Oper} {Q : Exit → Act → World → Prop} {K : List ADef → Env → Heap → Prop} (hdst : ∀ (j : Nat) (o : Oper), ops[j]? = some o → dstOK nt o = true)
    (hK : ∀ ads env σ ρ w a, K ads env σ → StD C lo nt ρ₀ σ₀ w₀ ρ σ w ads env a → lo ≤ σ.length → Q .normal a w) : ∀ (l : List Oper) (k : Nat), ops.toList.drop k = l → ∀ (ads : List ADef) (env : Env) (σ : Heap) (ρ : Map) (w : World) (a : Act),
    aopsD C lo ops l K ads env σ → StD C lo nt ρ₀ σ₀ w₀ ρ σ w ads env a → lo ≤ σ.length → wpOps C.P ops Q (List.range' k l.length) a w := by
  intro l
  induction l with
  | nil => intro k _ ads env σ ρ w a h hs hlo; exact hK ads env σ ρ w a h hs hlo
  | cons o rest ih =>
    intro k hk ads env σ ρ w a h hs hlo
    have hko : ops[k]? = some o := by
      have := congrArg (fun l => l[0]?) hk
      simpa [List.getElem?_drop] using this
    have hrest : ops.toList.drop (k + 1) = rest := by
      have := congrArg (List.drop 1) hk
      rw [List.drop_drop] at this
      simpa [Nat.add_comm] using this
    rw [List.length_cons, List.range'_succ]
    simp only [wpOps, hko]
    simp only [aopsD] at h
    split at h
    · rename_i hw
      rw [want_ok hs.st.env (by rw [hs.st.size]; exact hdst) hw]
      simp only [if_true]
      left
      split at h
      · rename_i fo args ta hop
        split at h
        · rename_i f first cap hf
          obtain ⟨hg, h⟩ := h
          have hfv := evA_ok hs.st.glob hs.st.env fo
          rw [hf] at hfv
          obtain ⟨vs, us, hfv, l1, l2⟩ := hfv
          have hrun : (execOp a.eval o).run C.P w = .ok (.defer { target := .fn (.func f) us.toArray, args := vs.toArray ++ args.map a.eval }) w := by
            simp [execOp, hop, resolve, hfv, Deferred.ofValue]
          unfold Oper.wp
          rw [hrun, Oper.upon_defer]
          refine ih (k + 1) hrest _ _ σ ρ w _ h ?_ hlo
          have hd := hdst k o hko
          have base : St C lo nt ({ target := .fn (.func f) us.toArray, args := vs.toArray ++ args.map a.eval } :: a.defers) ρ₀ σ₀ w₀ ρ σ w env { a with defers := { target := .fn (.func f) us.toArray, args := vs.toArray ++ args.map a.eval } :: a.defers } :=
            ⟨hs.st.step, hs.st.glob, hs.st.env, hs.st.size, rfl⟩
          have drel : DRel C ρ σ w (⟨f, first ++ args.toList.map (evA C env) ++ cap⟩ :: ads) ({ target := .fn (.func f) us.toArray, args := vs.toArray ++ args.map a.eval } :: a.defers) := by
            refine ⟨_, _, us.toArray, rfl, rfl, hg, ?_, hs.defs⟩
            have := lrel_append (lrel_append l1 (lrel_ev hs.st.glob hs.st.env args.toList)) l2
            simpa using this
          exact (StD.mk base drel).next (.refl hs.st.step.sim) (v := .undef) (u := undef) trivial hd
        · exact h.elim
      · exact aop_ok hs.here hlo (hdst k o hko) h (fun v σ' ρ' w' a' hk' hs' hlo' => ih (k + 1) hrest _ _ σ' ρ' w' a' hk' (hs.on hs') hlo') fun _ _ _ _ _ hf => hf.elim
    · rename_i hw
      rw [want_ok hs.st.env (by rw [hs.st.size]; exact hdst) hw]
      simp only [Bool.false_eq_true, if_false]
      exact ih (k + 1) hrest _ _ σ ρ w _ h (hs.next (.refl hs.st.step.sim) (u := undef) ⟨[], rfl, rfl⟩ (hdst k o hko)) hlo
    · exact h.elim

/-- What code comes to, some of which defers. -/
inductive ExecD (C : Ctx) (lo : Nat) : Code → List ADef → Env → Heap → AExit → List ADef → Env → Heap → Prop
  | plain {c ds env σ ex env' σ'} (h : Exec C lo c env σ ex env' σ') : ExecD C lo c ds env σ ex ds env' σ'
  | region {id ops ds env σ ds' env' σ'} (h : aopsD C lo ops ops.toList (fun d e s => d = ds' ∧ e = env' ∧ s = σ') ds env σ) : ExecD C lo (.region id ops false) ds env σ .normal ds' env' σ'
  | seq {a b ds env σ ds₁ env₁ σ₁ ex ds₂ env₂ σ₂} (h : ExecD C lo a ds env σ .normal ds₁ env₁ σ₁) (k : ExecD C lo b ds₁ env₁ σ₁ ex ds₂ env₂ σ₂) : ExecD C lo (.seq a b) ds env σ ex ds₂ env₂ σ₂
  | seqOut {a b ds env σ ex ds₁ env₁ σ₁} (h : ExecD C lo a ds env σ ex ds₁ env₁ σ₁) (hx : ex ≠ .normal) : ExecD C lo (.seq a b) ds env σ ex ds₁ env₁ σ₁

def EndsD (C : Ctx) (lo nt : Nat) (ρ₀ : Map) (σ₀ : Heap) (w₀ : World) (ex : AExit) (ads : List ADef) (env' : Env) (σ' : Heap) (e : Exit) (a' : Act) (w' : World) : Prop :=
  ∃ ρ', IsExit ρ' σ' w' ex e ∧ StD C lo nt ρ₀ σ₀ w₀ ρ' σ' w' ads env' a'

theorem execD_ok (hm : C.P.follows .mixedOrders = true) (hlo : lo ≤ σ₀.length) {c : Code} {ds : List ADef} {env : Env} {σ : Heap} {ex : AExit} {ds' : List ADef} {env' : Env} {σ' : Heap} (h : ExecD C lo c ds env σ ex ds' env' σ') :
    codeOK nt c = true → ∀ (ρ : Map) (w : World) (a : Act), StD C lo nt ρ₀ σ₀ w₀ ρ σ w ds env a → c.wp C.P (EndsD C lo nt ρ₀ σ₀ w₀ ex ds' env' σ') a w := by
  induction h with
  | plain h =>
    intro hok ρ w a hs
    refine wp_mono (exec_ok hm (Nat.le_trans hlo hs.st.step.len) h hok ρ w a hs.here) fun e a' w' he => ?_
    obtain ⟨ρ', h1, h2⟩ := he
    exact ⟨ρ', h1, hs.on h2⟩
  | @region id ops ds env σ ds' env' σ' h =>
    intro hok ρ w a hs
    have := aopsD_ok (Q := EndsD C lo nt ρ₀ σ₀ w₀ .normal ds' env' σ') (dst_of_ok hok) (fun d e s ρ w a hk hs _ => by obtain ⟨rfl, rfl, rfl⟩ := hk; exact ⟨ρ, rfl, hs⟩) ops.toList 0 (by simp) ds env σ ρ w a h hs (Nat.le_trans hlo hs.st.step.len)
    rw [Array.length_toList, ← List.range_eq_range'] at this
    exact wp_region this
  | seq _ _ ih1 ih2 =>
    intro hok ρ w a hs
    simp only [codeOK, Bool.and_eq_true] at hok
    refine wp_seq (wp_mono (ih1 hok.1 ρ w a hs) fun e a' w' he => ?_)
    obtain ⟨ρ', rfl, hs'⟩ := he
    exact ih2 hok.2 ρ' w' a' hs'
  | seqOut _ hx ih =>
    intro hok ρ w a hs
    simp only [codeOK, Bool.and_eq_true] at hok
    refine wp_seq (wp_mono (ih hok.1 ρ w a hs) fun e a' w' he => ?_)
    have hn : e ≠ .normal := by obtain ⟨_, h1, _⟩ := he; exact h1.normal hx
    cases e <;> first | exact absurd rfl hn | exact he

/-! What recovers. -/
/-- How a call that defers leaves: it returns, it panics, it panicked and has recovered. -/
inductive AMode where
  | ret
  | pan (p : AV)
  | rcv (p : AV)
def MRel (ρ : Map) (σ : Heap) (w : World) : AMode → FrameMode → Prop
  | .ret, u => u = .returning
  | .pan p, u => ∃ v, u = .panicking [{ v, recovered := false }] ∧ VRel ρ σ w p v
  | .rcv p, u => ∃ v, u = .panicking [{ v, recovered := true }] ∧ VRel ρ σ w p v
theorem MRel.ext {ρ ρ' : Map} {σ σ' : Heap} {w w' : World} (hx : Ext σ.length ρ σ w ρ' σ' w') {m : AMode} {u : FrameMode} (h : MRel ρ σ w m u) : MRel ρ' σ' w' m u := by
  cases m with
  | ret => exact h
  | pan p => obtain ⟨v, h1, h2⟩ := h; exact ⟨v, h1, vrel_ext hx _ _ (vrel_refs _ _ h2) h2⟩
  | rcv p => obtain ⟨v, h1, h2⟩ := h; exact ⟨v, h1, vrel_ext hx _ _ (vrel_refs _ _ h2) h2⟩

/-- Operations in the order of the text, some of which recover. -/
def aopsR (C : Ctx) (lo : Nat) (ops : Array Oper) : List Oper → (AMode → Env → Heap → Prop) → AMode → Env → Heap → Prop
  | [], K, m, env, σ => K m env σ
  | o :: rest, K, m, env, σ => match wantA ops o env with
    | some true => match o.op with
      | .call { callee := .builtin .recover, .. } => match m with
        | .pan p => aopsR C lo ops rest K (.rcv p) (aput env o.dst p) σ
        | m => aopsR C lo ops rest K m (aput env o.dst .niliface) σ
      | _ => aop C lo o (fun v σ' => aopsR C lo ops rest K m (aput env o.dst v) σ') nope env σ
    | some false => aopsR C lo ops rest K m (aput env o.dst (.tuple [])) σ
    | none => False

/-- The callers of a deferred call: the first one's mode is known. -/
def CRelM (ρ : Map) (σ : Heap) (w : World) (c₀ : Frame) (cs₀ : List Frame) (m : AMode) (cs : List Frame) : Prop := ∃ u, cs = { c₀ with mode := u } :: cs₀ ∧ MRel ρ σ w m u

theorem recoverD_pan {ρ : Map} {σ : Heap} {w : World} {c₀ : Frame} {cs₀ cs : List Frame} {p : AV} (h : CRelM ρ σ w c₀ cs₀ (.pan p) cs) : ∃ v cs', recoverD cs = some (v, cs') ∧ VRel ρ σ w p v ∧ CRelM ρ σ w c₀ cs₀ (.rcv p) cs' := by
  obtain ⟨u, rfl, v, rfl, hv⟩ := h
  exact ⟨v, _, rfl, hv, _, rfl, v, rfl, hv⟩
theorem recoverD_none {ρ : Map} {σ : Heap} {w : World} {c₀ : Frame} {cs₀ cs : List Frame} {m : AMode} (hm : ∀ p, m ≠ .pan p) (h : CRelM ρ σ w c₀ cs₀ m cs) : recoverD cs = none := by
  obtain ⟨u, rfl, h⟩ := h
  cases m with
  | ret => obtain rfl := h; rfl
  | pan p => exact absurd rfl (hm p)
  | rcv p => obtain ⟨v, rfl, _⟩ := h; rfl

/-- An operation that does not panic, where what recovers is looked at too. -/
theorem upon_none {P : Program} {o : Oper} {a : Act} {w : World} {cs : List Frame} {next : Act → World → Prop} {nextR : Act → List Frame → World → Prop} {Q : Exit → Act → List Frame → World → Prop} (h : o.wp P a w next fun _ _ _ => False) :
    match (execOp a.eval o).run P w with
    | .ok .recover w' =>
      match recoverD cs with
      | some (v, cs') => nextR (a.put o.dst v) cs' w'
      | none => nextR (a.put o.dst .nilIface) cs w'
    | r => o.upon P a next (fun e a' w' => Q e a' cs w') r := by
  unfold Oper.wp at h
  generalize (execOp a.eval o).run P w = r at h ⊢
  cases r with
  | ok n w' =>
    cases n <;> simp only [Oper.upon] at h ⊢
    all_goals first
      | exact h
      | exact h.elim
      | (refine Calls.mono h fun e w'' he => ?_
         cases e with
         | returned v => exact he
         | panicked chain => exact he.elim
         | outgrown => obtain ⟨_, _, hf⟩ := he; exact hf.elim)
  | halt x w' => cases x <;> simp only [Oper.upon] at h ⊢

theorem aopsR_ok {ops : Array Oper} {c₀ : Frame} {cs₀ : List Frame} {Q : Exit → Act → List Frame → World → Prop} {K : AMode → Env → Heap → Prop} (hdst : ∀ (j : Nat) (o : Oper), ops[j]? = some o → dstOK nt o = true)
    (hK : ∀ m env σ ρ w a cs, K m env σ → St C lo nt [] ρ₀ σ₀ w₀ ρ σ w env a → CRelM ρ σ w c₀ cs₀ m cs → lo ≤ σ.length → Q .normal a cs w) : ∀ (l : List Oper) (k : Nat), ops.toList.drop k = l → ∀ (m : AMode) (env : Env) (σ : Heap) (ρ : Map) (w : World) (a : Act) (cs : List Frame),
    aopsR C lo ops l K m env σ → St C lo nt [] ρ₀ σ₀ w₀ ρ σ w env a → CRelM ρ σ w c₀ cs₀ m cs → lo ≤ σ.length → wpOpsS C.P ops Q (List.range' k l.length) a cs w := by
  intro l
  induction l with
  | nil => intro k _ m env σ ρ w a cs h hs hc hlo; exact hK m env σ ρ w a cs h hs hc hlo
  | cons o rest ih =>
    intro k hk m env σ ρ w a cs h hs hc hlo
    have hko : ops[k]? = some o := by
      have := congrArg (fun l => l[0]?) hk
      simpa [List.getElem?_drop] using this
    have hrest : ops.toList.drop (k + 1) = rest := by
      have := congrArg (List.drop 1) hk
      rw [List.drop_drop] at this
      simpa [Nat.add_comm] using this
    rw [List.length_cons, List.range'_succ]
    simp only [wpOpsS, hko]
    simp only [aopsR] at h
    split at h
    · rename_i hw
      rw [want_ok hs.env (by rw [hs.size]; exact hdst) hw]
      simp only [if_true]
      split at h
      · rename_i args ta hop
        have hrun : (execOp a.eval o).run C.P w = .ok .recover w := by
          simp [execOp, hop, resolve, invoke, builtin]
        rw [hrun]
        simp only
        split at h
        · rename_i p
          obtain ⟨v, cs', h1, h2, h3⟩ := recoverD_pan hc
          rw [h1]
          exact ih (k + 1) hrest _ _ σ ρ w _ _ h (hs.next (.refl hs.step.sim) h2 (hdst k o hko)) h3 hlo
        · rename_i hnp
          rw [recoverD_none (fun p e => hnp p e) hc]
          exact ih (k + 1) hrest _ _ σ ρ w _ _ h (hs.next (.refl hs.step.sim) rfl (hdst k o hko)) hc hlo
      · rename_i hnr
        have here : St C lo nt [] ρ σ w ρ σ w env a := ⟨.refl hs.step.sim, hs.glob, hs.env, hs.size, hs.defers⟩
        have := aop_ok (Q := fun _ _ _ => False) (next := fun a' w' => wpOpsS C.P ops Q (List.range' (k + 1) rest.length) a' cs w') here hlo (hdst k o hko) h (fun v σ' ρ' w' a' hk' hs' hlo' => ih (k + 1) hrest _ _ σ' ρ' w' a' cs hk' ⟨hs.step.trans hs'.step, hs'.glob, hs'.env, hs'.size, hs'.defers⟩ (by
          obtain ⟨u, h1, h2⟩ := hc
          exact ⟨u, h1, h2.ext hs'.step.ext⟩) hlo') fun _ _ _ _ _ hf => hf.elim
        exact upon_none this
    · rename_i hw
      rw [want_ok hs.env (by rw [hs.size]; exact hdst) hw]
      simp only [Bool.false_eq_true, if_false]
      exact ih (k + 1) hrest _ _ σ ρ w _ _ h (hs.next (.refl hs.step.sim) (u := undef) ⟨[], rfl, rfl⟩ (hdst k o hko)) hc hlo
    · exact h.elim

/-- What the code of a deferred call comes to. -/
inductive ExecR (C : Ctx) (lo : Nat) : Code → AMode → Env → Heap → AExit → AMode → Env → Heap → Prop
  | plain {c m env σ ex env' σ'} (h : Exec C lo c env σ ex env' σ') : ExecR C lo c m env σ ex m env' σ'
  | region {id ops m env σ m' env' σ'} (h : aopsR C lo ops ops.toList (fun d e s => d = m' ∧ e = env' ∧ s = σ') m env σ) : ExecR C lo (.region id ops false) m env σ .normal m' env' σ'
  | seq {a b m env σ m₁ env₁ σ₁ ex m₂ env₂ σ₂} (h : ExecR C lo a m env σ .normal m₁ env₁ σ₁) (k : ExecR C lo b m₁ env₁ σ₁ ex m₂ env₂ σ₂) : ExecR C lo (.seq a b) m env σ ex m₂ env₂ σ₂
  | seqOut {a b m env σ ex m₁ env₁ σ₁} (h : ExecR C lo a m env σ ex m₁ env₁ σ₁) (hx : ex ≠ .normal) : ExecR C lo (.seq a b) m env σ ex m₁ env₁ σ₁

def EndsR (C : Ctx) (lo nt : Nat) (ρ₀ : Map) (σ₀ : Heap) (w₀ : World) (c₀ : Frame) (cs₀ : List Frame) (ex : AExit) (m : AMode) (env' : Env) (σ' : Heap) (e : Exit) (a' : Act) (cs' : List Frame) (w' : World) : Prop :=
  ∃ ρ', IsExit ρ' σ' w' ex e ∧ St C lo nt [] ρ₀ σ₀ w₀ ρ' σ' w' env' a' ∧ CRelM ρ' σ' w' c₀ cs₀ m cs'

theorem execR_ok {c₀ : Frame} {cs₀ : List Frame} (hm : C.P.follows .mixedOrders = true) (hlo : lo ≤ σ₀.length) {c : Code} {m : AMode} {env : Env} {σ : Heap} {ex : AExit} {m' : AMode} {env' : Env} {σ' : Heap} (h : ExecR C lo c m env σ ex m' env' σ') :
    codeOK nt c = true → ∀ (ρ : Map) (w : World) (a : Act) (cs : List Frame), St C lo nt [] ρ₀ σ₀ w₀ ρ σ w env a → CRelM ρ σ w c₀ cs₀ m cs → c.wpS C.P (EndsR C lo nt ρ₀ σ₀ w₀ c₀ cs₀ ex m' env' σ') a cs w := by
  induction h with
  | plain h =>
    intro hok ρ w a cs hs hc
    have here : St C lo nt [] ρ _ w ρ _ w _ a := ⟨.refl hs.step.sim, hs.glob, hs.env, hs.size, hs.defers⟩
    refine wpS_of_wp (wp_mono (exec_ok hm (Nat.le_trans hlo hs.step.len) h hok ρ w a here) fun e a' w' he => ?_)
    obtain ⟨ρ', h1, hs'⟩ := he
    obtain ⟨u, h2, h3⟩ := hc
    exact ⟨ρ', h1, ⟨hs.step.trans hs'.step, hs'.glob, hs'.env, hs'.size, hs'.defers⟩, u, h2, h3.ext hs'.step.ext⟩
  | @region id ops m env σ m' env' σ' h =>
    intro hok ρ w a cs hs hc
    have := aopsR_ok (Q := EndsR C lo nt ρ₀ σ₀ w₀ c₀ cs₀ .normal m' env' σ') (dst_of_ok hok) (fun d e s ρ w a cs hk hs hc _ => by obtain ⟨rfl, rfl, rfl⟩ := hk; exact ⟨ρ, rfl, hs, hc⟩) ops.toList 0 (by simp) m env σ ρ w a cs h hs hc (Nat.le_trans hlo hs.step.len)
    rw [Array.length_toList, ← List.range_eq_range'] at this
    exact wpS_region this
  | seq _ _ ih1 ih2 =>
    intro hok ρ w a cs hs hc
    simp only [codeOK, Bool.and_eq_true] at hok
    refine wpS_seq ?_
    intro b k hb hr
    obtain ⟨e, a', cs', w', he, harr⟩ := ih1 hok.1 ρ w a cs hs hc b k hb hr
    refine ⟨e, a', cs', w', ?_, harr⟩
    obtain ⟨ρ', rfl, hs', hc'⟩ := he
    exact ih2 hok.2 ρ' w' a' cs' hs' hc'
  | seqOut _ hx ih =>
    intro hok ρ w a cs hs hc
    simp only [codeOK, Bool.and_eq_true] at hok
    refine wpS_seq ?_
    intro b k hb hr
    obtain ⟨e, a', cs', w', he, harr⟩ := ih hok.1 ρ w a cs hs hc b k hb hr
    refine ⟨e, a', cs', w', ?_, harr⟩
    have hn : e ≠ .normal := by obtain ⟨_, h1, _⟩ := he; exact h1.normal hx
    cases e <;> first | exact absurd rfl hn | exact he

/-- A contract of a deferred call, by how its caller leaves. -/
def DefOK (C : Ctx) (lo : Nat) (f : FuncId) (args : List AV) (m : AMode) (σ : Heap) (m' : AMode) (σ' : Heap) : Prop :=
  ∀ ρ w (vs : List Value) u, Sim ρ σ w → GRel C ρ σ w → LRel ρ σ w args vs → MRel ρ σ w m u → CallsD C.P f vs.toArray u w fun e u' w' => ∃ ρ' v, e = .returned v ∧ MRel ρ' σ' w' m' u' ∧ StepL lo ρ σ w ρ' σ' w'

theorem def_ok (hm : C.P.follows .mixedOrders = true) {σ : Heap} {f : FuncId} {fn : Func} {c : Code} (hf : C.P.funcs[f]? = some fn) (hb : fn.body = some c) (hc : codeOK fn.ntmps c = true) {args : List AV} (ha : args.length ≤ fn.ntmps) (hlo : lo ≤ σ.length)
    {m m' : AMode} {ex : AExit} {env' : Env} {σ' : Heap} {r : AV} (h : ExecR C lo c m (env0 args) σ ex m' env' σ') (hx : ex = .normal ∨ ex = .ret) (hr : resA C.P σ' env' fn.results.toList = some r) : DefOK C lo f args m σ m' σ' := by
  intro ρ w vs u hs hg hl hu
  have hlen := lrel_len hl
  refine callsD_of_wpS hf hb fun c₀ cs hc₀ => ?_
  have hst : St C lo fn.ntmps [] ρ σ w ρ σ w (env0 args) { tmps := vs.toArray ++ Array.replicate (fn.ntmps - vs.toArray.size) undef, defers := [] } :=
    ⟨.refl hs, hg, env0_rel hl fn.ntmps, by simp; omega, rfl⟩
  have hcm : CRelM ρ σ w c₀ cs m (c₀ :: cs) := ⟨u, by subst hc₀; rfl, hu⟩
  intro b k hb' hr'
  obtain ⟨e, a', cs', w', he, harr⟩ := execR_ok hm hlo h hc ρ w _ _ hst hcm b k hb' hr'
  refine ⟨e, a', cs', w', ?_, harr⟩
  obtain ⟨ρ', h1, hs', u', rfl, hu'⟩ := he
  obtain ⟨v, h2, h3⟩ := resA_ok hs'.step.sim hs'.env hr
  rcases hx with rfl | rfl
  · obtain rfl := h1; exact ⟨hs'.defers, u', rfl, v, h2, ρ', v, rfl, hu', hs'.step⟩
  · obtain rfl := h1; exact ⟨hs'.defers, u', rfl, v, h2, ρ', v, rfl, hu', hs'.step⟩

/-- What has recovered returns. -/
def settleA : AMode → AMode
  | .rcv _ => .ret
  | m => m

/-- The deferred calls of a call that leaves. -/
inductive LeavesA (C : Ctx) (lo : Nat) : List ADef → AMode → Heap → AMode → Heap → Prop
  | nil {m σ} : LeavesA C lo [] m σ m σ
  | cons {d ds m σ m₁ σ₁ m₂ σ₂} (h : DefOK C lo d.f d.args m σ m₁ σ₁) (k : LeavesA C lo ds (settleA m₁) σ₁ m₂ σ₂) : LeavesA C lo (d :: ds) m σ m₂ σ₂

theorem MRel.settle {ρ : Map} {σ : Heap} {w : World} {m : AMode} {u : FrameMode} (h : MRel ρ σ w m u) : MRel ρ σ w (settleA m) (Go.settle u) := by
  cases m with
  | ret => obtain rfl := h; rfl
  | pan p => obtain ⟨v, rfl, h⟩ := h; exact ⟨v, rfl, h⟩
  | rcv p => obtain ⟨v, rfl, h⟩ := h; rfl

theorem MRel.not_run {ρ : Map} {σ : Heap} {w : World} {m : AMode} {u : FrameMode} (h : MRel ρ σ w m u) : u ≠ .run := by
  cases m with
  | ret => obtain rfl := h; simp
  | pan p => obtain ⟨v, rfl, h⟩ := h; simp
  | rcv p => obtain ⟨v, rfl, h⟩ := h; simp

theorem leaves_ok {fn : Func} {R : Ending → World → Prop} {env : Env} {tmps : Array Value} {ρ₀ : Map} {σ₀ : Heap} {w₀ : World} {ads : List ADef} {m : AMode} {σ : Heap} {m' : AMode} {σ' : Heap} (h : LeavesA C lo ads m σ m' σ') (hnr : ∀ p, m ≠ .rcv p)
    (hret : m' = .ret → ∀ ρ w, StepL lo ρ₀ σ₀ w₀ ρ σ' w → EnvRel ρ σ' w env { tmps := tmps, defers := [] } → ∃ v, (results fn tmps).run C.P w = .ok v w ∧ R (.returned v) w)
    (hpan : ∀ p, m' = .pan p → ∀ ρ w u, StepL lo ρ₀ σ₀ w₀ ρ σ' w → VRel ρ σ' w p u → R (.panicked [{ v := u, recovered := false }]) w) :
    ∀ (ρ : Map) (w : World) (ds : List Deferred) (u : FrameMode), StepL lo ρ₀ σ₀ w₀ ρ σ w → GRel C ρ σ w → EnvRel ρ σ w env { tmps := tmps, defers := [] } → DRel C ρ σ w ads ds → MRel ρ σ w m u → Leaves C.P fn tmps R ds u w := by
  induction h with
  | @nil m σ =>
    intro ρ w ds u hst hg he hd hmu
    obtain rfl := hd
    cases m with
    | ret => obtain rfl := hmu; exact hret rfl ρ w hst he
    | pan p => obtain ⟨v, rfl, hv⟩ := hmu; exact hpan p rfl ρ w v hst hv
    | rcv p => exact absurd rfl (hnr p)
  | @cons d ads m σ m₁ σ₁ m₂ σ₂ h k ih =>
    intro ρ w ds u hst hg he hd hmu
    obtain ⟨x, xs, cap, rfl, h1, h2, h3, h4⟩ := hd
    refine ⟨hmu.not_run, _, cap, d.f, x.args ++ cap, h1, ?_, ?_⟩
    · rw [h1]; simp only [invoke]; exact run_callFunc h2 _ 
    · have hcall := h ρ w (x.args.toList ++ cap.toList) u hst.sim hg h3 hmu
      have e : (x.args.toList ++ cap.toList).toArray = x.args ++ cap := by apply Array.ext'; simp
      rw [e] at hcall
      refine hcall.mono fun en u' w' hp => ?_
      obtain ⟨ρ', v, rfl, hmu', hst'⟩ := hp
      refine ih (fun p hp => by cases m₁ <;> simp [settleA] at hp) hret hpan ρ' w' xs (Go.settle u') (hst.trans hst') (hg.ext hst'.ext rfl) (he.ext hst'.ext) (h4.ext hst'.ext) hmu'.settle

/-- A function that defers. -/
theorem fnD_ok (hm : C.P.follows .mixedOrders = true) {σ : Heap} {f : FuncId} {fn : Func} {c : Code} (hf : C.P.funcs[f]? = some fn) (hb : fn.body = some c) (hc : codeOK fn.ntmps c = true) {args : List AV} (ha : args.length ≤ fn.ntmps) (hlo : lo ≤ σ.length)
    {ex : AExit} {ads : List ADef} {env' : Env} {σ₁ σ' : Heap} {m m' : AMode} {r : AV} (h : ExecD C lo c [] (env0 args) σ ex ads env' σ₁) (hx : ((ex = .normal ∨ ex = .ret) ∧ m = .ret) ∨ ∃ p, ex = .pan p ∧ m = .pan p) (hl : LeavesA C lo ads m σ₁ m' σ')
    (hr : (m' = .ret ∧ resA C.P σ' env' fn.results.toList = some r ∧ panOf r = none) ∨ ∃ p, m' = .pan p ∧ r = .tuple [p]) : FnOK C lo f args σ r σ' := by
  intro ρ w vs hs hg hl'
  have hlen := lrel_len hl'
  have hst : StD C lo fn.ntmps ρ σ w ρ σ w [] (env0 args) { tmps := vs.toArray ++ Array.replicate (fn.ntmps - vs.toArray.size) undef, defers := [] } :=
    ⟨⟨.refl hs, hg, env0_rel hl' fn.ntmps, by simp; omega, rfl⟩, rfl⟩
  refine calls_of_wp_defers hf hb (wp_mono (execD_ok hm hlo h hc ρ w _ hst) fun e a' w' he => ?_)
  obtain ⟨ρ', he, hs'⟩ := he
  have key : ∀ u, MRel ρ' σ₁ w' m u → Leaves C.P fn a'.tmps (Post lo ρ σ w r σ') a'.defers u w' := by
    intro u hu
    refine leaves_ok hl ?_ ?_ ?_ ρ' w' a'.defers u hs'.st.step hs'.st.glob (env := env') hs'.st.env hs'.defs hu
    · intro p hp
      rcases hx with ⟨_, rfl⟩ | ⟨p', _, rfl⟩ <;> cases hp
    · intro hm' ρ'' w'' hst'' he''
      rcases hr with ⟨_, h1, h2⟩ | ⟨p, h1, _⟩
      · obtain ⟨v, h3, h4⟩ := resA_ok (fn := fn) hst''.sim he'' h1
        exact ⟨v, h3, by unfold Post; rw [h2]; exact ⟨ρ'', v, rfl, h4, hst''⟩⟩
      · rw [hm'] at h1; cases h1
    · intro p hm' ρ'' w'' u hst'' hv
      rcases hr with ⟨h1, _⟩ | ⟨p', h1, rfl⟩
      · rw [hm'] at h1; cases h1
      · rw [hm'] at h1; cases h1
        exact ⟨ρ'', u, rfl, hv, hst''⟩
  rcases hx with ⟨hx | hx, rfl⟩ | ⟨p, rfl, rfl⟩
  · subst hx; obtain rfl := he; exact key _ rfl
  · subst hx; obtain rfl := he; exact key _ rfl
  · obtain ⟨u, rfl, hv⟩ := he; exact key _ ⟨u, rfl, hv⟩
end
end Go.Abs
