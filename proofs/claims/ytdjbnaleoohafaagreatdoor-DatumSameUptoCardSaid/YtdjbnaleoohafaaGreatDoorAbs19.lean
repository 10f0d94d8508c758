/-
  AN ABSTRACT SEMANTICS, 19: code and functions.
-/
import Derived.Test.YtdjbnaleoohafaaGreatDoorAbs18e
import Derived.Scope
namespace Go.Abs
open Go Go.RowKit

/-- An ending, of the model. -/
def IsExit (ρ : Map) (σ : Heap) (w : World) : AExit → Exit → Prop
  | .normal, e => e = .normal
  | .exit id, e => e = .exit id
  | .ret, e => e = .ret
  | .goto l, e => e = .goto l
  | .pan p, e => ∃ u, e = .panic [{ v := u, recovered := false }] ∧ VRel ρ σ w p u
theorem IsExit.normal {ρ : Map} {σ : Heap} {w : World} {ex : AExit} {e : Exit} (h : IsExit ρ σ w ex e) (hx : ex ≠ .normal) : e ≠ .normal := by
  cases ex with
  | normal => exact absurd rfl hx
  | pan p => obtain ⟨u, rfl, _⟩ := h; simp
  | _ => cases h; simp

mutual
/-- What code comes to. -/
inductive Exec (C : Ctx) (lo : Nat) : Code → Env → Heap → AExit → Env → Heap → Prop
  | skip {env σ} : Exec C lo .skip env σ .normal env σ
  | label {l env σ} : Exec C lo (.label l) env σ .normal env σ
  | region {id ops env σ ex env' σ'} (h : aops C lo ops ops.toList (fun x e s => x = ex ∧ e = env' ∧ s = σ') env σ) : Exec C lo (.region id ops false) env σ ex env' σ'
  | lits {id ops env σ ex env' σ'} (h : aopsL C lo ops ops.toList (fun x e s => x = ex ∧ e = env' ∧ s = σ') env σ) : Exec C lo (.region id ops false) env σ ex env' σ'
  | draw {id ops env σ env' σ'} (h : DrawOK C lo ops env σ env' σ') : Exec C lo (.region id ops true) env σ .normal env' σ'
  | drawR {id ops env σ env' σ'} (h : DrawOKR C lo ops env σ env' σ') : Exec C lo (.region id ops true) env σ .normal env' σ'
  | drawP {id ops env σ p σ'} (h : DrawPan C lo ops env σ p σ') : Exec C lo (.region id ops true) env σ (.pan p) (envU ops env) σ'
  | seq {a b env σ env₁ σ₁ ex env₂ σ₂} (h : Exec C lo a env σ .normal env₁ σ₁) (k : Exec C lo b env₁ σ₁ ex env₂ σ₂) : Exec C lo (.seq a b) env σ ex env₂ σ₂
  | seqOut {a b env σ ex env₁ σ₁} (h : Exec C lo a env σ ex env₁ σ₁) (hx : ex ≠ .normal) : Exec C lo (.seq a b) env σ ex env₁ σ₁
  | fork {id ops b env σ ex env' σ'} (e1 e2 : List Nat → Env) (s1 : List Nat → Heap)
      (h1 : ∀ ord, ord ∈ allOrders ops ops.size (Array.replicate ops.size false) → aopsI C lo ops ord (fun x e s => x = .normal ∧ e = e1 ord ∧ s = s1 ord) env σ)
      (hc : ∀ ord, ord ∈ allOrders ops ops.size (Array.replicate ops.size false) → ∀ r o, r < σ.length → (s1 ord)[r]? = some o → o.refsB σ.length = true)
      (h2 : ∀ ord, ord ∈ allOrders ops ops.size (Array.replicate ops.size false) → Exec C lo b (dropE σ.length (e1 ord)) ((s1 ord).take σ.length) ex (e2 ord) σ')
      (h3 : ∀ ord, ord ∈ allOrders ops ops.size (Array.replicate ops.size false) → ∀ x, env' x = .undef ∨ env' x = e2 ord x) : Exec C lo (.seq (.region id ops true) b) env σ ex env' σ'
  | condT {c x y env σ ex env' σ'} (hc : evA C env c = .bool true) (h : Exec C lo x env σ ex env' σ') : Exec C lo (.cond c x y) env σ ex env' σ'
  | condF {c x y env σ ex env' σ'} (hc : evA C env c = .bool false) (h : Exec C lo y env σ ex env' σ') : Exec C lo (.cond c x y) env σ ex env' σ'
  | blockIn {id b env σ env' σ'} (h : Exec C lo b env σ (.exit id) env' σ') : Exec C lo (.block id b) env σ .normal env' σ'
  | blockOut {id b env σ ex env' σ'} (h : Exec C lo b env σ ex env' σ') (hx : ex ≠ .exit id) : Exec C lo (.block id b) env σ ex env' σ'
  | loop {b env σ ex env' σ'} (h : ExecL C lo b env σ ex env' σ') : Exec C lo (.loop b) env σ ex env' σ'
  | exit {id env σ} : Exec C lo (.exit id) env σ (.exit id) env σ
  | goto {l env σ} : Exec C lo (.goto l) env σ (.goto l) env σ
  | ret {env σ} : Exec C lo .ret env σ .ret env σ
  | scope {b env σ ex env' σ'} (h : ExecS C lo b b env σ ex env' σ') : Exec C lo (.scope b) env σ ex env' σ'
/-- What the rounds of a loop come to. -/
inductive ExecL (C : Ctx) (lo : Nat) : Code → Env → Heap → AExit → Env → Heap → Prop
  | on {b env σ env₁ σ₁ ex env₂ σ₂} (h : Exec C lo b env σ .normal env₁ σ₁) (k : ExecL C lo b env₁ σ₁ ex env₂ σ₂) : ExecL C lo b env σ ex env₂ σ₂
  | onDrop {b env σ env₁ env₂ σ₁ ex env₃ σ₃} (h : Exec C lo b env σ .normal env₁ σ₁) (hc : ∀ r o, r < σ.length → σ₁[r]? = some o → o.refsB σ.length = true) (hw : ∀ x, env₂ x = .undef ∨ env₂ x = dropE σ.length env₁ x)
      (k : ExecL C lo b env₂ (σ₁.take σ.length) ex env₃ σ₃) : ExecL C lo b env σ ex env₃ σ₃
  | out {b env σ ex env₁ σ₁} (h : Exec C lo b env σ ex env₁ σ₁) (hx : ex ≠ .normal) : ExecL C lo b env σ ex env₁ σ₁
  | weak {b env env₀ σ ex env₁ σ₁} (hw : ∀ x, env₀ x = .undef ∨ env₀ x = env x) (h : ExecL C lo b env₀ σ ex env₁ σ₁) : ExecL C lo b env σ ex env₁ σ₁
  | forget {b env σ ex env₁ env₂ σ₁} (hw : ∀ x, env₂ x = .undef ∨ env₂ x = env₁ x) (h : ExecL C lo b env σ ex env₁ σ₁) : ExecL C lo b env σ ex env₂ σ₁
/-- What code within a scope comes to, whatever it jumps. -/
inductive ExecS (C : Ctx) (lo : Nat) : Code → Code → Env → Heap → AExit → Env → Heap → Prop
  | out {c cur env σ ex env' σ'} (h : Exec C lo cur env σ ex env' σ') (hx : ∀ l, ex = .goto l → findLabel c l = none) : ExecS C lo c cur env σ ex env' σ'
  | jump {c cur rest l env σ env₁ σ₁ ex env₂ σ₂} (h : Exec C lo cur env σ (.goto l) env₁ σ₁) (hf : findLabel c l = some rest) (k : ExecS C lo c rest env₁ σ₁ ex env₂ σ₂) : ExecS C lo c cur env σ ex env₂ σ₂
end

/-- Every operation writes into a slot that there is. -/
def codeOK (nt : Nat) : Code → Bool
  | .region _ ops _ => ops.toList.all (dstOK nt)
  | .seq a b => codeOK nt a && codeOK nt b
  | .cond _ a b => codeOK nt a && codeOK nt b
  | .block _ b => codeOK nt b
  | .loop b => codeOK nt b
  | .scope b => codeOK nt b
  | _ => true

theorem codeOK_find {nt : Nat} : ∀ {c : Code} {l : Nat} {rest : Code}, codeOK nt c = true → findLabel c l = some rest → codeOK nt rest = true
  | .seq a b, l, rest, h, hf => by
    simp only [codeOK, Bool.and_eq_true] at h
    simp only [findLabel] at hf
    split at hf
    · rename_i r hr
      cases hf
      simp only [codeOK, codeOK_find h.1 hr, h.2, Bool.and_true]
    · exact codeOK_find h.2 hf
  | .label l', l, rest, _, hf => by
    simp only [findLabel] at hf
    split at hf
    · cases hf; rfl
    · cases hf
  | .skip, _, _, _, hf | .region .., _, _, _, hf | .cond .., _, _, _, hf | .block .., _, _, _, hf | .loop _, _, _, _, hf | .rangeFunc .., _, _, _, hf | .exit _, _, _, _, hf | .scope _, _, _, _, hf | .goto _, _, _, _, hf | .ret, _, _, _, hf | .refuse _, _, _, _, hf => by simp [findLabel] at hf

section
variable {C : Ctx} {lo nt : Nat} {ds : List Deferred} {ρ₀ : Map} {σ₀ : Heap} {w₀ : World}

theorem dst_of_ok {ops : Array Oper} (h : ops.toList.all (dstOK nt) = true) (j : Nat) (o : Oper) (ho : ops[j]? = some o) : dstOK nt o = true := by
  rw [List.all_eq_true] at h
  exact h o (by simpa using Array.mem_of_getElem? ho)

/-- The end that is shown. -/
def Ends (C : Ctx) (lo nt : Nat) (ds : List Deferred) (ρ₀ : Map) (σ₀ : Heap) (w₀ : World) (ex : AExit) (env' : Env) (σ' : Heap) (e : Exit) (a' : Act) (w' : World) : Prop :=
  ∃ ρ', IsExit ρ' σ' w' ex e ∧ St C lo nt ds ρ₀ σ₀ w₀ ρ' σ' w' env' a'

theorem exec_ok (hm : C.P.follows .mixedOrders = true) (hlo : lo ≤ σ₀.length) {c : Code} {env : Env} {σ : Heap} {ex : AExit} {env' : Env} {σ' : Heap} (h : Exec C lo c env σ ex env' σ') :
    codeOK nt c = true → ∀ (ρ : Map) (w : World) (a : Act), St C lo nt ds ρ₀ σ₀ w₀ ρ σ w env a → c.wp C.P (Ends C lo nt ds ρ₀ σ₀ w₀ ex env' σ') a w := by
  refine Exec.rec (C := C) (lo := lo)
    (motive_1 := fun c env σ ex env' σ' _ => codeOK nt c = true → ∀ (ρ : Map) (w : World) (a : Act), St C lo nt ds ρ₀ σ₀ w₀ ρ σ w env a → c.wp C.P (Ends C lo nt ds ρ₀ σ₀ w₀ ex env' σ') a w)
    (motive_2 := fun x env σ ex env' σ' _ => codeOK nt x = true → ∀ (ρ : Map) (w : World) (a : Act), St C lo nt ds ρ₀ σ₀ w₀ ρ σ w env a → ∀ (b : Frame) (k : List Item) (cs : List Frame),
      ∃ e a' w', Ends C lo nt ds ρ₀ σ₀ w₀ ex env' σ' e a' w' ∧ Arrives C.P (lone (b.at a (.code x :: .inLoop x :: k)) cs w) b k cs e a' w')
    (motive_3 := fun c cur env σ ex env' σ' _ => codeOK nt c = true → codeOK nt cur = true → ∀ (ρ : Map) (w : World) (a : Act), St C lo nt ds ρ₀ σ₀ w₀ ρ σ w env a → ∀ (b : Frame) (k : List Item) (cs : List Frame),
      ∃ e a' w', Ends C lo nt ds ρ₀ σ₀ w₀ ex env' σ' e a' w' ∧ Arrives C.P (lone (b.at a (.code cur :: .inScope c :: k)) cs w) b k cs e a' w')
    ?_ ?_ ?_ ?_ ?_ ?_ ?_ ?_ ?_ ?_ ?_ ?_ ?_ ?_ ?_ ?_ ?_ ?_ ?_ ?_ ?_ ?_ ?_ ?_ ?_ ?_ h
  case refine_1 => intro env σ _ ρ w a hs; exact wp_skip ⟨ρ, rfl, hs⟩
  case refine_2 => intro l env σ _ ρ w a hs; exact wp_label ⟨ρ, rfl, hs⟩
  case refine_3 =>
    intro id ops env σ ex env' σ' h hok ρ w a hs
    have := aops_ok (Q := Ends C lo nt ds ρ₀ σ₀ w₀ ex env' σ') (dst_of_ok hok) (fun e s ρ w a hk hs _ => by obtain ⟨rfl, rfl, rfl⟩ := hk; exact ⟨ρ, rfl, hs⟩)
      (fun p e s ρ w a u hk hv hs _ => by obtain ⟨rfl, rfl, rfl⟩ := hk; exact ⟨ρ, ⟨u, rfl, hv⟩, hs⟩) ops.toList 0 (by simp) env σ ρ w a h hs (Nat.le_trans hlo hs.step.len)
    rw [Array.length_toList, ← List.range_eq_range'] at this
    exact wp_region this
  case refine_4 =>
    intro id ops env σ ex env' σ' h hok ρ w a hs
    have := aopsL_ok (Q := Ends C lo nt ds ρ₀ σ₀ w₀ ex env' σ') (dst_of_ok hok) (fun e s ρ w a hk hs _ => by obtain ⟨rfl, rfl, rfl⟩ := hk; exact ⟨ρ, rfl, hs⟩)
      (fun p e s ρ w a u hk hv hs _ => by obtain ⟨rfl, rfl, rfl⟩ := hk; exact ⟨ρ, ⟨u, rfl, hv⟩, hs⟩) ops.toList.length ops.toList 0 (Nat.le_refl _) (by simp) env σ ρ w a h hs (Nat.le_trans hlo hs.step.len)
    rw [Array.length_toList, ← List.range_eq_range'] at this
    exact wp_region this
  case refine_5 =>
    intro id ops env σ env' σ' h hok ρ w a hs
    exact draw_ok hm h (dst_of_ok hok) hs hlo fun ρ w a hs => ⟨ρ, rfl, hs⟩
  case refine_6 =>
    intro id ops env σ env' σ' h hok ρ w a hs
    exact drawR_ok hm h (dst_of_ok hok) hs hlo fun ρ w a hs => ⟨ρ, rfl, hs⟩
  case refine_7 =>
    intro id ops env σ p σ' h hok ρ w a hs
    exact drawPan_ok hm h (dst_of_ok hok) hs hlo fun ρ w a u hv hs => ⟨ρ, ⟨u, rfl, hv⟩, hs⟩
  case refine_8 =>
    intro x y env σ env₁ σ₁ ex env₂ σ₂ _ _ ih1 ih2 hok ρ w a hs
    simp only [codeOK, Bool.and_eq_true] at hok
    refine wp_seq (wp_mono (ih1 hok.1 ρ w a hs) fun e a' w' he => ?_)
    obtain ⟨ρ', rfl, hs'⟩ := he
    exact ih2 hok.2 ρ' w' a' hs'
  case refine_9 =>
    intro x y env σ ex env₁ σ₁ _ hx ih hok ρ w a hs
    simp only [codeOK, Bool.and_eq_true] at hok
    refine wp_seq (wp_mono (ih hok.1 ρ w a hs) fun e a' w' he => ?_)
    have hn : e ≠ .normal := by obtain ⟨_, h1, _⟩ := he; exact h1.normal hx
    cases e <;> first | exact absurd rfl hn | exact he
  case refine_10 =>
    intro id ops b env σ ex env' σ' e1 e2 s1 h1 hc _ h3 ih hok ρ w a hs
    simp only [codeOK, Bool.and_eq_true] at hok
    refine wp_seq (wp_region_draw fun t => ?_)
    simp only [Region.schedule, hm, Bool.true_or, if_true]
    have hmem := lin_mem ops ops.size t (Array.replicate ops.size false)
    rw [show Region.linearise .any ops t = Region.linearise.go .any ops ops.size t (Array.replicate ops.size false) [] from rfl]
    generalize Region.linearise.go .any ops ops.size t (Array.replicate ops.size false) [] = ord at hmem
    have hb : Below w.heap.size w { w with drawn := w.drawn + 1 } := ⟨rfl, rfl, rfl, Nat.le_refl _, fun _ _ => rfl⟩
    have hx : StepL lo ρ σ w ρ σ { w with drawn := w.drawn + 1 } := ⟨hs.step.sim.grow hb, .grow hb, Nat.le_refl _, fun _ _ h => h⟩
    have hs0 : St C lo nt ds ρ₀ σ₀ w₀ ρ σ { w with drawn := w.drawn + 1 } env a := ⟨hs.step.trans hx, hs.glob.ext hx.ext rfl, hs.env.ext hx.ext, hs.size, hs.defers⟩
    have hlo' : lo ≤ σ.length := Nat.le_trans hlo hs.step.len
    refine aopsI_ok (dst_of_ok hok.1) (fun e s ρ' w' a' hk hs' _ => ?_) ord env σ ρ _ a (h1 ord hmem) ⟨.refl hs0.step.sim, hs0.glob, hs0.env, hs0.size, hs0.defers⟩ hlo'
    obtain ⟨_, rfl, rfl⟩ := hk
    have hd := St.drop hs0 hlo' hs' (hc ord hmem)
    refine wp_mono (ih ord hmem hok.2 ρ' w' a' hd) fun e'' a'' w'' he => ?_
    obtain ⟨ρ'', he, hs''⟩ := he
    refine ⟨ρ'', he, hs''.step, hs''.glob, fun x => ?_, hs''.size, hs''.defers⟩
    rcases h3 ord hmem x with h | h
    · rw [h]; trivial
    · rw [h]; exact hs''.env x
  case refine_11 =>
    intro c x y env σ ex env' σ' hc _ ih hok ρ w a hs
    simp only [codeOK, Bool.and_eq_true] at hok
    have hv := evA_ok hs.glob hs.env c
    rw [hc] at hv
    exact wp_cond_true hv (ih hok.1 ρ w a hs)
  case refine_12 =>
    intro c x y env σ ex env' σ' hc _ ih hok ρ w a hs
    simp only [codeOK, Bool.and_eq_true] at hok
    have hv := evA_ok hs.glob hs.env c
    rw [hc] at hv
    exact wp_cond_false hv (ih hok.2 ρ w a hs)
  case refine_13 =>
    intro id b env σ env' σ' _ ih hok ρ w a hs
    refine wp_block (wp_mono (ih hok ρ w a hs) fun e a' w' he => ?_)
    obtain ⟨ρ', rfl, hs'⟩ := he
    simp only [Exit.inBlock, if_true]
    exact ⟨ρ', rfl, hs'⟩
  case refine_14 =>
    intro id b env σ ex env' σ' _ hx ih hok ρ w a hs
    refine wp_block (wp_mono (ih hok ρ w a hs) fun e a' w' he => ?_)
    obtain ⟨ρ', he, hs'⟩ := he
    cases ex with
    | exit i =>
      obtain rfl := he
      have : i ≠ id := fun e => hx (by rw [e])
      simp only [Exit.inBlock, if_neg this]
      exact ⟨ρ', rfl, hs'⟩
    | pan p => obtain ⟨u, rfl, hv⟩ := he; exact ⟨ρ', ⟨u, rfl, hv⟩, hs'⟩
    | normal => obtain rfl := he; exact ⟨ρ', rfl, hs'⟩
    | ret => obtain rfl := he; exact ⟨ρ', rfl, hs'⟩
    | goto l => obtain rfl := he; exact ⟨ρ', rfl, hs'⟩
  case refine_15 =>
    intro x env σ ex env' σ' _ ih hok ρ w a hs b k cs
    obtain ⟨e, a', w', hq, harr⟩ := ih hok ρ w a hs b k cs
    exact ⟨e, a', w', hq, .of_steps (.one step_loop) harr⟩
  case refine_16 => intro id env σ _ ρ w a hs; exact wp_exit ⟨ρ, rfl, hs⟩
  case refine_17 => intro l env σ _ ρ w a hs; exact wp_goto ⟨ρ, rfl, hs⟩
  case refine_18 => intro env σ _ ρ w a hs; exact wp_ret ⟨ρ, rfl, hs⟩
  case refine_19 =>
    intro x env σ ex env' σ' _ ih hok ρ w a hs b k cs
    obtain ⟨e, a', w', hq, harr⟩ := ih hok hok ρ w a hs b k cs
    exact ⟨e, a', w', hq, .of_steps (.one step_scope) harr⟩
  case refine_20 =>
    intro x env σ env₁ σ₁ ex env₂ σ₂ _ _ ih1 ih2 hok ρ w a hs b k cs
    obtain ⟨e₁, a₁, w₁, ⟨ρ₁, rfl, hs₁⟩, harr⟩ := ih1 hok ρ w a hs b (.inLoop x :: k) cs
    obtain ⟨e₂, a₂, w₂, hq₂, harr₂⟩ := ih2 hok ρ₁ w₁ a₁ hs₁ b k cs
    exact ⟨e₂, a₂, w₂, hq₂, .of_steps (Steps.trans harr (.one step_inLoop)) harr₂⟩
  case refine_21 =>
    intro x env σ env₁ env₂ σ₁ ex env₃ σ₃ _ hc hw _ ih1 ih2 hok ρ w a hs b k cs
    obtain ⟨e₁, a₁, w₁, ⟨ρ₁, rfl, hs₁⟩, harr⟩ := ih1 hok ρ w a hs b (.inLoop x :: k) cs
    have hd := St.since hs hs₁ hlo hc
    obtain ⟨e₂, a₂, w₂, hq₂, harr₂⟩ := ih2 hok ρ₁ w₁ a₁ ⟨hd.step, hd.glob, fun t => by
      rcases hw t with h | h
      · rw [h]; trivial
      · rw [h]; exact hd.env t, hd.size, hd.defers⟩ b k cs
    exact ⟨e₂, a₂, w₂, hq₂, .of_steps (Steps.trans harr (.one step_inLoop)) harr₂⟩
  case refine_22 =>
    intro x env σ ex env₁ σ₁ _ hx ih hok ρ w a hs b k cs
    obtain ⟨e₁, a₁, w₁, he, harr⟩ := ih hok ρ w a hs b (.inLoop x :: k) cs
    have hn : e₁ ≠ .normal := by obtain ⟨_, h1, _⟩ := he; exact h1.normal hx
    exact ⟨e₁, a₁, w₁, he, .pass (x := .inLoop x) rfl (fun _ _ => .inl hn) harr⟩
  case refine_23 =>
    intro x env env₀ σ ex env₁ σ₁ hw _ ih hok ρ w a hs b k cs
    refine ih hok ρ w a ⟨hs.step, hs.glob, fun t => ?_, hs.size, hs.defers⟩ b k cs
    rcases hw t with h | h
    · rw [h]; trivial
    · rw [h]; exact hs.env t
  case refine_24 =>
    intro x env σ ex env₁ env₂ σ₁ hw _ ih hok ρ w a hs b k cs
    obtain ⟨e, a', w', ⟨ρ', he, hs'⟩, harr⟩ := ih hok ρ w a hs b k cs
    refine ⟨e, a', w', ⟨ρ', he, hs'.step, hs'.glob, fun t => ?_, hs'.size, hs'.defers⟩, harr⟩
    rcases hw t with h | h
    · rw [h]; trivial
    · rw [h]; exact hs'.env t
  case refine_25 =>
    intro c cur env σ ex env' σ' _ hx ih hokc hok ρ w a hs b k cs
    obtain ⟨e, a', w', hq, harr⟩ := ih hok ρ w a hs b (.inScope c :: k) cs
    obtain ⟨_, he, _⟩ := id hq
    cases ex with
    | normal => obtain rfl := he; exact ⟨_, a', w', hq, Steps.trans harr (.one step_inScope)⟩
    | exit id => obtain rfl := he; exact ⟨_, a', w', hq, fun k' hk => harr k' (by simp [exitTo, hk])⟩
    | goto l => obtain rfl := he; exact ⟨_, a', w', hq, fun k' hk => harr k' (by simp [gotoIn, hx l rfl, hk])⟩
    | ret => obtain rfl := he; exact ⟨_, a', w', hq, harr⟩
    | pan p => obtain ⟨u, rfl, _⟩ := he; exact ⟨_, a', w', hq, harr⟩
  case refine_26 =>
    intro c cur rest l env σ env₁ σ₁ ex env₂ σ₂ _ hf _ ih1 ih2 hokc hok ρ w a hs b k cs
    obtain ⟨e, a', w', ⟨ρ', rfl, hs'⟩, harr⟩ := ih1 hok ρ w a hs b (.inScope c :: k) cs
    obtain ⟨e₂, a₂, w₂, hq₂, harr₂⟩ := ih2 hokc (codeOK_find hokc hf) ρ' w' a' hs' b k cs
    exact ⟨e₂, a₂, w₂, hq₂, .of_steps (harr _ (by simp [gotoIn, hf])) harr₂⟩
end
end Go.Abs
