/-
  AN ABSTRACT SEMANTICS, 24b: regions whose writing operations may come in either order, run.
-/
import Derived.Test.YtdjbnaleoohafaaGreatDoorAbs24
namespace Go.Abs
open Go Go.RowKit
noncomputable section

def beqP : List (AV × AV) → List (AV × AV) → Bool
  | [], [] => true
  | a :: x, b :: y => a.1.beq b.1 && a.2.beq b.2 && beqP x y
  | _, _ => false
theorem beqP_eq : ∀ (a b : List (AV × AV)), beqP a b = true → a = b
  | [], b, h => by cases b <;> simp_all [beqP]
  | x :: a, b, h => by
    cases b with
    | nil => simp [beqP] at h
    | cons y b =>
      simp only [beqP, Bool.and_eq_true] at h
      rw [beqP_eq _ _ h.2, Prod.ext (AV.beq_eq _ _ h.1.1) (AV.beq_eq _ _ h.1.2)]

def AObj.beq : AObj → AObj → Bool
  | .box a, .box b => beqL a b
  | .row v s x, .row v' s' x' => decide (v = v') && decide (s = s') && beqL x x'
  | .map e, .map e' => beqP e e'
  | .iter s p, .iter s' p' => decide (s = s') && decide (p = p')
  | .dead, .dead => true
  | _, _ => false
theorem AObj.beq_eq (a b : AObj) (h : a.beq b = true) : a = b := by
  cases a <;> cases b <;> simp only [AObj.beq, Bool.false_eq_true, Bool.and_eq_true, decide_eq_true_eq] at h <;> try rfl
  · rw [beqL_eq _ _ h]
  · rw [h.1.1, h.1.2, beqL_eq _ _ h.2]
  · rw [beqP_eq _ _ h]
  · rw [h.1, h.2]
def beqH : Heap → Heap → Bool
  | [], [] => true
  | a :: x, b :: y => a.beq b && beqH x y
  | _, _ => false
theorem beqH_eq : ∀ (a b : Heap), beqH a b = true → a = b
  | [], b, h => by cases b <;> simp_all [beqH]
  | x :: a, b, h => by
    cases b with
    | nil => simp [beqH] at h
    | cons y b =>
      simp only [beqH, Bool.and_eq_true] at h
      rw [AObj.beq_eq _ _ h.1, beqH_eq _ _ h.2]

/-- The heaps by what is done: numbers whose bits are the writing operations. -/
abbrev Tab := List (Nat × Heap)
def Tab.at? : Tab → Nat → Option Heap
  | [], _ => none
  | (k, h) :: r, m => if k = m then some h else Tab.at? r m

/-- May the operation be next, where these are done? -/
def exB (anc : List Nat) (eff n m i : Nat) : Bool :=
  !m.testBit i && (List.range n).all (fun j => !((anc.getD i 0).testBit j && eff.testBit j) || m.testBit j) && (List.range n).all (fun j => !m.testBit j || !(anc.getD j 0).testBit i)

section
variable (C : Ctx) (callee : Callee) (ops : Array Oper)

/-- Which operations write, in this run: as bits. -/
def effMask : Nat → List Oper → List (TM × AV × Heap) → Nat
  | i, o :: l, x :: tr => (if effOp o.op = true ∧ wantA ops o x.1.get = some true then 1 <<< i else 0) ||| effMask (i + 1) l tr
  | _, _, _ => 0

def growTab (anc : List Nat) (eff n i : Nat) (o : Oper) (env : Env) : Tab → Tab
  | [] => []
  | (m, h) :: r => if exB anc eff n m i = true then match runOp C callee o env h with
      | some (.val _ h') => (m ||| (1 <<< i), h') :: growTab anc eff n i o env r
      | _ => growTab anc eff n i o env r
    else growTab anc eff n i o env r
def makeTab (anc : List Nat) (eff n : Nat) : Nat → List Oper → List (TM × AV × Heap) → Tab → Tab
  | i, o :: l, x :: tr, t => makeTab anc eff n (i + 1) l tr (if eff.testBit i = true then t ++ growTab C callee anc eff n i o x.1.get t else t)
  | _, _, _, t => t

def checkOne (anc : List Nat) (eff n : Nat) (tab : Tab) (m : Nat) (h : Heap) (i : Nat) (o : Oper) (x : TM × AV × Heap) : Bool :=
  match wantA ops o x.1.get with
  | some false => x.2.1.beq (.tuple [])
  | some true => if exB anc eff n m i = true then match runOp C callee o x.1.get h with
      | some (.val v h') => v.beq x.2.1 && (if effOp o.op = true then match tab.at? (m ||| (1 <<< i)) with
          | some h'' => beqH h' h''
          | none => false
        else beqH h' h)
      | _ => false
    else true
  | none => false
def checkAll (anc : List Nat) (eff n : Nat) (tab : Tab) (m : Nat) (h : Heap) : Nat → List Oper → List (TM × AV × Heap) → Bool
  | i, o :: l, x :: tr => checkOne C callee ops anc eff n tab m h i o x && checkAll anc eff n tab m h (i + 1) l tr
  | _, [], _ => true
  | _, _ :: _, [] => false

def runDrawR (env : TM) (σ : Heap) : CRes :=
  if drawLoose ops = true then
    match runTr C callee ops ops.toList env σ with
    | some (tr, none, env', _) =>
      let anc := ancs ops.toList
      let eff := effMask ops 0 ops.toList tr
      let tab := makeTab C callee anc eff ops.size 0 ops.toList tr [(0, σ)]
      if (tab.all fun p => checkAll C callee ops anc eff ops.size tab p.1 p.2 0 ops.toList tr) = true then match tab.at? 0, tab.at? eff with
        | some h0, some h => if beqH h0 σ = true then some (.normal, env', h) else none
        | _, _ => none
      else none
    | _ => none
  else none
end

section
variable {C : Ctx} {callee : Callee} {ops : Array Oper}

theorem effMask_bit : ∀ (l : List Oper) (tr : List (TM × AV × Heap)) (i j : Nat), (effMask ops i l tr).testBit j = true ↔ ∃ k o x, j = i + k ∧ l[k]? = some o ∧ tr[k]? = some x ∧ effOp o.op = true ∧ wantA ops o x.1.get = some true
  | [], tr, i, j => by simp [effMask]
  | o :: l, [], i, j => by simp [effMask]
  | o :: l, x :: tr, i, j => by
    simp only [effMask, Nat.testBit_or, Bool.or_eq_true, effMask_bit l tr (i + 1) j]
    constructor
    · rintro (h | ⟨k, o', x', rfl, h1, h2, h3⟩)
      · split at h
        · rename_i hq
          rw [Nat.one_shiftLeft, Nat.testBit_two_pow] at h
          exact ⟨0, o, x, by simpa using (of_decide_eq_true h).symm, rfl, rfl, hq⟩
        · simp at h
      · exact ⟨k + 1, o', x', by omega, by simpa using h1, by simpa using h2, h3⟩
    · rintro ⟨k, o', x', rfl, h1, h2, h3⟩
      cases k with
      | zero =>
        simp only [List.getElem?_cons_zero, Option.some.injEq] at h1 h2
        subst h1; subst h2
        left
        rw [if_pos h3, Nat.one_shiftLeft, Nat.testBit_two_pow]; simp
      | succ k =>
        simp only [List.getElem?_cons_succ] at h1 h2
        exact .inr ⟨k, o', x', by omega, h1, h2, h3⟩

theorem checkAll_get {anc : List Nat} {eff n : Nat} {tab : Tab} {m : Nat} {h : Heap} : ∀ (l : List Oper) (tr : List (TM × AV × Heap)) (s i : Nat) (o : Oper) (x : TM × AV × Heap), checkAll C callee ops anc eff n tab m h s l tr = true → l[i]? = some o → tr[i]? = some x →
    checkOne C callee ops anc eff n tab m h (s + i) o x = true
  | [], _, _, i, _, _, _, h1, _ => by simp at h1
  | _ :: _, [], _, i, _, _, _, _, h2 => by simp at h2
  | y :: l, z :: tr, s, i, o, x, hc, h1, h2 => by
    simp only [checkAll, Bool.and_eq_true] at hc
    cases i with
    | zero =>
      simp only [List.getElem?_cons_zero, Option.some.injEq] at h1 h2
      subst h1; subst h2; exact hc.1
    | succ i =>
      simp only [List.getElem?_cons_succ] at h1 h2
      have := checkAll_get l tr (s + 1) i o x hc.2 h1 h2
      rwa [show s + 1 + i = s + (i + 1) from by omega] at this

theorem at?_mem : ∀ {tab : Tab} {m : Nat} {h : Heap}, tab.at? m = some h → (m, h) ∈ tab
  | [], _, _, h => by cases h
  | (k, h') :: r, m, h, hh => by
    simp only [Tab.at?] at hh
    split at hh
    · rename_i e; cases hh; subst e; exact List.mem_cons_self
    · exact List.mem_cons_of_mem _ (at?_mem hh)

theorem runDrawR_ok (hc : Good C callee) {env env' : TM} {σ σ' : Heap} {ex : AExit} (h : runDrawR C callee ops env σ = some (ex, env', σ')) : ex = .normal ∧ DrawOKR C 0 ops env.get σ env'.get σ' := by
  unfold runDrawR at h
  split at h
  case isFalse => cases h
  rename_i hstat
  split at h
  case h_2 => cases h
  rename_i tr e s hr
  simp only at h
  split at h
  case isFalse => cases h
  rename_i hall
  split at h
  case h_2 => cases h
  rename_i h0 hF g0 gF
  split at h
  case isFalse => cases h
  rename_i hb0
  cases h
  obtain rfl := beqH_eq _ _ hb0
  obtain ⟨t1, t2, _⟩ := runTr_ok (env0 := env.get) (σ0 := h0) (tr0 := tr) (post := []) ops.toList 0 env h0 tr rfl (by simp) (Nat.zero_le _) hr rfl rfl
  obtain ⟨tlen, t2, t3⟩ := t2 rfl
  generalize heff : effMask ops 0 ops.toList tr = eff at *
  generalize htab : makeTab C callee (ancs ops.toList) eff ops.size 0 ops.toList tr [(0, h0)] = tab at *
  rw [List.all_eq_true] at hall
  have effb : ∀ j, eff.testBit j = true ↔ ∃ o x, ops[j]? = some o ∧ tr[j]? = some x ∧ effOp o.op = true ∧ wantA ops o x.1.get = some true := by
    intro j
    rw [← heff, effMask_bit]
    constructor
    · rintro ⟨k, o, x, rfl, h1, h2, h3⟩; exact ⟨o, x, by simpa using h1, by simpa using h2, h3⟩
    · rintro ⟨o, x, h1, h2, h3⟩; exact ⟨j, o, x, by omega, by simpa using h1, h2, h3⟩
  refine ⟨rfl, hstat, valOf tr, fun S h => ∃ m, tab.at? m = some h ∧ ∀ j, m.testBit j = (S j && eff.testBit j), ⟨⟨0, g0, fun j => by simp⟩, ?_, ?_⟩, t2⟩
  · intro S h i o ⟨m, hm, hbit⟩ hcl ho hS hed hancS hancN
    obtain ⟨ti, q1, q2, q3⟩ := t1 i o (Nat.zero_le _) (by rw [tlen]; exact (Array.getElem?_eq_some_iff.1 ho).1) ho
    have hck := checkAll_get ops.toList tr 0 i o _ (hall _ (at?_mem hm)) (by simpa using ho) q1
    rw [Nat.zero_add] at hck
    simp only [checkOne] at hck
    rw [q2]
    have hex : exB (ancs ops.toList) eff ops.size m i = true := by
      simp only [exB, Bool.and_eq_true, List.all_eq_true, Bool.or_eq_true, Bool.not_eq_eq_eq_not]
      refine ⟨⟨by rw [hbit, hS]; simp, fun j _ => ?_⟩, fun j _ => ?_⟩
      · rw [hbit]
        cases ha : ((ancs ops.toList).getD i 0).testBit j with
        | false => simp
        | true => rw [hancS j ha]; cases eff.testBit j <;> simp
      · rw [hbit]
        cases hj : S j with
        | false => simp
        | true => rw [hancN j hj]; simp
    split at hck
    · rename_i hw
      refine .inl ⟨hw, AV.beq_eq _ _ hck, m, hm, fun j => ?_⟩
      rw [hbit]
      unfold also
      by_cases hj : j = i
      · subst hj
        rw [if_pos rfl, hS]
        cases hef : eff.testBit j with
        | false => rfl
        | true =>
          obtain ⟨o', x, e1, e2, e3, e4⟩ := (effb j).1 hef
          rw [e1] at ho; cases ho
          rw [e2] at q1; cases q1
          rw [hw] at e4; cases e4
      · rw [if_neg hj]
    · rename_i hw
      rw [if_pos hex] at hck
      split at hck
      · rename_i v h' hrun
        simp only [Bool.and_eq_true] at hck
        obtain ⟨hv, hck⟩ := hck
        obtain rfl := AV.beq_eq _ _ hv
        refine .inr ⟨hw, runOp_ok hc hrun ⟨rfl, ?_⟩⟩
        by_cases hef : effOp o.op = true
        · rw [if_pos hef] at hck
          split at hck
          · rename_i h'' ht
            obtain rfl := beqH_eq _ _ hck
            refine ⟨_, ht, fun j => ?_⟩
            rw [Nat.testBit_or, hbit, Nat.one_shiftLeft, Nat.testBit_two_pow]
            have hei : eff.testBit i = true := (effb i).2 ⟨o, _, ho, q1, hef, hw⟩
            unfold also
            by_cases hj : j = i
            · subst hj; simp [hei]
            · rw [if_neg hj]; simp [Ne.symm hj]
          · cases hck
        · rw [if_neg hef] at hck
          obtain rfl := beqH_eq _ _ hck
          refine ⟨m, hm, fun j => ?_⟩
          rw [hbit]
          unfold also
          by_cases hj : j = i
          · subst hj
            rw [if_pos rfl, hS]
            cases he2 : eff.testBit j with
            | false => rfl
            | true =>
              obtain ⟨o', x, e1, e2, e3, e4⟩ := (effb j).1 he2
              rw [e1] at ho; cases ho
              exact absurd e3 hef
          · rw [if_neg hj]
      · cases hck
    · cases hck
  · intro S h ⟨m, hm, hbit⟩ hS
    have : m = eff := by
      apply Nat.eq_of_testBit_eq
      intro j
      rw [hbit]
      cases hef : eff.testBit j with
      | false => simp
      | true =>
        obtain ⟨o', x, e1, _⟩ := (effb j).1 hef
        rw [hS j (Array.getElem?_eq_some_iff.1 e1).1]; rfl
    subst this
    rw [gF] at hm
    cases hm; rfl
end

def runDrawn (C : Ctx) (callee : Callee) (ops : Array Oper) (env : TM) (σ : Heap) : CRes :=
  if drawStatic ops = true then runDraw C callee ops env σ else runDrawR C callee ops env σ

theorem runDrawn_ok {C : Ctx} {callee : Callee} {ops : Array Oper} {lo id : Nat} (hlo : lo = 0) (hc : Good C callee) {env env' : TM} {σ σ' : Heap} {ex : AExit} (h : runDrawn C callee ops env σ = some (ex, env', σ')) : Exec C lo (.region id ops true) env.get σ ex env'.get σ' := by
  subst hlo
  unfold runDrawn at h
  split at h
  · have := runDraw_ok hc h
    cases ex with
    | normal => exact .draw this
    | pan p => obtain ⟨h1, h2⟩ := this; rw [h2]; exact .drawP h1
    | _ => exact this.elim
  · obtain ⟨rfl, hr⟩ := runDrawR_ok hc h
    exact .drawR hr
end
end Go.Abs
