/-
  AN ABSTRACT SEMANTICS, 22: an interpreter that runs closed calls.
-/
import Derived.Test.YtdjbnaleoohafaaGreatDoorAbs21
namespace Go.Abs
open Go Go.RowKit

/-! Slots as a tree. -/
inductive TM where
  | leaf
  | node (v : AV) (l r : TM)

noncomputable def TM.get (t : TM) : Nat → AV :=
  TM.rec (motive := fun _ => Nat → AV) (fun _ => .tuple []) (fun v _ _ gl gr n => Nat.rec (motive := fun _ => AV) v (fun n _ => Bool.rec (motive := fun _ => AV) (gr (Nat.div n 2)) (gl (Nat.div n 2)) (Nat.beq (Nat.mod n 2) 0)) n) t

theorem TM.get_leaf (x : Nat) : TM.leaf.get x = .tuple [] := rfl
theorem TM.get_zero (v : AV) (l r : TM) : (TM.node v l r).get 0 = v := rfl
theorem TM.get_succ (v : AV) (l r : TM) (n : Nat) : (TM.node v l r).get (n + 1) = if n % 2 = 0 then l.get (n / 2) else r.get (n / 2) := by
  show Bool.rec (motive := fun _ => AV) (r.get (n / 2)) (l.get (n / 2)) (Nat.beq (n % 2) 0) = _
  split
  · rename_i h; rw [h]; rfl
  · rename_i h
    have : Nat.beq (n % 2) 0 = false := by
      cases hb : Nat.beq (n % 2) 0 with
      | false => rfl
      | true => exact absurd (Nat.eq_of_beq_eq_true hb) h
    rw [this]

def TM.setF : Nat → TM → Nat → AV → TM
  | 0, t, _, _ => t
  | _ + 1, .leaf, 0, v => .node v .leaf .leaf
  | k + 1, .leaf, n + 1, v => if n % 2 = 0 then .node (.tuple []) (setF k .leaf (n / 2) v) .leaf else .node (.tuple []) .leaf (setF k .leaf (n / 2) v)
  | _ + 1, .node _ l r, 0, v => .node v l r
  | k + 1, .node x l r, n + 1, v => if n % 2 = 0 then .node x (setF k l (n / 2) v) r else .node x l (setF k r (n / 2) v)

noncomputable def TM.put (t : TM) : Nat → AV → TM :=
  TM.rec (motive := fun _ => Nat → AV → TM) (fun d v => setF (d + 1) .leaf d v)
    (fun x l r pl pr d v => Nat.rec (motive := fun _ => TM) (.node v l r) (fun n _ => Bool.rec (motive := fun _ => TM) (.node x l (pr (Nat.div n 2) v)) (.node x (pl (Nat.div n 2) v) r) (Nat.beq (Nat.mod n 2) 0)) d) t

theorem TM.put_leaf (d : Nat) (v : AV) : TM.leaf.put d v = setF (d + 1) .leaf d v := rfl
theorem TM.put_zero (x v : AV) (l r : TM) : (TM.node x l r).put 0 v = .node v l r := rfl
theorem TM.put_succ (x v : AV) (l r : TM) (n : Nat) : (TM.node x l r).put (n + 1) v = if n % 2 = 0 then .node x (l.put (n / 2) v) r else .node x l (r.put (n / 2) v) := by
  show Bool.rec (motive := fun _ => TM) (.node x l (r.put (n / 2) v)) (.node x (l.put (n / 2) v) r) (Nat.beq (n % 2) 0) = _
  split
  · rename_i h; rw [h]; rfl
  · rename_i h
    have : Nat.beq (n % 2) 0 = false := by
      cases hb : Nat.beq (n % 2) 0 with
      | false => rfl
      | true => exact absurd (Nat.eq_of_beq_eq_true hb) h
    rw [this]

theorem TM.get_side (y v : AV) (l r l' r' : TM) (n x : Nat) (hl : n % 2 = 0 → r' = r ∧ ∀ z, l'.get z = if z = n / 2 then v else l.get z) (hr : ¬ n % 2 = 0 → l' = l ∧ ∀ z, r'.get z = if z = n / 2 then v else r.get z) :
    (TM.node y l' r').get x = if x = n + 1 then v else (TM.node y l r).get x := by
  cases x with
  | zero => simp [TM.get_zero]
  | succ x =>
    simp only [TM.get_succ]
    by_cases hn : n % 2 = 0
    · obtain ⟨rfl, h⟩ := hl hn
      by_cases hx : x % 2 = 0
      · simp only [if_pos hx, h]
        by_cases e : x / 2 = n / 2
        · rw [if_pos e, if_pos (by omega)]
        · rw [if_neg e, if_neg (by omega)]
      · simp only [if_neg hx]
        rw [if_neg (by omega)]
    · obtain ⟨rfl, h⟩ := hr hn
      by_cases hx : x % 2 = 0
      · simp only [if_pos hx]
        rw [if_neg (by omega)]
      · simp only [if_neg hx, h]
        by_cases e : x / 2 = n / 2
        · rw [if_pos e, if_pos (by omega)]
        · rw [if_neg e, if_neg (by omega)]

theorem TM.get_leaf_node (x : Nat) : TM.leaf.get x = (TM.node (.tuple []) .leaf .leaf).get x := by
  cases x with
  | zero => rfl
  | succ x => simp [TM.get_succ, TM.get_leaf]

theorem TM.get_setF : ∀ (k : Nat) (t : TM) (d : Nat) (v : AV) (x : Nat), d < k → (setF k t d v).get x = if x = d then v else t.get x
  | 0, _, _, _, _, h => by omega
  | k + 1, .leaf, 0, v, x, _ => by
    cases x with
    | zero => rfl
    | succ x => simp [setF, TM.get_succ, TM.get_leaf]
  | k + 1, .leaf, n + 1, v, x, h => by
    have ih := fun y => get_setF k .leaf (n / 2) v y (by omega)
    rw [get_leaf_node x]
    simp only [setF]
    split
    · rename_i hn; exact get_side _ _ _ _ _ _ _ _ (fun _ => ⟨rfl, ih⟩) (fun h => absurd hn h)
    · rename_i hn; exact get_side _ _ _ _ _ _ _ _ (fun h => absurd h hn) (fun _ => ⟨rfl, ih⟩)
  | k + 1, .node y l r, 0, v, x, _ => by
    cases x with
    | zero => rfl
    | succ x => simp [setF, TM.get_succ]
  | k + 1, .node y l r, n + 1, v, x, h => by
    simp only [setF]
    split
    · rename_i hn; exact get_side _ _ _ _ _ _ _ _ (fun _ => ⟨rfl, fun z => get_setF k l (n / 2) v z (by omega)⟩) (fun h => absurd hn h)
    · rename_i hn; exact get_side _ _ _ _ _ _ _ _ (fun h => absurd h hn) (fun _ => ⟨rfl, fun z => get_setF k r (n / 2) v z (by omega)⟩)

theorem TM.get_put_at : ∀ (t : TM) (d : Nat) (v : AV) (x : Nat), (t.put d v).get x = if x = d then v else t.get x
  | .leaf, d, v, x => by rw [put_leaf, get_setF _ _ _ _ _ (Nat.lt_succ_self d)]
  | .node y l r, 0, v, x => by
    rw [put_zero]
    cases x with
    | zero => rfl
    | succ x => simp [TM.get_succ]
  | .node y l r, n + 1, v, x => by
    rw [put_succ]
    split
    · rename_i hn; exact get_side _ _ _ _ _ _ _ _ (fun _ => ⟨rfl, fun z => get_put_at l (n / 2) v z⟩) (fun h => absurd hn h)
    · rename_i hn; exact get_side _ _ _ _ _ _ _ _ (fun h => absurd h hn) (fun _ => ⟨rfl, fun z => get_put_at r (n / 2) v z⟩)

theorem TM.get_put (t : TM) (d : Nat) (v : AV) : (t.put d v).get = aput t.get (some d) v := by
  funext x
  rw [get_put_at]
  rfl

noncomputable def TM.putO (t : TM) (d : Option Tmp) (v : AV) : TM := match d with
  | some d => t.put d v
  | none => t
theorem TM.get_putO (t : TM) (d : Option Tmp) (v : AV) : (t.putO d v).get = aput t.get d v := by
  cases d with
  | none => rfl
  | some d => exact get_put t d v

noncomputable def TM.ofF : Nat → List AV → TM → TM
  | _, [], t => t
  | k, v :: l, t => ofF (k + 1) l (t.put k v)
theorem TM.get_ofF : ∀ (l : List AV) (k : Nat) (t : TM) (x : Nat), (ofF k l t).get x = if k ≤ x ∧ x < k + l.length then l.getD (x - k) (.tuple []) else t.get x
  | [], k, t, x => by simp [ofF]; intro h; omega
  | v :: l, k, t, x => by
    rw [ofF, get_ofF l (k + 1), get_put]
    simp only [aput, List.length_cons]
    by_cases h : k + 1 ≤ x ∧ x < k + 1 + l.length
    · rw [if_pos h, if_pos (by omega), show x - k = (x - (k + 1)) + 1 from by omega]; simp
    · rw [if_neg h]
      by_cases e : x = k
      · subst e; simp
      · rw [if_neg e, if_neg (by omega)]
noncomputable def TM.ofArgs (l : List AV) : TM := ofF 0 l .leaf
theorem TM.get_ofArgs (l : List AV) : (ofArgs l).get = env0 l := by
  funext x
  rw [ofArgs, get_ofF, get_leaf, env0]
  split
  · simp
  · rename_i h
    simp only [Nat.zero_le, Nat.zero_add, true_and, Nat.not_lt] at h
    simp [List.getD, List.getElem?_eq_none h]

/-! Values compared. -/
mutual
def AV.beq : AV → AV → Bool
  | .undef, .undef => true
  | .bool a, .bool b => a == b
  | .int k n, .int k' n' => decide (k = k') && decide (n = n')
  | .float k n, .float k' n' => decide (k = k') && decide (n = n')
  | .str a, .str b => decide (a = b)
  | .nilptr, .nilptr => true
  | .ptr o k, .ptr o' k' => decide (o = o') && decide (k = k')
  | .pimm a, .pimm b => beqL a b
  | .prow a b c d, .prow a' b' c' d' => decide (a = a') && decide (b = b') && decide (c = c') && decide (d = d')
  | .nils, .nils => true
  | .imm a b c, .imm a' b' c' => beqL a a' && beqL b b' && c == c'
  | .own a b c d, .own a' b' c' d' => decide (a = a') && decide (b = b') && decide (c = c') && decide (d = d')
  | .nilmap, .nilmap => true
  | .map a, .map b => decide (a = b)
  | .func (.func f) a b, .func (.func f') a' b' => decide (f = f') && beqL a a' && beqL b b'
  | .nilfunc, .nilfunc => true
  | .iface t v, .iface t' v' => decide (t = t') && v.beq v'
  | .niliface, .niliface => true
  | .agg a, .agg b => beqL a b
  | .tuple a, .tuple b => beqL a b
  | _, _ => false
def beqL : List AV → List AV → Bool
  | [], [] => true
  | a :: x, b :: y => a.beq b && beqL x y
  | _, _ => false
end

mutual
theorem AV.beq_eq : ∀ (a b : AV), a.beq b = true → a = b
  | .undef, b, h => by cases b <;> simp_all [AV.beq]
  | .bool x, b, h => by cases b <;> simp_all [AV.beq]
  | .int k n, b, h => by cases b <;> simp_all [AV.beq]
  | .float k n, b, h => by cases b <;> simp_all [AV.beq]
  | .str x, b, h => by cases b <;> simp_all [AV.beq]
  | .nilptr, b, h => by cases b <;> simp_all [AV.beq]
  | .ptr _ _, b, h => by cases b <;> simp_all [AV.beq]
  | .pimm x, b, h => by
    cases b <;> simp only [AV.beq, Bool.false_eq_true] at h
    rw [beqL_eq _ _ h]
  | .prow _ _ _ _, b, h => by cases b <;> simp_all [AV.beq]
  | .nils, b, h => by cases b <;> simp_all [AV.beq]
  | .imm x y z, b, h => by
    cases b <;> simp only [AV.beq, Bool.false_eq_true, Bool.and_eq_true, beq_iff_eq] at h
    rw [beqL_eq _ _ h.1.1, beqL_eq _ _ h.1.2, h.2]
  | .own _ _ _ _, b, h => by cases b <;> simp_all [AV.beq]
  | .nilmap, b, h => by cases b <;> simp_all [AV.beq]
  | .map _, b, h => by cases b <;> simp_all [AV.beq]
  | .func f x y, b, h => by
    cases b with
    | func f' x' y' =>
      cases f <;> cases f' <;> simp only [AV.beq, Bool.false_eq_true, Bool.and_eq_true, decide_eq_true_eq] at h
      rw [h.1.1, beqL_eq _ _ h.1.2, beqL_eq _ _ h.2]
    | _ => cases f <;> simp [AV.beq] at h
  | .nilfunc, b, h => by cases b <;> simp_all [AV.beq]
  | .iface t v, b, h => by
    cases b <;> simp only [AV.beq, Bool.false_eq_true, Bool.and_eq_true, decide_eq_true_eq] at h
    rw [h.1, AV.beq_eq _ _ h.2]
  | .niliface, b, h => by cases b <;> simp_all [AV.beq]
  | .agg x, b, h => by
    cases b <;> simp only [AV.beq, Bool.false_eq_true] at h
    rw [beqL_eq _ _ h]
  | .tuple x, b, h => by
    cases b <;> simp only [AV.beq, Bool.false_eq_true] at h
    rw [beqL_eq _ _ h]
theorem beqL_eq : ∀ (a b : List AV), beqL a b = true → a = b
  | [], b, h => by cases b <;> simp_all [beqL]
  | x :: a, b, h => by
    cases b with
    | nil => simp [beqL] at h
    | cons y b =>
      simp only [beqL, Bool.and_eq_true] at h
      rw [AV.beq_eq _ _ h.1, beqL_eq _ _ h.2]
end
end Go.Abs
