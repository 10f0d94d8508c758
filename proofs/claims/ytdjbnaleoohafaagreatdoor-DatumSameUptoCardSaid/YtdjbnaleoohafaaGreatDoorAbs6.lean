/-
  AN ABSTRACT SEMANTICS, 6: operations that only compute and read, further.
-/
import Derived.Test.YtdjbnaleoohafaaGreatDoorAbs5
namespace Go.Abs
open Go Go.RowKit

/-- A value that '==' may be asked of by its type. -/
def AV.eqish : AV → Bool
  | .bool _ | .nilptr | .ptr .. | .pimm _ | .nils | .imm .. | .nilmap | .map _ | .func .. | .nilfunc | .iface .. | .niliface | .agg _ => true
  | _ => false

/-- The look ahead of '==': two nil interface values, two structs. -/
def guardA (P : Program) (T : TypeId) (con : Bool) : AV → AV → Bool
  | .niliface, .niliface => con
  | .agg _, .agg _ => !(P.eqGuardType P.depth T)
  | _, _ => true

def binA (P : Program) (op : BinOp) (T : TypeId) (con : Bool) (x y : AV) : Option AV :=
  match x, y with
  | .int k a, .int yk b =>
    (match op with
    | .shl | .shr => shiftA op k a b
    | _ => if k = yk then intA op k a b else none)
  | .str a, .str b => strA op a b
  | x, y =>
    if (x.eqish && y.eqish && guardA P T con x y) = true then
      (match op with
      | .eql => (eqA P 64 T x y).map .bool
      | .neq => (eqA P 64 T x y).map fun b => .bool (!b)
      | _ => none)
    else none

def unA (op : UnOp) (x : AV) : Option AV :=
  match op, x with
  | .neg, .int k n => some (.int k (k.wrap (0 - n)))
  | .xor, .int k n => some (.int k (k.wrap ((BitVec.ofInt k.bits (if k.signed then -1 else k.max) ^^^ BitVec.ofInt k.bits n).toNat)))
  | .not, .bool b => some (.bool !b)
  | _, _ => none

section
variable {P : Program} {ρ : Map} {σ : Heap} {w : World}

theorem ok_int {k : IntKind} {n : Int} (h : k.min ≤ n ∧ n ≤ k.max) : VRel ρ σ w (.int k n) (.int k n) := ⟨rfl, h⟩

theorem intA_ok {op : BinOp} {k : IntKind} {a b : Int} {av : AV} (ha : k.min ≤ a ∧ a ≤ k.max) (hns : op ≠ .shl ∧ op ≠ .shr) (h : intA op k a b = some av) (T : TypeId) :
    ∃ v, (binOp op T (.int k a) (.int k b)).run P w = .ok v w ∧ VRel ρ σ w av v := by
  cases op <;> simp only [intA] at h <;>
    first
      | (cases h; done)
      | (cases h; exact ⟨_, by simp [binOp, Op.intArith, Op.intBits], ok_int (wrap_range _ _)⟩)
      | (cases h; exact ⟨_, by simp [binOp, Op.intCmp], rfl⟩)
      | (split at h
         · cases h
         · rename_i hb; cases h
           first
             | exact ⟨.int k (k.wrap (a.tdiv b)), by simp [binOp, Op.intDiv, hb], ok_int (wrap_range _ _)⟩
             | exact ⟨.int k (a.tmod b), by simp [binOp, Op.intDiv, hb], ok_int (rem_range _ ha.1 ha.2)⟩)

theorem fdiv_range (k : IntKind) {a : Int} (n : Nat) (h1 : k.min ≤ a) (h2 : a ≤ k.max) : k.min ≤ a.fdiv (2 ^ n) ∧ a.fdiv (2 ^ n) ≤ k.max := by
  have h0 : k.min ≤ 0 ∧ -1 ≤ k.max := by cases k <;> decide
  have hp : (0 : Int) < 2 ^ n := Int.pow_pos (by decide)
  rw [Int.fdiv_eq_ediv_of_nonneg _ (Int.le_of_lt hp)]
  have e1 := Int.mul_ediv_add_emod a (2 ^ n)
  have e2 := Int.emod_nonneg a (Int.ne_of_gt hp)
  have e3 := Int.emod_lt_of_pos a hp
  rcases Int.le_total 0 a with h | h
  · have l1 : 0 ≤ a / 2 ^ n := Int.ediv_nonneg h (Int.le_of_lt hp)
    have l2 : a / 2 ^ n ≤ a := Int.ediv_le_self _ h
    omega
  · have l1 : a ≤ a / 2 ^ n := by
      rw [Int.le_ediv_iff_mul_le hp]
      have : a * 2 ^ n ≤ a * 1 := Int.mul_le_mul_of_nonpos_left h (by omega)
      omega
    have l2 : a / 2 ^ n ≤ 0 := by
      have := Int.ediv_le_ediv hp h
      simpa using this
    rcases Int.lt_or_le a 0 with hlt | hge
    · have : a / 2 ^ n < 0 := Int.ediv_neg_of_neg_of_pos hlt hp
      omega
    · have : a = 0 := by omega
      subst this
      simp
      omega

theorem shiftA_ok {op : BinOp} {k yk : IntKind} {a b : Int} {av : AV} (ha : k.min ≤ a ∧ a ≤ k.max) (h : shiftA op k a b = some av) (T : TypeId) :
    ∃ v, (binOp op T (.int k a) (.int yk b)).run P w = .ok v w ∧ VRel ρ σ w av v := by
  unfold shiftA at h
  split at h
  · cases h
  · rename_i hb
    split at h
    · cases h; exact ⟨_, by simp [binOp, Op.shift, hb], ok_int (wrap_range _ _)⟩
    · cases h; exact ⟨_, by simp [binOp, Op.shift, hb], ok_int (fdiv_range _ _ ha.1 ha.2)⟩
    · cases h

theorem strA_ok {op : BinOp} {a b : List UInt8} {va vb : Value} {av : AV} (ha : VRel ρ σ w (.str a) va) (hb : VRel ρ σ w (.str b) vb) (h : strA op a b = some av) (T : TypeId) :
    ∃ v, (binOp op T va vb).run P w = .ok v w ∧ VRel ρ σ w av v := by
  obtain ⟨x, rfl, hx, lx⟩ := ha
  obtain ⟨y, rfl, hy, ly⟩ := hb
  have ex : x.toList = a := by rw [ByteArray.toList_eq, hx]
  have ey : y.toList = b := by rw [ByteArray.toList_eq, hy]
  have sx : x.size = a.length := by rw [← hx, Array.length_toList]; rfl
  have sy : y.size = b.length := by rw [← hy, Array.length_toList]; rfl
  cases op <;> simp only [strA] at h <;>
    first
      | (cases h; done)
      | (cases h; exact ⟨_, by simp [binOp, Op.stringOp, ex, ey], rfl⟩)
      | (split at h
         · rename_i hle; cases h
           refine ⟨.string (x ++ y), ?_, x ++ y, rfl, by simp [hx, hy], by simpa using hle⟩
           have : ¬ ((x.size + y.size : Nat) : Int) > IntKind.i64.max := by
             rw [sx, sy]; simp only [IntKind.max, IntKind.bits, IntKind.signed, if_true]; omega
           simp only [binOp, Op.stringOp]; rw [if_neg this]; rfl
         · cases h)

/-- No two numbers, no two texts. -/
def plainEq : Value → Value → Bool
  | .int .., .int .. | .float .., .float .. | .complex .., .complex .. | .string _, .string _ => false
  | _, _ => true

theorem binOp_eql {vx vy : Value} (h : plainEq vx vy = true) (T : TypeId) : binOp .eql T vx vy = (do pure (.bool (← Op.equal T vx vy))) := by
  cases vx <;> cases vy <;> first | rfl | (simp [plainEq] at h)
theorem binOp_neq {vx vy : Value} (h : plainEq vx vy = true) (T : TypeId) : binOp .neq T vx vy = (do pure (.bool (!(← Op.equal T vx vy)))) := by
  cases vx <;> cases vy <;> first | rfl | (simp [plainEq] at h)

theorem plainEq_of_eqish {x : AV} {vx vy : Value} (hx : x.eqish = true) (h : VRel ρ σ w x vx) : plainEq vx vy = true := by
  cases x <;> simp only [AV.eqish, Bool.false_eq_true] at hx <;> simp only [VRel] at h <;>
    first
      | (subst h; cases vy <;> rfl)
      | (obtain ⟨rfl, _⟩ := h; cases vy <;> rfl)
      | (obtain ⟨_, rfl, _⟩ := h; cases vy <;> rfl)
      | (obtain ⟨_, _, rfl, _⟩ := h; cases vy <;> rfl)
      | (obtain ⟨_, _, _, rfl, _⟩ := h; cases vy <;> rfl)

theorem known_nilIface {x : AV} (hx : x.eqish = true) (h : VRel ρ σ w x .nilIface) : x = .niliface := by
  cases x <;> first | rfl | (simp [AV.eqish] at hx; done) | (simp [VRel] at h)
theorem known_agg {x : AV} {vs : Array Value} (hx : x.eqish = true) (h : VRel ρ σ w x (.agg vs)) : ∃ cs, x = .agg cs := by
  cases x <;> first | exact ⟨_, rfl⟩ | (simp [AV.eqish] at hx; done) | (simp [VRel] at h)

/-- The look ahead of '=='. -/
theorem run_eqGuard {op : BinOp} {T : TypeId} {x y : Operand} {vx vy : Value}
    (h1 : vx = .nilIface → vy = .nilIface → ((x matches .const _) || (y matches .const _)) = true) (h2 : ∀ a b, vx = .agg a → vy = .agg b → P.eqGuardType P.depth T = false) :
    (eqGuard op T x y vx vy).run P w = .ok () w := by
  have hm : ∀ (op' : BinOp), (op' = .eql ∨ op' = .neq) → (eqGuard op' T x y vx vy).run P w = .ok () w := by
    intro op' ho
    unfold eqGuard
    rcases ho with rfl | rfl <;> simp only [Bool.not_true, Bool.false_eq_true, if_false] <;> split
    all_goals first
      | (rename_i e1 e2; have := h1 e1 e2; simp only [this, if_true, Sem.run_pure]; done)
      | (have := h1 (by assumption) (by assumption); simp only [this, if_true, Sem.run_pure]; done)
      | (have := h1 rfl rfl; revert this; cases x <;> cases y <;> intro this <;> first | rfl | cases this)
      | (have := h2 _ _ rfl rfl; simp [this]; done)
      | rfl
  cases op <;> first | exact hm _ (.inl rfl) | exact hm _ (.inr rfl) | rfl

def isConst : Operand → Bool
  | .const _ => true
  | _ => false

theorem binA_ok {op : BinOp} {T : TypeId} {x y : Operand} {ax ay av : AV} {vx vy : Value} (hx : VRel ρ σ w ax vx) (hy : VRel ρ σ w ay vy) (h : binA P op T (isConst x || isConst y) ax ay = some av) :
    ∃ v, ((do eqGuard op T x y vx vy; binOp op T vx vy) : Sem Value).run P w = .ok v w ∧ VRel ρ σ w av v := by
  unfold binA at h
  split at h
  · obtain ⟨rfl, r1⟩ := hx
    obtain ⟨rfl, r2⟩ := hy
    have hg : ∀ k a k' b, (eqGuard op T x y (.int k a) (.int k' b)).run P w = .ok () w := fun _ _ _ _ => run_eqGuard (fun e => by cases e) (fun _ _ e => by cases e)
    simp only [Sem.run_bind, hg, Result.andThen_ok]
    split at h
    · exact shiftA_ok r1 h T
    · exact shiftA_ok r1 h T
    · rename_i n1 n2
      split at h
      · rename_i hk; subst hk; exact intA_ok r1 ⟨n1, n2⟩ h T
      · cases h
  · have e1 := hx
    have e2 := hy
    obtain ⟨bx, rfl, _⟩ := hx
    obtain ⟨by', rfl, _⟩ := hy
    have hg : ∀ a b, (eqGuard op T x y (.string a) (.string b)).run P w = .ok () w := fun _ _ => run_eqGuard (fun e => by cases e) (fun _ _ e => by cases e)
    simp only [Sem.run_bind, hg, Result.andThen_ok]
    exact strA_ok e1 e2 h T
  · split at h
    · rename_i hq
      simp only [Bool.and_eq_true] at hq
      obtain ⟨⟨q1, q2⟩, q3⟩ := hq
      have hg : (eqGuard op T x y vx vy).run P w = .ok () w := run_eqGuard
        (fun ex ey => by
          subst ex; subst ey
          have := known_nilIface q1 hx; have := known_nilIface q2 hy
          subst ax; subst ay
          simp only [guardA] at q3
          cases x <;> cases y <;> simp_all [isConst])
        (fun a b ex ey => by
          subst ex; subst ey
          obtain ⟨_, rfl⟩ := known_agg q1 hx
          obtain ⟨_, rfl⟩ := known_agg q2 hy
          simpa [guardA] using q3)
      have hp := plainEq_of_eqish (vy := vy) q1 hx
      simp only [Sem.run_bind, hg, Result.andThen_ok]
      split at h
      · simp only [Option.map_eq_some_iff] at h
        obtain ⟨r, hr, rfl⟩ := h
        refine ⟨.bool r, ?_, rfl⟩
        rw [binOp_eql hp]
        simp [Op.equal, eqA_ok 64 Op.maxDepth (by decide) T _ _ r vx vy hr hx hy]
      · simp only [Option.map_eq_some_iff] at h
        obtain ⟨r, hr, rfl⟩ := h
        refine ⟨.bool (!r), ?_, rfl⟩
        rw [binOp_neq hp]
        simp [Op.equal, eqA_ok 64 Op.maxDepth (by decide) T _ _ r vx vy hr hx hy]
      · cases h
    · cases h

theorem unA_ok {op : UnOp} {x av : AV} {v : Value} (hx : VRel ρ σ w x v) (h : unA op x = some av) : ∃ u, (Op.unary op v).run P w = .ok u w ∧ VRel ρ σ w av u := by
  unfold unA at h
  split at h
  · obtain ⟨rfl, _⟩ := hx; cases h; exact ⟨_, by simp [Op.unary, Op.intArith], ok_int (wrap_range _ _)⟩
  · obtain ⟨rfl, _⟩ := hx; cases h; exact ⟨_, by simp [Op.unary, Op.intBits], ok_int (wrap_range _ _)⟩
  · simp only [VRel] at hx; subst hx; cases h; exact ⟨_, rfl, rfl⟩
  · cases h
end
end Go.Abs
