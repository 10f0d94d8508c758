/-
  AN ABSTRACT SEMANTICS, 5: operations that only compute and read.
-/
import Derived.Test.YtdjbnaleoohafaaGreatDoorAbs4
import Derived.Laws.Strings
import Derived.Laws.Slices
import Derived.ChangeKeysEq
import Derived.Laws.StructEq
namespace Go.Abs
open Go Go.RowKit

abbrev Env := Nat → AV

/-- The program, and what of its package-level variables is known. -/
structure Ctx where
  P : Program
  G : Nat → Option (List AV)

def ofConst1 : Value → AV
  | .bool b => .bool b
  | .int k n => if k.min ≤ n ∧ n ≤ k.max then .int k n else .undef
  | .float k b => .float k b
  | .string s => if s.data.toList.length ≤ 2 ^ 62 then .str s.data.toList else .undef
  | .pointer none => .nilptr
  | .slice none 0 0 => .nils
  | .map none => .nilmap
  | .nilFunc => .nilfunc
  | .nilIface => .niliface
  | _ => .undef
def ofConst : Value → AV
  | .agg cs => .agg (cs.toList.map ofConst1)
  | v => ofConst1 v

section
variable {ρ : Map} {σ : Heap} {w : World}
theorem vrel_const1 (v : Value) : VRel ρ σ w (ofConst1 v) v := by
  unfold ofConst1
  split <;> (try split) <;> simp_all [VRel]
theorem lrel_const1 : ∀ (l : List Value), LRel ρ σ w (l.map ofConst1) l
  | [] => rfl
  | v :: l => ⟨v, l, rfl, vrel_const1 v, lrel_const1 l⟩
theorem vrel_const (v : Value) : VRel ρ σ w (ofConst v) v := by
  unfold ofConst
  split
  · exact ⟨_, rfl, lrel_const1 _⟩
  · exact vrel_const1 v
end

def evA (C : Ctx) (env : Env) : Operand → AV
  | .tmp t => env t
  | .const v => ofConst v
  | .global g => match C.G g with
    | some cs => .pimm cs
    | none => .undef
  | .func f => .func (.func f) [] []

/-- The package-level variables hold what is known of them. -/
def GRel (C : Ctx) (ρ : Map) (σ : Heap) (w : World) : Prop := ∀ g cs, C.G g = some cs → VRel ρ σ w (.pimm cs) (.pointer (some ⟨g, 0, none⟩))

def EnvRel (ρ : Map) (σ : Heap) (w : World) (env : Env) (a : Act) : Prop := ∀ t, VRel ρ σ w (env t) (a.tmps.getD t undef)

theorem evA_ok {C : Ctx} {ρ : Map} {σ : Heap} {w : World} {env : Env} {a : Act} (hg : GRel C ρ σ w) (he : EnvRel ρ σ w env a) (x : Operand) : VRel ρ σ w (evA C env x) (a.eval x) := by
  cases x with
  | tmp t => exact he t
  | const v => exact vrel_const v
  | global g =>
    simp only [evA, Act.eval]
    cases h : C.G g with
    | some cs => exact hg g cs h
    | none => trivial
  | func f => exact ⟨[], [], rfl, rfl, rfl⟩

theorem wrap_range (k : IntKind) (n : Int) : k.min ≤ k.wrap n ∧ k.wrap n ≤ k.max := by
  cases k <;> simp [IntKind.wrap, IntKind.min, IntKind.max, IntKind.bits, IntKind.signed] <;> (try split) <;> omega
theorem tmod_le {a b : Int} (h : 0 ≤ a) : a.tmod b ≤ a := by
  obtain ⟨m, rfl⟩ := Int.eq_ofNat_of_zero_le h
  rcases Int.le_total 0 b with hb | hb
  · obtain ⟨n, rfl⟩ := Int.eq_ofNat_of_zero_le hb
    rw [← Int.ofNat_tmod]; exact Int.ofNat_le.2 (Nat.mod_le m n)
  · obtain ⟨n, hn⟩ := Int.eq_ofNat_of_zero_le (a := -b) (by omega)
    obtain rfl : b = -(n : Int) := by omega
    rw [Int.tmod_neg, ← Int.ofNat_tmod]; exact Int.ofNat_le.2 (Nat.mod_le m n)
theorem rem_range (k : IntKind) {a b : Int} (h1 : k.min ≤ a) (h2 : a ≤ k.max) : k.min ≤ a.tmod b ∧ a.tmod b ≤ k.max := by
  have h0 : k.min ≤ 0 ∧ 0 ≤ k.max := by cases k <;> decide
  rcases Int.le_total 0 a with h | h
  · have l1 := Int.tmod_nonneg b h
    have l2 := tmod_le (b := b) h
    omega
  · have l1 : a.tmod b = -((-a).tmod b) := by rw [Int.neg_tmod]; simp
    have l2 := Int.tmod_nonneg b (a := -a) (by omega)
    have l3 := tmod_le (a := -a) (b := b) (by omega)
    omega

def intA (op : BinOp) (k : IntKind) (a b : Int) : Option AV :=
  match op with
  | .add => some (.int k (k.wrap (a + b)))
  | .sub => some (.int k (k.wrap (a - b)))
  | .mul => some (.int k (k.wrap (a * b)))
  | .quo => if b = 0 then none else some (.int k (k.wrap (a.tdiv b)))
  | .rem => if b = 0 then none else some (.int k (a.tmod b))
  | .and => some (.int k (k.wrap ((BitVec.ofInt k.bits a &&& BitVec.ofInt k.bits b).toNat)))
  | .or => some (.int k (k.wrap ((BitVec.ofInt k.bits a ||| BitVec.ofInt k.bits b).toNat)))
  | .xor => some (.int k (k.wrap ((BitVec.ofInt k.bits a ^^^ BitVec.ofInt k.bits b).toNat)))
  | .andNot => some (.int k (k.wrap ((BitVec.ofInt k.bits a &&& ~~~(BitVec.ofInt k.bits b)).toNat)))
  | .eql => some (.bool (a == b))
  | .neq => some (.bool (a != b))
  | .lss => some (.bool (decide (a < b)))
  | .leq => some (.bool (decide (a ≤ b)))
  | .gtr => some (.bool (decide (a > b)))
  | .geq => some (.bool (decide (a ≥ b)))
  | _ => none

def shiftA (op : BinOp) (k : IntKind) (a b : Int) : Option AV :=
  if b < 0 then none else
  match op with
  | .shl => some (.int k (k.wrap (a * 2 ^ (min b.toNat k.bits))))
  | .shr => some (.int k (a.fdiv (2 ^ (min b.toNat k.bits))))
  | _ => none

def strA (op : BinOp) (a b : List UInt8) : Option AV :=
  match op with
  | .add => if a.length + b.length ≤ 2 ^ 62 then some (.str (a ++ b)) else none
  | .eql => some (.bool (a == b))
  | .neq => some (.bool (!(a == b)))
  | .lss => some (.bool (Op.bytesLess a b))
  | .leq => some (.bool (Op.bytesLess a b || a == b))
  | .gtr => some (.bool (!(Op.bytesLess a b || a == b)))
  | .geq => some (.bool (!(Op.bytesLess a b)))
  | _ => none

/-- Is a type's value an aggregate? -/
def kindAgg (P : Program) (t : TypeId) : Option Bool :=
  match P.underlying t with
  | some (.struct _) => some true
  | some (.array _ _) => some true
  | some _ => some false
  | none => none

/-- A part of an aggregate's cells, by its type. -/
def partA (P : Program) (t : TypeId) (cs : List AV) (off : Nat) : Option AV :=
  match kindAgg P t with
  | some true => match P.info? t with
    | some i => some (.agg ((cs.drop off).take i.size))
    | none => none
  | some false => cs[off]?
  | none => none

/-- The fields of two structs, one by one. -/
def eqFieldsA (P : Program) (eq : TypeId → AV → AV → Option Bool) (xs ys : List AV) : List Field → Option Bool
  | [] => some true
  | f :: fs =>
    if f.name = "_" then eqFieldsA P eq xs ys fs else
    match partA P f.type xs f.offset, partA P f.type ys f.offset with
    | some a, some b => match eq f.type a b with
      | some true => eqFieldsA P eq xs ys fs
      | some false => some false
      | none => none
    | _, _ => none

/-- '==' by the operands' type. -/
def eqA (P : Program) : Nat → TypeId → AV → AV → Option Bool
  | 0, _, _, _ => none
  | d + 1, t, x, y =>
    match P.underlying t, x, y with
    | some .bool, .bool a, .bool b => some (a == b)
    | some (.int _), .int k a, .int k' b => if k = k' then some (a == b) else none
    | some .string, .str a, .str b => some (a == b)
    | some (.pointer _), .nilptr, .nilptr => some true
    | some (.pointer _), .nilptr, .ptr _ _ => some false
    | some (.pointer _), .ptr _ _, .nilptr => some false
    | some (.pointer _), .nilptr, .pimm _ => some false
    | some (.pointer _), .pimm _, .nilptr => some false
    | some (.interface _), .niliface, .niliface => some true
    | some (.interface _), .niliface, .iface _ _ => some false
    | some (.interface _), .iface _ _, .niliface => some false
    | some (.map _ _), .nilmap, .nilmap => some true
    | some (.map _ _), .map _, .nilmap => some false
    | some (.map _ _), .nilmap, .map _ => some false
    | some (.func _ _ _), .nilfunc, .nilfunc => some true
    | some (.func _ _ _), .nilfunc, .func _ _ _ => some false
    | some (.func _ _ _), .func _ _ _, .nilfunc => some false
    | some (.slice _), .nils, .nils => some true
    | some (.slice _), .imm (_ :: _) _ _, .nils => some false
    | some (.slice _), .nils, .imm (_ :: _) _ _ => some false
    | some (.struct fs), .agg xs, .agg ys => if P.stoodInHeld t = true then none else eqFieldsA P (eqA P d) xs ys fs.toList
    | _, _, _ => none

section
variable {P : Program} {ρ : Map} {σ : Heap} {w : World}

theorem run_und {t : TypeId} {d : TypeDesc} (h : P.underlying t = some d) : (underlying t).run P w = .ok d w := run_underlying h w
theorem run_isAgg {t : TypeId} {b : Bool} (h : kindAgg P t = some b) : (isAgg t).run P w = .ok b w := by
  unfold kindAgg at h
  split at h <;> rename_i hu
  · cases h; simp [isAgg, run_und hu]
  · cases h; simp [isAgg, run_und hu]
  · rename_i d n1 n2
    cases h
    cases d <;> first | exact absurd rfl (n1 _) | exact absurd rfl (n2 _ _) | simp [isAgg, run_und hu]
  · cases h

theorem lrel_map {cs : List AV} {us : List Value} (h : LRel ρ σ w cs us) (i : Nat) {c : AV} (hc : cs[i]? = some c) : ∃ u, us[i]? = some u ∧ VRel ρ σ w c u := lrel_get h i c hc

theorem partA_ok {t : TypeId} {cs : List AV} {us : List Value} {off : Nat} {a : AV} (hr : LRel ρ σ w cs us) (h : partA P t cs off = some a) :
    ∃ v, (part t us.toArray off).run P w = .ok v w ∧ VRel ρ σ w a v := by
  unfold partA at h
  split at h
  · rename_i hk
    split at h
    · rename_i i hi
      cases h
      refine ⟨.agg (us.toArray.extract off (off + i.size)), by simp [part, run_isAgg hk, run_sizeOf w hi, Program.cellsOf, hi], (us.drop off).take i.size, ?_, lrel_take (lrel_drop hr off) _⟩
      congr 1
      simp
    · cases h
  · rename_i hk
    obtain ⟨u, h1, h2⟩ := lrel_get hr off a h
    exact ⟨u, by simp [part, run_isAgg hk, h1], h2⟩
  · cases h

theorem eqFieldsA_ok {eq : TypeId → AV → AV → Option Bool} {D : Nat} (heq : ∀ t x y r vx vy, eq t x y = some r → VRel ρ σ w x vx → VRel ρ σ w y vy → (Op.equalIn D t vx vy).run P w = .ok r w)
    {xs ys : List AV} {us vs : List Value} (hx : LRel ρ σ w xs us) (hy : LRel ρ σ w ys vs) : ∀ (fs : List Field) {r : Bool}, eqFieldsA P eq xs ys fs = some r → (Op.eqFields D us.toArray vs.toArray fs).run P w = .ok r w
  | [], r, h => by simp only [eqFieldsA, Option.some.injEq] at h; subst h; rfl
  | f :: fs, r, h => by
    simp only [eqFieldsA] at h
    simp only [Op.eqFields]
    by_cases hn : f.name = "_"
    · rw [if_pos hn] at h
      rw [if_neg (by simp [hn])]
      exact eqFieldsA_ok heq hx hy fs h
    · rw [if_neg hn] at h
      rw [if_pos hn]
      split at h
      · rename_i a b ha hb
        obtain ⟨va, e1, e2⟩ := partA_ok (P := P) hx ha
        obtain ⟨vb, e3, e4⟩ := partA_ok (P := P) hy hb
        simp only [Sem.run_bind, e1, e3, Result.andThen_ok]
        split at h
        · rename_i hq
          rw [heq _ _ _ _ _ _ hq e2 e4]
          simpa using eqFieldsA_ok heq hx hy fs h
        · rename_i hq
          cases h
          rw [heq _ _ _ _ _ _ hq e2 e4]; simp
        · cases h
      · cases h

theorem bytes_beq {a b : ByteArray} {s t : List UInt8} (ha : a.data.toList = s) (hb : b.data.toList = t) : (a.toList == b.toList) = (s == t) := by
  rw [ByteArray.toList_eq, ByteArray.toList_eq, ha, hb]

theorem eqA_ok : ∀ (d D : Nat), d ≤ D → ∀ (t : TypeId) (x y : AV) (r : Bool) (vx vy : Value), eqA P d t x y = some r → VRel ρ σ w x vx → VRel ρ σ w y vy → (Op.equalIn D t vx vy).run P w = .ok r w := by
  intro d
  induction d with
  | zero => intro D _ t x y r vx vy h; simp [eqA] at h
  | succ d ih =>
    intro D hD t x y r vx vy h hx hy
    obtain ⟨D, rfl⟩ : ∃ k, D = k + 1 := ⟨D - 1, by omega⟩
    unfold eqA at h
    split at h
    case h_21 hu =>
      obtain ⟨us, rfl, hx⟩ := hx
      obtain ⟨vs, rfl, hy⟩ := hy
      split at h
      · cases h
      · rename_i hp
        rw [run_equalIn_struct w D t us.toArray vs.toArray (by rw [hu]; simp [Program.fieldsOf, hu]) (by simpa using hp)]
        simp only [Program.fieldsOf, hu]
        exact eqFieldsA_ok (fun t x y r vx vy h hx hy => ih D (by omega) t x y r vx vy h hx hy) hx hy _ h
    case h_1 hu => simp only [VRel] at hx hy; subst hx; subst hy; cases h; simp [Op.equalIn, run_und hu]
    case h_2 hu =>
      obtain ⟨rfl, _⟩ := hx
      obtain ⟨rfl, _⟩ := hy
      split at h
      · rename_i hk; subst hk; cases h; simp [Op.equalIn, run_und hu]
      · cases h
    case h_3 hu =>
      obtain ⟨bx, rfl, hx, _⟩ := hx
      obtain ⟨by', rfl, hy, _⟩ := hy
      cases h
      rw [run_equalIn_string w D t bx by' hu, bytes_beq hx hy]
    all_goals first
      | (cases h; done)
      | (rename_i hu; cases h; simp only [VRel] at hx hy; subst hx; subst hy; simp [Op.equalIn, run_und hu]; done)
      | (rename_i hu; cases h; simp only [VRel] at hx hy; obtain ⟨rfl, _⟩ := hx; subst hy; simp [Op.equalIn, run_und hu]; done)
      | (rename_i hu; cases h; simp only [VRel] at hx hy; obtain ⟨rfl, _⟩ := hy; subst hx; simp [Op.equalIn, run_und hu]; done)
      | (rename_i hu; cases h; simp only [VRel] at hx hy; obtain ⟨_, rfl, _⟩ := hx; subst hy; simp [Op.equalIn, run_und hu]; done)
      | (rename_i hu; cases h; simp only [VRel] at hx hy; obtain ⟨_, rfl, _⟩ := hy; subst hx; simp [Op.equalIn, run_und hu]; done)
      | (rename_i hu; cases h; simp only [VRel] at hx hy; obtain ⟨_, _, rfl, _⟩ := hx; subst hy; simp [Op.equalIn, run_und hu]; done)
      | (rename_i hu; cases h; simp only [VRel] at hx hy; obtain ⟨_, _, rfl, _⟩ := hy; subst hx; simp [Op.equalIn, run_und hu]; done)
      | (rename_i x y f hu; cases h; obtain ⟨a, len, cap, rfl, e1, e2, e3, e4, e5, e6⟩ := hx; simp only [VRel] at hy; subst hy; obtain ⟨b, off, sz, rfl, _⟩ := e6 (.inl ⟨_, _, rfl⟩); simp [Op.equalIn, run_und hu]; done)
      | (rename_i x y f hu; cases h; obtain ⟨a, len, cap, rfl, e1, e2, e3, e4, e5, e6⟩ := hy; simp only [VRel] at hx; subst hx; obtain ⟨b, off, sz, rfl, _⟩ := e6 (.inl ⟨_, _, rfl⟩); simp [Op.equalIn, run_und hu]; done)
end
end Go.Abs
