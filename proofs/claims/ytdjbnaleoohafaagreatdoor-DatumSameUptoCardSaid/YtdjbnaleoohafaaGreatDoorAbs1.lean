/-
  AN ABSTRACT SEMANTICS: VALUES AS TREES, OWNED MEMORY AS A LIST OF OBJECTS. This text: the values, the relation to the model's values and worlds, what stays when the world goes on.
-/
import Derived.Calls
import Derived.Below
namespace Go.Abs
open Go

/-- An abstract value. -/
inductive AV where
  | undef
  | bool (b : Bool)
  | int (k : IntKind) (n : Int)
  | float (k : FloatKind) (bits : Nat)
  | str (s : List UInt8)
  | nilptr
  | ptr (o off : Nat)
  | pimm (cs : List AV)
  | prow (r ver i off : Nat)
  | nils
  | imm (xs spare : List AV) (full : Bool)
  | own (r ver off len : Nat)
  | nilmap
  | map (m : Nat)
  | func (fn : Fn) (first captured : List AV)
  | nilfunc
  | iface (t : TypeId) (v : AV)
  | niliface
  | agg (cs : List AV)
  | tuple (vs : List AV)
  deriving Inhabited

/-- How many cells an element takes in memory. -/
def AV.ncells : AV → Nat
  | .agg cs => cs.length
  | _ => 1

/-- The cells of a value that is laid into memory. -/
def AV.cells? : AV → Option (List AV)
  | .agg cs => some cs
  | .tuple _ => none
  | .undef => none
  | v => some [v]

/-- An object of the abstract heap: each lies in a block of its own. -/
inductive AObj where
  | box (cs : List AV)
  | row (ver sz : Nat) (xs : List AV)
  | map (es : List (AV × AV))
  | iter (s : List UInt8) (pos : Nat)
  | dead
  deriving Inhabited

def AObj.alive : AObj → Bool
  | .dead => false
  | _ => true

/-- An object that stays where it is as long as it lasts. -/
def AObj.fixed : AObj → Bool
  | .box _ | .map _ | .iter _ _ => true
  | _ => false

abbrev Heap := List AObj

/-- Where an object lies: its block, its first cell, how many elements there is room for. -/
structure Loc where
  blk : Nat
  start : Nat
  cap : Nat

/-- Where the objects lie; and which other blocks are somebody's own: they stay as they are, and nothing plain lies in them. -/
structure Map where
  loc : Nat → Loc
  forb : Nat → Prop
instance : CoeFun Map (fun _ => Nat → Loc) := ⟨Map.loc⟩

/-- The blocks that may be written. -/
def Own (ρ : Map) (σ : Heap) (b : Nat) : Prop := ∃ r obj, σ[r]? = some obj ∧ obj.alive = true ∧ (ρ r).blk = b
/-- The blocks in which nothing plain lies. -/
def Mut (ρ : Map) (σ : Heap) (b : Nat) : Prop := Own ρ σ b ∨ ρ.forb b

def cellsN : List AV → Nat
  | [] => 0
  | x :: xs => x.ncells + cellsN xs

/-- All elements have so many cells. -/
def unif (sz : Nat) (xs : List AV) : Bool := xs.all fun x => x.ncells == sz

section
variable (ρ : Map) (σ : Heap) (w : World)

mutual
/-- Which value of the model an abstract one stands for. -/
def VRel : AV → Value → Prop
  | .undef, _ => True
  | .bool b, v => v = .bool b
  | .int k n, v => v = .int k n ∧ k.min ≤ n ∧ n ≤ k.max
  | .float k n, v => v = .float k n
  | .str s, v => ∃ b : ByteArray, v = .string b ∧ b.data.toList = s ∧ s.length ≤ 2 ^ 62
  | .nilptr, v => v = .pointer none
  | .ptr o off, v => v = .pointer (some ⟨(ρ o).blk, off, none⟩) ∧ ∃ obj, σ[o]? = some obj ∧ obj.fixed = true
  | .pimm cs, v => ∃ a : Addr, v = .pointer (some a) ∧ a.spot = none ∧ ¬ Mut ρ σ a.block ∧ a.block < w.heap.size ∧ CRel cs a.block a.off
  | .prow r ver i off, v => ∃ ver' sz xs, (σ[r]? = some (.row ver' sz xs) ∨ σ[r]? = some .dead) ∧ ver ≤ ver' ∧
      (σ[r]? = some (.row ver' sz xs) → ver' = ver → i < xs.length ∧ v = .pointer (some ⟨(ρ r).blk, (ρ r).start + i * sz + off, none⟩))
  | .imm xs spare full, v => ∃ a len cap, v = .slice a len cap ∧ len = xs.length ∧ xs.length + spare.length ≤ cap ∧ (full = true → cap = xs.length) ∧ xs.length ≤ 2 ^ 48 ∧
      (a = none → cap = 0) ∧ ((∃ x y, xs = x :: y) ∨ (∃ x y, spare = x :: y) → ∃ b off sz, a = some ⟨b, off, none⟩ ∧ ¬ Mut ρ σ b ∧ b < w.heap.size ∧ unif sz xs = true ∧ unif sz spare = true ∧
        RRel xs b off ∧ RRel spare b (off + cellsN xs))
  | .own r ver off len, v => ∃ ver' sz xs, (σ[r]? = some (.row ver' sz xs) ∨ σ[r]? = some .dead) ∧ ver ≤ ver' ∧
      (σ[r]? = some (.row ver' sz xs) → ver' = ver → off + len ≤ xs.length ∧ len ≤ 2 ^ 48 ∧ ∃ o', v = .slice (some ⟨(ρ r).blk, o', none⟩) len ((ρ r).cap - off) ∧ (off < (ρ r).cap → o' = (ρ r).start + off * sz))
  | .nilmap, v => v = .map none
  | .nils, v => v = .slice none 0 0
  | .map m, v => v = .map (some (ρ m).blk) ∧ ∃ es, σ[m]? = some (.map es)
  | .func fn first cap, v => ∃ vs us : List Value, v = .func fn vs.toArray us.toArray ∧ LRel first vs ∧ LRel cap us
  | .nilfunc, v => v = .nilFunc
  | .iface t x, v => ∃ u, v = .iface t u ∧ VRel x u
  | .niliface, v => v = .nilIface
  | .agg cs, v => ∃ vs : List Value, v = .agg vs.toArray ∧ LRel cs vs
  | .tuple cs, v => ∃ vs : List Value, v = .tuple vs.toArray ∧ LRel cs vs
/-- One by one. -/
def LRel : List AV → List Value → Prop
  | [], vs => vs = []
  | c :: cs, vs => ∃ u us, vs = u :: us ∧ VRel c u ∧ LRel cs us
/-- Cells in memory, from a place on. -/
def CRel : List AV → Nat → Nat → Prop
  | [], _, _ => True
  | c :: cs, b, off => (∃ u, w.cell? ⟨b, off, none⟩ = some u ∧ u.oneCell' = true ∧ VRel c u) ∧ CRel cs b (off + 1)
/-- Elements in memory, from a place on. -/
def RRel : List AV → Nat → Nat → Prop
  | [], _, _ => True
  | .agg cs :: xs, b, off => CRel cs b off ∧ RRel xs b (off + cs.length)
  | x :: xs, b, off => (∃ u, w.cell? ⟨b, off, none⟩ = some u ∧ u.oneCell' = true ∧ VRel x u) ∧ RRel xs b (off + 1)
end
end

/-! The references in a value are below a number. -/
mutual
def AV.refsB (n : Nat) : AV → Bool
  | .ptr o _ => decide (o < n)
  | .pimm cs => refsBL n cs
  | .prow r _ _ _ => decide (r < n)
  | .imm xs spare _ => refsBL n xs && refsBL n spare
  | .own r _ _ _ => decide (r < n)
  | .map m => decide (m < n)
  | .func _ first cap => refsBL n first && refsBL n cap
  | .iface _ v => v.refsB n
  | .agg cs => refsBL n cs
  | .tuple cs => refsBL n cs
  | .undef | .bool _ | .int _ _ | .float _ _ | .str _ | .nilptr | .nils | .nilmap | .nilfunc | .niliface => true
def refsBL (n : Nat) : List AV → Bool
  | [] => true
  | c :: cs => c.refsB n && refsBL n cs
end

/-- How an object may go on. -/
def ObjExt (l l' : Loc) : Option AObj → Option AObj → Prop
  | some (.box _), o' => (∃ cs, o' = some (.box cs)) ∧ l'.blk = l.blk
  | some (.map _), o' => (∃ es, o' = some (.map es)) ∧ l'.blk = l.blk
  | some (.iter _ _), o' => (∃ s p, o' = some (.iter s p)) ∧ l'.blk = l.blk
  | some (.row ver sz xs), o' => o' = some .dead ∨ ∃ ver' sz' xs', o' = some (.row ver' sz' xs') ∧ ver ≤ ver' ∧ (ver' = ver → l' = l ∧ sz' = sz ∧ xs'.length = xs.length)
  | some .dead, o' => o' = some .dead
  | none, _ => True

/-- The world and what is owned in it have gone on; of the objects below n. -/
structure Ext (n : Nat) (ρ : Map) (σ : Heap) (w : World) (ρ' : Map) (σ' : Heap) (w' : World) : Prop where
  os : w'.os = w.os
  tape : w'.tape = w.tape
  output : w'.output = w.output
  size : w.heap.size ≤ w'.heap.size
  block : ∀ b, b < w.heap.size → ¬ Own ρ σ b → w'.heap[b]? = w.heap[b]?
  mutb : ∀ b, Own ρ' σ' b → Own ρ σ b ∨ w.heap.size ≤ b
  forb : ρ'.forb = ρ.forb
  objs : ∀ r, r < n → ObjExt (ρ r) (ρ' r) σ[r]? σ'[r]?

section
variable {n : Nat} {ρ ρ' : Map} {σ σ' : Heap} {w w' : World}

theorem cell_of_block {b : Nat} (h : w'.heap[b]? = w.heap[b]?) (off : Nat) : w'.cell? ⟨b, off, none⟩ = w.cell? ⟨b, off, none⟩ := by
  simp only [World.cell?, h]

theorem not_own_ext (hx : Ext n ρ σ w ρ' σ' w') {b : Nat} (hb : b < w.heap.size) (h : ¬ Own ρ σ b) : ¬ Own ρ' σ' b := fun hm =>
  (hx.mutb b hm).elim h (fun hs => by omega)

theorem not_mut_ext (hx : Ext n ρ σ w ρ' σ' w') {b : Nat} (hb : b < w.heap.size) (h : ¬ Mut ρ σ b) : ¬ Mut ρ' σ' b := fun hm =>
  hm.elim (fun hm => (hx.mutb b hm).elim (fun ho => h (.inl ho)) (fun hs => by omega)) (fun hf => h (.inr (hx.forb ▸ hf)))

/-- What of it the plain values need. -/
structure Keep (n : Nat) (ρ : Map) (σ : Heap) (w : World) (ρ' : Map) (σ' : Heap) (w' : World) : Prop where
  size : w.heap.size ≤ w'.heap.size
  block : ∀ b, b < w.heap.size → ¬ Mut ρ σ b → w'.heap[b]? = w.heap[b]?
  muts : ∀ b, b < w.heap.size → ¬ Mut ρ σ b → ¬ Mut ρ' σ' b
  objs : ∀ r, r < n → ObjExt (ρ r) (ρ' r) σ[r]? σ'[r]?

theorem Ext.toKeep (hx : Ext n ρ σ w ρ' σ' w') : Keep n ρ σ w ρ' σ' w' :=
  ⟨hx.size, fun b hb h => hx.block b hb fun ho => h (.inl ho), fun _ hb h => not_mut_ext hx hb h, hx.objs⟩

mutual
theorem vrel_keep (hx : Keep n ρ σ w ρ' σ' w') : ∀ (av : AV) (v : Value), av.refsB n = true → VRel ρ σ w av v → VRel ρ' σ' w' av v
  | .undef, _, _, _ => trivial
  | .bool _, _, _, h => h
  | .int _ _, _, _, h => h
  | .float _ _, _, _, h => h
  | .str _, _, _, h => h
  | .nilptr, _, _, h => h
  | .nilmap, _, _, h => h
  | .nils, _, _, h => h
  | .nilfunc, _, _, h => h
  | .niliface, _, _, h => h
  | .ptr o off, v, hb, ⟨h1, obj, h2, h3⟩ => by
    simp only [AV.refsB, decide_eq_true_eq] at hb
    have ho := hx.objs o hb
    rw [h2] at ho
    unfold VRel
    cases obj with
    | box cs => obtain ⟨⟨cs', e⟩, e2⟩ := ho; rw [e2]; exact ⟨h1, _, e, rfl⟩
    | map cs => obtain ⟨⟨cs', e⟩, e2⟩ := ho; rw [e2]; exact ⟨h1, _, e, rfl⟩
    | iter s p => obtain ⟨⟨s', p', e⟩, e2⟩ := ho; rw [e2]; exact ⟨h1, _, e, rfl⟩
    | row a b c => cases h3
    | dead => cases h3
  | .pimm cs, v, hb, ⟨a, h1, h2, h3, h4, h5⟩ => by
    simp only [AV.refsB] at hb
    exact ⟨a, h1, h2, hx.muts _ h4 h3, Nat.lt_of_lt_of_le h4 hx.size, crel_keep hx cs _ _ hb (hx.block _ h4 h3) h5⟩
  | .prow r ver i off, v, hb, ⟨ver', sz, xs, h1, h2, h3⟩ => by
    simp only [AV.refsB, decide_eq_true_eq] at hb
    have ho := hx.objs r hb
    unfold VRel
    rcases h1 with h1 | h1
    · rw [h1] at ho
      rcases ho with ho | ⟨ver2, sz2, xs2, e1, e2, e3⟩
      · exact ⟨ver', sz, xs, .inr ho, h2, fun h => by rw [ho] at h; cases h⟩
      · refine ⟨ver2, sz2, xs2, .inl e1, Nat.le_trans h2 e2, fun _ hv => ?_⟩
        obtain rfl : ver' = ver := by omega
        obtain ⟨a1, a2, a3⟩ := e3 hv
        obtain ⟨b1, b2⟩ := h3 h1 rfl
        rw [a1, a2, a3]; exact ⟨b1, b2⟩
    · rw [h1] at ho
      exact ⟨ver', sz, xs, .inr ho, h2, fun h => by rw [ho] at h; cases h⟩
  | .imm xs spare full, v, hb, ⟨a, len, cap, h1, h2, h3, h4, h5, h6, h7⟩ => by
    simp only [AV.refsB, Bool.and_eq_true] at hb
    refine ⟨a, len, cap, h1, h2, h3, h4, h5, h6, fun hne => ?_⟩
    obtain ⟨b, off, sz, e1, e2, e3, e4, e5, e6, e7⟩ := h7 hne
    exact ⟨b, off, sz, e1, hx.muts _ e3 e2, Nat.lt_of_lt_of_le e3 hx.size, e4, e5, rrel_keep hx xs _ _ hb.1 (hx.block _ e3 e2) e6, rrel_keep hx spare _ _ hb.2 (hx.block _ e3 e2) e7⟩
  | .own r ver off len, v, hb, ⟨ver', sz, xs, h1, h2, h3⟩ => by
    simp only [AV.refsB, decide_eq_true_eq] at hb
    have ho := hx.objs r hb
    unfold VRel
    rcases h1 with h1 | h1
    · rw [h1] at ho
      rcases ho with ho | ⟨ver2, sz2, xs2, e1, e2, e3⟩
      · exact ⟨ver', sz, xs, .inr ho, h2, fun h => by rw [ho] at h; cases h⟩
      · refine ⟨ver2, sz2, xs2, .inl e1, Nat.le_trans h2 e2, fun _ hv => ?_⟩
        obtain rfl : ver' = ver := by omega
        obtain ⟨a1, a2, a3⟩ := e3 hv
        rw [a1, a2, a3]; exact h3 h1 rfl
    · rw [h1] at ho
      exact ⟨ver', sz, xs, .inr ho, h2, fun h => by rw [ho] at h; cases h⟩
  | .map m, v, hb, ⟨h1, es, h2⟩ => by
    simp only [AV.refsB, decide_eq_true_eq] at hb
    have ho := hx.objs m hb
    rw [h2] at ho
    obtain ⟨⟨es', e⟩, e2⟩ := ho
    unfold VRel; rw [e2]; exact ⟨h1, _, e⟩
  | .func fn first cap, v, hb, ⟨vs, us, h1, h2, h3⟩ => by
    simp only [AV.refsB, Bool.and_eq_true] at hb
    exact ⟨vs, us, h1, lrel_keep hx first vs hb.1 h2, lrel_keep hx cap us hb.2 h3⟩
  | .iface t x, v, hb, ⟨u, h1, h2⟩ => by
    simp only [AV.refsB] at hb
    exact ⟨u, h1, vrel_keep hx x u hb h2⟩
  | .agg cs, v, hb, ⟨vs, h1, h2⟩ => by
    simp only [AV.refsB] at hb
    exact ⟨vs, h1, lrel_keep hx cs vs hb h2⟩
  | .tuple cs, v, hb, ⟨vs, h1, h2⟩ => by
    simp only [AV.refsB] at hb
    exact ⟨vs, h1, lrel_keep hx cs vs hb h2⟩
theorem lrel_keep (hx : Keep n ρ σ w ρ' σ' w') : ∀ (cs : List AV) (vs : List Value), refsBL n cs = true → LRel ρ σ w cs vs → LRel ρ' σ' w' cs vs
  | [], _, _, h => h
  | c :: cs, vs, hb, ⟨u, us, h1, h2, h3⟩ => by
    simp only [refsBL, Bool.and_eq_true] at hb
    exact ⟨u, us, h1, vrel_keep hx c u hb.1 h2, lrel_keep hx cs us hb.2 h3⟩
theorem crel_keep (hx : Keep n ρ σ w ρ' σ' w') : ∀ (cs : List AV) (b off : Nat), refsBL n cs = true → w'.heap[b]? = w.heap[b]? → CRel ρ σ w cs b off → CRel ρ' σ' w' cs b off
  | [], _, _, _, _, _ => trivial
  | c :: cs, b, off, hb, hh, ⟨⟨u, h1, h2, h3⟩, h4⟩ => by
    simp only [refsBL, Bool.and_eq_true] at hb
    exact ⟨⟨u, by rw [cell_of_block hh]; exact h1, h2, vrel_keep hx c u hb.1 h3⟩, crel_keep hx cs b (off + 1) hb.2 hh h4⟩
theorem rrel_keep (hx : Keep n ρ σ w ρ' σ' w') : ∀ (xs : List AV) (b off : Nat), refsBL n xs = true → w'.heap[b]? = w.heap[b]? → RRel ρ σ w xs b off → RRel ρ' σ' w' xs b off
  | [], _, _, _, _, _ => trivial
  | x :: xs, b, off, hb, hh, h => by
    simp only [refsBL, Bool.and_eq_true] at hb
    by_cases hx' : ∃ cs, x = .agg cs
    · obtain ⟨cs, rfl⟩ := hx'
      have hb1 : refsBL n cs = true := by simpa [AV.refsB] using hb.1
      exact ⟨crel_keep hx cs b off hb1 hh h.1, rrel_keep hx xs b _ hb.2 hh h.2⟩
    · have key : ∀ (ρ : Map) (σ : Heap) (w : World), RRel ρ σ w (x :: xs) b off = ((∃ u, w.cell? ⟨b, off, none⟩ = some u ∧ u.oneCell' = true ∧ VRel ρ σ w x u) ∧ RRel ρ σ w xs b (off + 1)) := by
        intro ρ σ w; cases x <;> first | rfl | exact absurd ⟨_, rfl⟩ hx'
      rw [key] at h ⊢
      obtain ⟨⟨u, h1, h2, h3⟩, h4⟩ := h
      exact ⟨⟨u, by rw [cell_of_block hh]; exact h1, h2, vrel_keep hx x u hb.1 h3⟩, rrel_keep hx xs b _ hb.2 hh h4⟩
end
theorem vrel_ext (hx : Ext n ρ σ w ρ' σ' w') (av : AV) (v : Value) (h : av.refsB n = true) (hv : VRel ρ σ w av v) : VRel ρ' σ' w' av v := vrel_keep hx.toKeep av v h hv
theorem lrel_ext (hx : Ext n ρ σ w ρ' σ' w') (cs : List AV) (vs : List Value) (h : refsBL n cs = true) (hv : LRel ρ σ w cs vs) : LRel ρ' σ' w' cs vs := lrel_keep hx.toKeep cs vs h hv
theorem crel_ext (hx : Ext n ρ σ w ρ' σ' w') (cs : List AV) (b off : Nat) (h : refsBL n cs = true) (hh : w'.heap[b]? = w.heap[b]?) (hv : CRel ρ σ w cs b off) : CRel ρ' σ' w' cs b off := crel_keep hx.toKeep cs b off h hh hv
theorem rrel_ext (hx : Ext n ρ σ w ρ' σ' w') (xs : List AV) (b off : Nat) (h : refsBL n xs = true) (hh : w'.heap[b]? = w.heap[b]?) (hv : RRel ρ σ w xs b off) : RRel ρ' σ' w' xs b off := rrel_keep hx.toKeep xs b off h hh hv
end
end Go.Abs
