/-
  AN ABSTRACT SEMANTICS, 2: what is owned, and how it goes on.
-/
import Derived.Test.YtdjbnaleoohafaaGreatDoorAbs1
namespace Go.Abs
open Go Go.RowKit

section
variable {ρ : Map} {σ : Heap} {w : World}

theorem lt_of_some {r : Nat} {o : AObj} (h : σ[r]? = some o) : r < σ.length := by
  rcases Nat.lt_or_ge r σ.length with h' | h'
  · exact h'
  · rw [List.getElem?_eq_none h'] at h; cases h

mutual
theorem vrel_refs : ∀ (av : AV) (v : Value), VRel ρ σ w av v → av.refsB σ.length = true
  | .undef, _, _ | .bool _, _, _ | .int _ _, _, _ | .float _ _, _, _ | .str _, _, _ | .nilptr, _, _ | .nils, _, _ | .nilmap, _, _ | .nilfunc, _, _ | .niliface, _, _ => rfl
  | .ptr o off, v, ⟨h1, obj, h2, h3⟩ => by simp only [AV.refsB, decide_eq_true_eq]; exact lt_of_some h2
  | .pimm cs, v, ⟨a, h1, h2, h3, h4, h5⟩ => by simp only [AV.refsB]; exact crel_refs cs _ _ h5
  | .prow r ver i off, v, ⟨ver', sz, xs, h1, h2, h3⟩ => by
    simp only [AV.refsB, decide_eq_true_eq]; exact h1.elim lt_of_some lt_of_some
  | .imm xs spare full, v, ⟨a, len, cap, h1, h2, h3, h4, h5, h6, h7⟩ => by
    simp only [AV.refsB, Bool.and_eq_true]
    by_cases hne : (∃ x y, xs = x :: y) ∨ (∃ x y, spare = x :: y)
    · obtain ⟨b, off, sz, e1, e2, e3, e4, e5, e6, e7⟩ := h7 hne
      exact ⟨rrel_refs xs _ _ e6, rrel_refs spare _ _ e7⟩
    · cases xs with
      | cons x y => exact absurd (Or.inl ⟨x, y, rfl⟩) hne
      | nil => cases spare with
        | cons x y => exact absurd (Or.inr ⟨x, y, rfl⟩) hne
        | nil => exact ⟨rfl, rfl⟩
  | .own r ver off len, v, ⟨ver', sz, xs, h1, h2, h3⟩ => by
    simp only [AV.refsB, decide_eq_true_eq]; exact h1.elim lt_of_some lt_of_some
  | .map m, v, ⟨h1, es, h2⟩ => by simp only [AV.refsB, decide_eq_true_eq]; exact lt_of_some h2
  | .func fn first cap, v, ⟨vs, us, h1, h2, h3⟩ => by
    simp only [AV.refsB, Bool.and_eq_true]; exact ⟨lrel_refs first vs h2, lrel_refs cap us h3⟩
  | .iface t x, v, ⟨u, h1, h2⟩ => by simp only [AV.refsB]; exact vrel_refs x u h2
  | .agg cs, v, ⟨vs, h1, h2⟩ => by simp only [AV.refsB]; exact lrel_refs cs vs h2
  | .tuple cs, v, ⟨vs, h1, h2⟩ => by simp only [AV.refsB]; exact lrel_refs cs vs h2
theorem lrel_refs : ∀ (cs : List AV) (vs : List Value), LRel ρ σ w cs vs → refsBL σ.length cs = true
  | [], _, _ => rfl
  | c :: cs, vs, ⟨u, us, h1, h2, h3⟩ => by simp only [refsBL, Bool.and_eq_true]; exact ⟨vrel_refs c u h2, lrel_refs cs us h3⟩
theorem crel_refs : ∀ (cs : List AV) (b off : Nat), CRel ρ σ w cs b off → refsBL σ.length cs = true
  | [], _, _, _ => rfl
  | c :: cs, b, off, ⟨⟨u, h1, h2, h3⟩, h4⟩ => by simp only [refsBL, Bool.and_eq_true]; exact ⟨vrel_refs c u h3, crel_refs cs _ _ h4⟩
theorem rrel_refs : ∀ (xs : List AV) (b off : Nat), RRel ρ σ w xs b off → refsBL σ.length xs = true
  | [], _, _, _ => rfl
  | x :: xs, b, off, h => by
    simp only [refsBL, Bool.and_eq_true]
    by_cases hx' : ∃ cs, x = .agg cs
    · obtain ⟨cs, rfl⟩ := hx'
      exact ⟨by simp only [AV.refsB]; exact crel_refs cs b off h.1, rrel_refs xs b _ h.2⟩
    · have key : RRel ρ σ w (x :: xs) b off = ((∃ u, w.cell? ⟨b, off, none⟩ = some u ∧ u.oneCell' = true ∧ VRel ρ σ w x u) ∧ RRel ρ σ w xs b (off + 1)) := by
        cases x <;> first | rfl | exact absurd ⟨_, rfl⟩ hx'
      rw [key] at h
      obtain ⟨⟨u, h1, h2, h3⟩, h4⟩ := h
      exact ⟨vrel_refs x u h3, rrel_refs xs b _ h4⟩
end

/-- Fewer are below a smaller number. -/
theorem refs_mono {n m : Nat} (h : n ≤ m) : ∀ (av : AV), av.refsB n = true → av.refsB m = true := by
  intro av
  induction av using AV.rec (motive_2 := fun cs => refsBL n cs = true → refsBL m cs = true) <;> simp_all [AV.refsB, refsBL] <;> omega
theorem refsL_mono {n m : Nat} (h : n ≤ m) (cs : List AV) (hc : refsBL n cs = true) : refsBL m cs = true := by
  induction cs with
  | nil => rfl
  | cons c cs ih => simp only [refsBL, Bool.and_eq_true] at hc ⊢; exact ⟨refs_mono h c hc.1, ih hc.2⟩

/-- No cell of a row may be marked as a string's. -/
def NoFz (fz : Nat × Nat) (n : Nat) : Prop := ∀ o, o < n → ¬ (fz.1 ≤ o ∧ o < fz.2)

/-- The entries of a map, one by one. -/
def ERel (ρ : Map) (σ : Heap) (w : World) : List (AV × AV) → List MapEntry → Prop
  | [], es => es = []
  | (k, v) :: r, es => ∃ e es', es = e :: es' ∧ VRel ρ σ w k e.key ∧ VRel ρ σ w v e.val ∧ ERel ρ σ w r es'

/-- What an object stands for. -/
def ObjRel (ρ : Map) (σ : Heap) (w : World) (r : Nat) : AObj → Prop
  | .dead => True
  | .box cs => ∃ c el fz, w.heap[(ρ r).blk]? = some (.cells c el fz) ∧ NoFz fz c.size ∧ LRel ρ σ w cs c.toList ∧ ∀ u ∈ c.toList, u.oneCell' = true
  | .row _ sz xs => ∃ c el fz, w.heap[(ρ r).blk]? = some (.cells c el fz) ∧ NoFz fz c.size ∧ xs.length ≤ (ρ r).cap ∧ (ρ r).start + (ρ r).cap * sz ≤ c.size ∧ unif sz xs = true ∧ RRel ρ σ w xs (ρ r).blk (ρ r).start
  | .map es => ∃ en clock, w.heap[(ρ r).blk]? = some (.map en clock) ∧ ERel ρ σ w es en.toList
  | .iter s pos => ∃ b : ByteArray, w.heap[(ρ r).blk]? = some (.stringIter b pos) ∧ b.data.toList = s ∧ s.length ≤ 2 ^ 62

structure Sim (ρ : Map) (σ : Heap) (w : World) : Prop where
  obj : ∀ r o, σ[r]? = some o → ObjRel ρ σ w r o
  inj : ∀ r r' o o', σ[r]? = some o → σ[r']? = some o' → o.alive = true → o'.alive = true → (ρ r).blk = (ρ r').blk → r = r'
  fb : ∀ b, ρ.forb b → b < w.heap.size ∧ ¬ Own ρ σ b

theorem ObjRel.lt {r : Nat} {o : AObj} (h : ObjRel ρ σ w r o) (ha : o.alive = true) : (ρ r).blk < w.heap.size := by
  have key : ∀ x, w.heap[(ρ r).blk]? = some x → (ρ r).blk < w.heap.size := fun x hx => by
    rcases Nat.lt_or_ge (ρ r).blk w.heap.size with h' | h'
    · exact h'
    · rw [Array.getElem?_eq_none h'] at hx; cases hx
  cases o with
  | dead => cases ha
  | box cs => obtain ⟨c, el, fz, h1, _⟩ := h; exact key _ h1
  | row a b xs => obtain ⟨c, el, fz, h1, _⟩ := h; exact key _ h1
  | map es => obtain ⟨en, cl, h1, _⟩ := h; exact key _ h1
  | iter s p => obtain ⟨b, h1, _⟩ := h; exact key _ h1

theorem Sim.mut_lt (h : Sim ρ σ w) {b : Nat} (hm : Mut ρ σ b) : b < w.heap.size := by
  rcases hm with ⟨r, o, h1, h2, rfl⟩ | hm
  · exact (h.obj r o h1).lt h2
  · exact (h.fb b hm).1

/-- The references within an object. -/
def AObj.refsB (n : Nat) : AObj → Bool
  | .box cs => refsBL n cs
  | .row _ _ xs => refsBL n xs
  | .map es => es.all fun e => e.1.refsB n && e.2.refsB n
  | .iter _ _ | .dead => true

theorem erel_refs : ∀ (es : List (AV × AV)) (en : List MapEntry), ERel ρ σ w es en → (AObj.map es).refsB σ.length = true
  | [], _, _ => rfl
  | (k, v) :: r, en, ⟨e, es', h1, h2, h3, h4⟩ => by
    have := erel_refs r es' h4
    simp only [AObj.refsB, List.all_cons, Bool.and_eq_true] at this ⊢
    exact ⟨⟨vrel_refs k _ h2, vrel_refs v _ h3⟩, this⟩

theorem ObjRel.refs {r : Nat} {o : AObj} (h : ObjRel ρ σ w r o) : o.refsB σ.length = true := by
  cases o with
  | dead => rfl
  | box cs => obtain ⟨c, el, fz, h1, h2, h3, h4⟩ := h; exact lrel_refs cs _ h3
  | row a b xs => obtain ⟨c, el, fz, h1, h2, h3, h4, h5, h6⟩ := h; exact rrel_refs xs _ _ h6
  | map es => obtain ⟨en, cl, h1, h2⟩ := h; exact erel_refs es _ h2
  | iter s p => rfl
end

section
variable {n : Nat} {ρ ρ' : Map} {σ σ' : Heap} {w w' : World}

theorem erel_ext (hx : Ext n ρ σ w ρ' σ' w') : ∀ (es : List (AV × AV)) (en : List MapEntry), (AObj.map es).refsB n = true → ERel ρ σ w es en → ERel ρ' σ' w' es en
  | [], _, _, h => h
  | (k, v) :: r, en, hb, ⟨e, es', h1, h2, h3, h4⟩ => by
    simp only [AObj.refsB, List.all_cons, Bool.and_eq_true] at hb
    exact ⟨e, es', h1, vrel_ext hx k _ hb.1.1 h2, vrel_ext hx v _ hb.1.2 h3, erel_ext hx r es' (by simpa [AObj.refsB] using hb.2) h4⟩

/-- An object that is left alone. -/
theorem ObjRel.keep {r : Nat} {o : AObj} (h : ObjRel ρ σ w r o) (hx : Ext n ρ σ w ρ' σ' w') (hb : o.refsB n = true) (hr : o.alive = true → ρ' r = ρ r)
    (hh : o.alive = true → w'.heap[(ρ r).blk]? = w.heap[(ρ r).blk]?) : ObjRel ρ' σ' w' r o := by
  cases o with
  | dead => trivial
  | box cs =>
    obtain ⟨c, el, fz, h1, h2, h3, h4⟩ := h
    refine ⟨c, el, fz, by rw [hr rfl, hh rfl]; exact h1, h2, lrel_ext hx cs _ hb h3, h4⟩
  | row a b xs =>
    obtain ⟨c, el, fz, h1, h2, h3, h4, h5, h6⟩ := h
    refine ⟨c, el, fz, by rw [hr rfl, hh rfl]; exact h1, h2, by rw [hr rfl]; exact h3, by rw [hr rfl]; exact h4, h5, by rw [hr rfl]; exact rrel_ext hx xs _ _ hb (hh rfl) h6⟩
  | map es =>
    obtain ⟨en, cl, h1, h2⟩ := h
    exact ⟨en, cl, by rw [hr rfl, hh rfl]; exact h1, erel_ext hx es _ hb h2⟩
  | iter s p =>
    obtain ⟨b, h1, h2⟩ := h
    exact ⟨b, by rw [hr rfl, hh rfl]; exact h1, h2⟩

theorem ObjExt.refl (l : Loc) (o : Option AObj) : ObjExt l l o o := by
  cases o with
  | none => trivial
  | some o => cases o with
    | row a b xs => exact .inr ⟨_, _, _, rfl, Nat.le_refl _, fun _ => ⟨rfl, rfl, rfl⟩⟩
    | _ => simp [ObjExt]

theorem ObjExt.trans {l l' l'' : Loc} {a b c : Option AObj} (h : ObjExt l l' a b) (k : ObjExt l' l'' b c) : ObjExt l l'' a c := by
  cases a with
  | none => trivial
  | some a =>
    cases a with
    | dead => simp only [ObjExt] at h; subst h; exact k
    | box cs => obtain ⟨⟨cs', rfl⟩, h2⟩ := h; obtain ⟨⟨cs'', rfl⟩, h3⟩ := k; exact ⟨⟨_, rfl⟩, h3.trans h2⟩
    | map cs => obtain ⟨⟨cs', rfl⟩, h2⟩ := h; obtain ⟨⟨cs'', rfl⟩, h3⟩ := k; exact ⟨⟨_, rfl⟩, h3.trans h2⟩
    | iter s p => obtain ⟨⟨s', p', rfl⟩, h2⟩ := h; obtain ⟨⟨s'', p'', rfl⟩, h3⟩ := k; exact ⟨⟨_, _, rfl⟩, h3.trans h2⟩
    | row ver sz xs =>
      rcases h with rfl | ⟨ver1, sz1, xs1, rfl, h2, h3⟩
      · exact .inl k
      · rcases k with rfl | ⟨ver2, sz2, xs2, rfl, k2, k3⟩
        · exact .inl rfl
        · refine .inr ⟨ver2, sz2, xs2, rfl, Nat.le_trans h2 k2, fun e => ?_⟩
          obtain rfl : ver1 = ver := by omega
          obtain rfl : ver2 = ver1 := by omega
          obtain ⟨a1, a2, a3⟩ := h3 rfl
          obtain ⟨b1, b2, b3⟩ := k3 rfl
          exact ⟨b1.trans a1, b2.trans a2, b3.trans a3⟩

theorem Ext.refl (n : Nat) (ρ : Map) (σ : Heap) (w : World) : Ext n ρ σ w ρ σ w :=
  ⟨rfl, rfl, rfl, Nat.le_refl _, fun _ _ _ => rfl, fun _ h => .inl h, rfl, fun _ _ => .refl _ _⟩

theorem Ext.trans {ρ'' : Map} {σ'' : Heap} {w'' : World} (h : Ext n ρ σ w ρ' σ' w') (k : Ext n ρ' σ' w' ρ'' σ'' w'') : Ext n ρ σ w ρ'' σ'' w'' where
  os := k.os.trans h.os
  tape := k.tape.trans h.tape
  output := k.output.trans h.output
  size := Nat.le_trans h.size k.size
  block := fun b hb hm => (k.block b (Nat.lt_of_lt_of_le hb h.size) (not_own_ext h hb hm)).trans (h.block b hb hm)
  mutb := fun b hm => (k.mutb b hm).elim (fun hm' => h.mutb b hm') (fun hs => .inr (Nat.le_trans h.size hs))
  forb := k.forb.trans h.forb
  objs := fun r hr => (h.objs r hr).trans (k.objs r hr)

theorem Ext.mono {m : Nat} (h : Ext n ρ σ w ρ' σ' w') (hm : m ≤ n) : Ext m ρ σ w ρ' σ' w' :=
  ⟨h.os, h.tape, h.output, h.size, h.block, h.mutb, h.forb, fun r hr => h.objs r (Nat.lt_of_lt_of_le hr hm)⟩

/-- New memory that nobody writes. -/
theorem Ext.grow (hb : Below w.heap.size w w') : Ext n ρ σ w ρ σ w' :=
  ⟨hb.os, hb.tape, hb.output, hb.size, fun b h _ => hb.block b h, fun _ h => .inl h, rfl, fun _ _ => .refl _ _⟩

theorem fb_ext (h : Sim ρ σ w) (hx : Ext n ρ σ w ρ' σ' w') : ∀ b, ρ'.forb b → b < w'.heap.size ∧ ¬ Own ρ' σ' b := fun b hb => by
  rw [hx.forb] at hb
  obtain ⟨h1, h2⟩ := h.fb b hb
  exact ⟨Nat.lt_of_lt_of_le h1 hx.size, not_own_ext hx h1 h2⟩

theorem Sim.grow (h : Sim ρ σ w) (hb : Below w.heap.size w w') : Sim ρ σ w' where
  obj := fun r o ho => by
    have hr := h.obj r o ho
    exact hr.keep (Ext.grow (n := σ.length) hb) hr.refs (fun _ => rfl) (fun ha => hb.block _ (hr.lt ha))
  inj := h.inj
  fb := fb_ext h (Ext.grow (n := 0) hb)

def upd (ρ : Map) (r : Nat) (l : Loc) : Map := ⟨fun i => if i = r then l else ρ i, ρ.forb⟩
theorem upd_same (ρ : Map) (r : Nat) (l : Loc) : upd ρ r l r = l := by simp [upd]
theorem upd_other {ρ : Map} {r i : Nat} {l : Loc} (h : i ≠ r) : upd ρ r l i = ρ i := by simp [upd, h]

/-- A new object in new memory. -/
theorem Ext.push {o : AObj} {l : Loc} (hb : Below w.heap.size w w') (hl : w.heap.size ≤ l.blk) : Ext σ.length ρ σ w (upd ρ σ.length l) (σ ++ [o]) w' where
  os := hb.os
  tape := hb.tape
  output := hb.output
  size := hb.size
  block := fun b h _ => hb.block b h
  mutb := fun b ⟨r, ob, h1, h2, h3⟩ => by
    by_cases hr : r < σ.length
    · rw [List.getElem?_append_left hr] at h1
      rw [upd_other (by omega)] at h3
      exact .inl ⟨r, ob, h1, h2, h3⟩
    · have hlt := lt_of_some h1
      simp at hlt
      obtain rfl : r = σ.length := by omega
      rw [upd_same] at h3
      exact .inr (h3 ▸ hl)
  forb := rfl
  objs := fun r hr => by
    rw [upd_other (by omega), List.getElem?_append_left hr]; exact .refl _ _

theorem Sim.push {o : AObj} {l : Loc} (h : Sim ρ σ w) (hb : Below w.heap.size w w') (hl : w.heap.size ≤ l.blk)
    (ho : ObjRel (upd ρ σ.length l) (σ ++ [o]) w' σ.length o) : Sim (upd ρ σ.length l) (σ ++ [o]) w' where
  obj := fun r ob h1 => by
    by_cases hr : r < σ.length
    · rw [List.getElem?_append_left hr] at h1
      have hx := h.obj r ob h1
      exact hx.keep (Ext.push hb hl) hx.refs (fun _ => upd_other (by omega)) (fun ha => hb.block _ (hx.lt ha))
    · have hlt := lt_of_some h1
      simp at hlt
      obtain rfl : r = σ.length := by omega
      simp at h1
      subst h1; exact ho
  inj := fun r r' ob ob' h1 h2 h3 h4 h5 => by
    have hlt := lt_of_some h1
    have hlt' := lt_of_some h2
    simp at hlt hlt'
    by_cases hr : r < σ.length
    · by_cases hr' : r' < σ.length
      · rw [List.getElem?_append_left hr] at h1
        rw [List.getElem?_append_left hr'] at h2
        rw [upd_other (by omega), upd_other (by omega)] at h5
        exact h.inj r r' ob ob' h1 h2 h3 h4 h5
      · obtain rfl : r' = σ.length := by omega
        rw [List.getElem?_append_left hr] at h1
        rw [upd_other (by omega), upd_same] at h5
        have := (h.obj r ob h1).lt h3
        omega
    · obtain rfl : r = σ.length := by omega
      by_cases hr' : r' < σ.length
      · rw [List.getElem?_append_left hr'] at h2
        rw [upd_same, upd_other (by omega)] at h5
        have := (h.obj r' ob' h2).lt h4
        omega
      · omega
  fb := fb_ext h (Ext.push hb hl)

/-- One object turns: in its own block, or into new memory. -/
theorem Ext.set {r : Nat} {o o' : AObj} {l : Loc} (ho : σ[r]? = some o) (ha : o.alive = true) (he : ObjExt (ρ r) l (some o) (some o')) (hs : w.heap.size ≤ w'.heap.size)
    (hos : w'.os = w.os) (ht : w'.tape = w.tape) (hout : w'.output = w.output)
    (hl : o'.alive = true → l.blk = (ρ r).blk ∨ w.heap.size ≤ l.blk) (hb : ∀ b, b < w.heap.size → b ≠ (ρ r).blk → w'.heap[b]? = w.heap[b]?) :
    Ext n ρ σ w (upd ρ r l) (σ.set r o') w' where
  os := hos
  tape := ht
  output := hout
  size := hs
  block := fun b h hm => hb b h fun e => hm ⟨r, o, ho, ha, e.symm⟩
  mutb := fun b ⟨i, ob, h1, h2, h3⟩ => by
    by_cases hi : i = r
    · subst hi
      rw [List.getElem?_set_self (lt_of_some ho)] at h1
      obtain rfl : o' = ob := Option.some.inj h1
      rw [upd_same] at h3
      rcases hl h2 with h | h
      · exact .inl ⟨i, o, ho, ha, by rw [← h3, h]⟩
      · exact .inr (h3 ▸ h)
    · rw [List.getElem?_set_ne (Ne.symm hi)] at h1
      rw [upd_other hi] at h3
      exact .inl ⟨i, ob, h1, h2, h3⟩
  forb := rfl
  objs := fun i _ => by
    by_cases hi : i = r
    · subst hi
      rw [List.getElem?_set_self (lt_of_some ho), upd_same, ho]; exact he
    · rw [List.getElem?_set_ne (Ne.symm hi), upd_other hi]; exact .refl _ _

theorem Sim.set {r : Nat} {o o' : AObj} {l : Loc} (h : Sim ρ σ w) (ho : σ[r]? = some o) (ha : o.alive = true) (he : ObjExt (ρ r) l (some o) (some o')) (hs : w.heap.size ≤ w'.heap.size)
    (hos : w'.os = w.os) (ht : w'.tape = w.tape) (hout : w'.output = w.output)
    (hl : o'.alive = true → l.blk = (ρ r).blk ∨ w.heap.size ≤ l.blk) (hb : ∀ b, b < w.heap.size → b ≠ (ρ r).blk → w'.heap[b]? = w.heap[b]?)
    (hr : ObjRel (upd ρ r l) (σ.set r o') w' r o') : Sim (upd ρ r l) (σ.set r o') w' where
  obj := fun i ob h1 => by
    by_cases hi : i = r
    · subst hi
      rw [List.getElem?_set_self (lt_of_some ho)] at h1
      obtain rfl : o' = ob := Option.some.inj h1
      exact hr
    · rw [List.getElem?_set_ne (Ne.symm hi)] at h1
      have hx := h.obj i ob h1
      exact hx.keep (Ext.set ho ha he hs hos ht hout hl hb) hx.refs (fun _ => upd_other hi)
        (fun hal => hb _ (hx.lt hal) fun e => hi (h.inj i r ob o h1 ho hal ha e))
  inj := fun i j oi oj h1 h2 h3 h4 h5 => by
    by_cases hi : i = r
    · by_cases hj : j = r
      · omega
      · subst hi
        rw [List.getElem?_set_self (lt_of_some ho)] at h1
        obtain rfl : o' = oi := Option.some.inj h1
        rw [List.getElem?_set_ne (Ne.symm hj)] at h2
        rw [upd_same, upd_other hj] at h5
        rcases hl h3 with hl | hl
        · exact h.inj i j o oj ho h2 ha h4 (hl.symm.trans h5)
        · have := (h.obj j oj h2).lt h4; omega
    · rw [List.getElem?_set_ne (Ne.symm hi)] at h1
      by_cases hj : j = r
      · subst hj
        rw [List.getElem?_set_self (lt_of_some ho)] at h2
        obtain rfl : o' = oj := Option.some.inj h2
        rw [upd_same, upd_other hi] at h5
        rcases hl h4 with hl | hl
        · exact h.inj i j oi o h1 ho h3 ha (h5.trans hl)
        · have := (h.obj i oi h1).lt h3; omega
      · rw [List.getElem?_set_ne (Ne.symm hj)] at h2
        rw [upd_other hi, upd_other hj] at h5
        exact h.inj i j oi oj h1 h2 h3 h4 h5
  fb := fb_ext (n := 0) h (Ext.set ho ha he hs hos ht hout hl hb)

/-- Local objects go when the call returns. -/
theorem Ext.take (m : Nat) (ρ : Map) (σ : Heap) (w : World) : Ext m ρ σ w ρ (σ.take m) w where
  os := rfl
  tape := rfl
  output := rfl
  size := Nat.le_refl _
  block := fun _ _ _ => rfl
  mutb := fun b ⟨r, o, h1, h2, h3⟩ => by
    have hlt := lt_of_some h1
    simp at hlt
    rw [List.getElem?_take_of_lt (by omega)] at h1
    exact .inl ⟨r, o, h1, h2, h3⟩
  forb := rfl
  objs := fun r hr => by rw [List.getElem?_take_of_lt hr]; exact .refl _ _

theorem Sim.take {m : Nat} (h : Sim ρ σ w) (hc : ∀ r o, r < m → σ[r]? = some o → o.refsB m = true) : Sim ρ (σ.take m) w where
  obj := fun r o h1 => by
    have hlt := lt_of_some h1
    simp at hlt
    rw [List.getElem?_take_of_lt (by omega)] at h1
    exact (h.obj r o h1).keep (Ext.take m ρ σ w) (hc r o (by omega) h1) (fun _ => rfl) (fun _ => rfl)
  inj := fun r r' o o' h1 h2 => by
    have hlt := lt_of_some h1
    have hlt' := lt_of_some h2
    simp at hlt hlt'
    rw [List.getElem?_take_of_lt (by omega)] at h1
    rw [List.getElem?_take_of_lt (by omega)] at h2
    exact h.inj r r' o o' h1 h2
  fb := fb_ext h (Ext.take m ρ σ w)
end
end Go.Abs
