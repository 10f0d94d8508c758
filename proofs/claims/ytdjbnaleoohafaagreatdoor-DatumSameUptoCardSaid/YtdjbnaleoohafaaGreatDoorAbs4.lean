/-
  AN ABSTRACT SEMANTICS, 4: cells written through a pointer; new objects; what an operation must show.
-/
import Derived.Test.YtdjbnaleoohafaaGreatDoorAbs3
namespace Go.Abs
open Go Go.RowKit

/-- One cell's value: neither an aggregate nor unknown. -/
def AV.flat1 : AV → Bool
  | .agg _ | .tuple _ | .undef | .prow .. | .own .. => false
  | _ => true
/-- One cell's value, a reference into a row that stands as it is told among them. -/
def flatIn (σ : Heap) : AV → Bool
  | .agg _ | .tuple _ | .undef => false
  | .prow r ver _ _ | .own r ver _ _ => match σ[r]? with
    | some (.row ver' _ _) => ver' == ver
    | _ => false
  | _ => true

/-- No object below a number leads above it. -/
def Closed (m : Nat) (σ : Heap) : Prop := ∀ r o, r < m → σ[r]? = some o → o.refsB m = true

section
variable {ρ : Map} {σ : Heap} {w : World}

theorem oneCell_of_flat {c : AV} {u : Value} (hf : flatIn σ c = true) (h : VRel ρ σ w c u) : u.oneCell' = true := by
  cases c with
  | undef => cases hf
  | agg _ => cases hf
  | tuple _ => cases hf
  | bool b => simp only [VRel] at h; subst h; rfl
  | int k n => obtain ⟨h, _⟩ := h; subst h; rfl
  | float k n => simp only [VRel] at h; subst h; rfl
  | str s => obtain ⟨b, h, _⟩ := h; subst h; rfl
  | nilptr => simp only [VRel] at h; subst h; rfl
  | ptr o off => obtain ⟨h, _⟩ := h; subst h; rfl
  | pimm cs => obtain ⟨a, h, _⟩ := h; subst h; rfl
  | prow r ver i off =>
    obtain ⟨ver', sz, xs, h1, h2, h3⟩ := h
    simp only [flatIn] at hf
    split at hf
    · rename_i v2 s2 x2 ho
      rcases h1 with h1 | h1
      · rw [ho] at h1; cases h1
        obtain ⟨_, h⟩ := h3 ho (by simpa using hf); subst h; rfl
      · rw [ho] at h1; cases h1
    · cases hf
  | imm xs sp f => obtain ⟨a, l, c, h, _⟩ := h; subst h; rfl
  | own r ver off len =>
    obtain ⟨ver', sz, xs, h1, h2, h3⟩ := h
    simp only [flatIn] at hf
    split at hf
    · rename_i v2 s2 x2 ho
      rcases h1 with h1 | h1
      · rw [ho] at h1; cases h1
        obtain ⟨_, _, o', h, _⟩ := h3 ho (by simpa using hf); subst h; rfl
      · rw [ho] at h1; cases h1
    · cases hf
  | nilmap => simp only [VRel] at h; subst h; rfl
  | nils => simp only [VRel] at h; subst h; rfl
  | map m => obtain ⟨h, _⟩ := h; subst h; rfl
  | func f a b => obtain ⟨vs, us, h, _⟩ := h; subst h; rfl
  | nilfunc => simp only [VRel] at h; subst h; rfl
  | iface t v => obtain ⟨u, h, _⟩ := h; subst h; rfl
  | niliface => simp only [VRel] at h; subst h; rfl

theorem oneCells_of_flat : ∀ {cs : List AV} {us : List Value}, cs.all (flatIn σ) = true → LRel ρ σ w cs us → ∀ u ∈ us, u.oneCell' = true
  | [], _, _, h => by cases h; simp
  | c :: cs, _, hf, ⟨u, us, h1, h2, h3⟩ => by
    subst h1
    simp only [List.all_cons, Bool.and_eq_true] at hf
    intro x hx
    rcases List.mem_cons.1 hx with rfl | hx
    · exact oneCell_of_flat hf.1 h2
    · exact oneCells_of_flat hf.2 h3 x hx

/-- The cells of a value that is laid. -/
theorem cells_rel {x : AV} {v : Value} {cs : List AV} (hc : x.cells? = some cs) (hf : cs.all (flatIn σ) = true) (h : VRel ρ σ w x v) : LRel ρ σ w cs v.cells.toList := by
  by_cases hx : ∃ l, x = .agg l
  · obtain ⟨l, rfl⟩ := hx
    simp only [AV.cells?, Option.some.injEq] at hc; subst hc
    obtain ⟨vs, rfl, h⟩ := h
    simpa [Value.cells] using h
  · have e : cs = [x] := by cases x <;> simp_all [AV.cells?]
    subst e
    have ho : v.oneCell' = true := oneCell_of_flat (by simpa using hf) h
    have hv : v.cells = #[v] := by cases v <;> first | rfl | (simp [Value.oneCell'] at ho)
    rw [hv]
    exact ⟨v, [], rfl, h, rfl⟩
end

section
variable {n : Nat} {ρ ρ' : Map} {σ σ' : Heap} {w w' : World}

/-- Cells that read as they did. -/
theorem crel_ext' (hx : Ext n ρ σ w ρ' σ' w') {cs : List AV} {b off : Nat} (hb : refsBL n cs = true) (hh : ∀ i, i < cs.length → w'.cell? ⟨b, off + i, none⟩ = w.cell? ⟨b, off + i, none⟩)
    (h : CRel ρ σ w cs b off) : CRel ρ' σ' w' cs b off := by
  obtain ⟨us, e1, e2, e3⟩ := crel_vals h
  refine crel_of_vals (us := us) (fun i hi => ?_) (lrel_ext hx cs us hb e2) e3
  rw [hh i (by rw [← lrel_len e2]; exact hi)]; exact e1 i hi

theorem rrel_of_get {sz : Nat} : ∀ {xs : List AV} {b off : Nat}, unif sz xs = true → (∀ i x, xs[i]? = some x → CRel ρ σ w x.cl b (off + i * sz)) → RRel ρ σ w xs b off
  | [], _, _, _, _ => trivial
  | x :: xs, b, off, hu, h => by
    have hy : x.ncells = sz := unif_get (i := 0) hu (by simp)
    have hu' : unif sz xs = true := by simp only [unif, List.all_cons, Bool.and_eq_true] at hu ⊢; exact hu.2
    rw [rrel_cons]
    refine ⟨by simpa using h 0 x (by simp), rrel_of_get hu' fun i y hi => ?_⟩
    have := h (i + 1) y (by simpa using hi)
    rw [hy, show off + sz + i * sz = off + (i + 1) * sz from by rw [Nat.succ_mul]; omega]; exact this
end

theorem splice_get {α : Type} (l : List α) (off : Nat) (us : List α) (h : off + us.length ≤ l.length) (k : Nat) :
    (splice l off us)[k]? = if k < off then l[k]? else if k < off + us.length then us[k - off]? else l[k]? := by
  unfold splice
  by_cases h1 : k < off
  · rw [if_pos h1, List.append_assoc, List.getElem?_append_left (by simp; omega), List.getElem?_take_of_lt h1]
  · rw [if_neg h1]
    by_cases h2 : k < off + us.length
    · rw [if_pos h2, List.getElem?_append_left (by simp; omega), List.getElem?_append_right (by simp; omega)]
      congr 1; simp; omega
    · rw [if_neg h2, List.getElem?_append_right (by simp; omega), List.getElem?_drop]
      congr 1; simp; omega

theorem refsBL_append (n : Nat) : ∀ (a b : List AV), refsBL n (a ++ b) = (refsBL n a && refsBL n b)
  | [], b => by simp [refsBL]
  | x :: a, b => by simp [refsBL, refsBL_append n a b, Bool.and_assoc]
theorem refsBL_take (n k : Nat) (a : List AV) (h : refsBL n a = true) : refsBL n (a.take k) = true := by
  have := refsBL_append n (a.take k) (a.drop k)
  rw [List.take_append_drop, h] at this
  exact (Bool.and_eq_true _ _ ▸ this.symm).1
theorem refsBL_drop (n k : Nat) (a : List AV) (h : refsBL n a = true) : refsBL n (a.drop k) = true := by
  have := refsBL_append n (a.take k) (a.drop k)
  rw [List.take_append_drop, h] at this
  exact (Bool.and_eq_true _ _ ▸ this.symm).2
theorem refsBL_splice (n off : Nat) (a us : List AV) (h : refsBL n a = true) (hu : refsBL n us = true) : refsBL n (splice a off us) = true := by
  unfold splice
  rw [refsBL_append, refsBL_append, refsBL_take n _ a h, hu, refsBL_drop n _ a h]; rfl
theorem refsBL_all (n : Nat) (a : List AV) : refsBL n a = a.all (AV.refsB n) := by
  induction a with
  | nil => rfl
  | cons x a ih => simp [refsBL, ih]
theorem refsBL_get {n : Nat} {a : List AV} (h : refsBL n a = true) {i : Nat} {x : AV} (hx : a[i]? = some x) : x.refsB n = true := by
  rw [refsBL_all, List.all_eq_true] at h
  exact h x (List.mem_of_getElem? hx)
theorem refsBL_set {n : Nat} {a : List AV} (h : refsBL n a = true) (i : Nat) {x : AV} (hx : x.refsB n = true) : refsBL n (a.set i x) = true := by
  rw [refsBL_all, List.all_eq_true] at h ⊢
  intro y hy
  rcases List.mem_or_eq_of_mem_set hy with hy | rfl
  · exact h y hy
  · exact hx
theorem refs_cl (n : Nat) (x : AV) : refsBL n x.cl = x.refsB n := by cases x <;> simp [AV.cl, AV.refsB, refsBL]

/-- An element's cells, turned. -/
def AV.recl (x : AV) (cs : List AV) : AV := match x with
  | .agg _ => .agg cs
  | _ => match cs with
    | [c] => c
    | _ => .undef
theorem cl_recl (σ : Heap) (x : AV) (cs : List AV) (h : cs.length = x.cl.length) (hf : (∃ l, x = .agg l) ∨ cs.all (flatIn σ) = true) : (x.recl cs).cl = cs := by
  by_cases hx : ∃ l, x = .agg l
  · obtain ⟨l, rfl⟩ := hx; rfl
  · have hf' := hf.resolve_left hx
    have hl : x.cl.length = 1 := by cases x <;> first | rfl | exact absurd ⟨_, rfl⟩ hx
    rw [hl] at h
    match cs, h with
    | [c], _ =>
      have e : x.recl [c] = c := by cases x <;> first | rfl | exact absurd ⟨_, rfl⟩ hx
      rw [e]
      cases c <;> first | rfl | (simp [flatIn] at hf')

def isAggV : AV → Bool
  | .agg _ => true
  | _ => false

/-- Cells written through a pointer; an object below 'base' takes no reference from above. -/
def writeCells (base : Nat) (σ : Heap) (cs : List AV) : AV → Option Heap
  | .ptr o off => match σ[o]? with
    | some (.box l) => if off + cs.length ≤ l.length ∧ (base ≤ o ∨ refsBL 0 cs = true) then some (σ.set o (.box (splice l off cs))) else none
    | _ => none
  | .prow r ver i off => match σ[r]? with
    | some (.row ver' sz xs) => if ver' = ver then
        (match xs[i]? with
        | some x => if off + cs.length ≤ x.cl.length ∧ (base ≤ r ∨ refsBL 0 cs = true) ∧ (isAggV x = true ∨ cs.length = 1) then some (σ.set r (.row ver sz (xs.set i (x.recl (splice x.cl off cs))))) else none
        | none => none) else none
    | _ => none
  | _ => none

theorem upd_id (ρ : Map) (r : Nat) : upd ρ r (ρ r) = ρ := by
  obtain ⟨l, f⟩ := ρ
  simp only [upd, Map.mk.injEq, and_true]
  funext i; split <;> simp_all

theorem closed_set {m r : Nat} {σ : Heap} {o : AObj} (h : Closed m σ) (ho : r < m → o.refsB m = true) : Closed m (σ.set r o) := by
  intro i ob hi h1
  by_cases he : i = r
  · subst he
    rcases Nat.lt_or_ge i σ.length with h' | h'
    · rw [List.getElem?_set_self h'] at h1; cases h1; exact ho hi
    · rw [List.getElem?_eq_none (by simpa using h')] at h1; cases h1
  · rw [List.getElem?_set_ne (Ne.symm he)] at h1; exact h i ob hi h1
theorem closed_push {m : Nat} {σ : Heap} {o : AObj} (h : Closed m σ) (hm : m ≤ σ.length) : Closed m (σ ++ [o]) := by
  intro i ob hi h1
  rw [List.getElem?_append_left (by omega)] at h1; exact h i ob hi h1

/-- What is shown of a step: the world goes on, all that is owned is known again. -/
structure Step (base : Nat) (ρ : Map) (σ : Heap) (w : World) (ρ' : Map) (σ' : Heap) (w' : World) : Prop where
  sim : Sim ρ' σ' w'
  ext : Ext σ.length ρ σ w ρ' σ' w'
  closed : Closed base σ'
  len : σ.length ≤ σ'.length

theorem Step.refl {base : Nat} {ρ : Map} {σ : Heap} {w : World} (hs : Sim ρ σ w) (hc : Closed base σ) : Step base ρ σ w ρ σ w := ⟨hs, .refl _ _ _ _, hc, Nat.le_refl _⟩
theorem Step.trans {base : Nat} {ρ ρ' ρ'' : Map} {σ σ' σ'' : Heap} {w w' w'' : World} (h : Step base ρ σ w ρ' σ' w') (k : Step base ρ' σ' w' ρ'' σ'' w'') : Step base ρ σ w ρ'' σ'' w'' :=
  ⟨k.sim, h.ext.trans (k.ext.mono h.len), k.closed, Nat.le_trans h.len k.len⟩
theorem Step.grow {base : Nat} {ρ : Map} {σ : Heap} {w w' : World} (hs : Sim ρ σ w) (hc : Closed base σ) (hb : Below w.heap.size w w') : Step base ρ σ w ρ σ w' :=
  ⟨hs.grow hb, .grow hb, hc, Nat.le_refl _⟩
theorem Step.push {base : Nat} {ρ : Map} {σ : Heap} {w w' : World} {o : AObj} {l : Loc} (hs : Sim ρ σ w) (hc : Closed base σ) (hbase : base ≤ σ.length) (hb : Below w.heap.size w w') (hl : w.heap.size ≤ l.blk)
    (ho : ObjRel (upd ρ σ.length l) (σ ++ [o]) w' σ.length o) : Step base ρ σ w (upd ρ σ.length l) (σ ++ [o]) w' :=
  ⟨hs.push hb hl ho, .push hb hl, closed_push hc hbase, by simp⟩

section
variable {base : Nat} {ρ : Map} {σ : Heap} {w : World}

theorem writeCells_ok (P : Program) (hs : Sim ρ σ w) (hcl : Closed base σ) {av : AV} {v : Value} {cs : List AV} {us : List Value} {σ' : Heap} (hv : VRel ρ σ w av v) (hcs : LRel ρ σ w cs us)
    (hf : cs.all (flatIn σ) = true) (h : writeCells base σ cs av = some σ') :
    ∃ b off w', v = .pointer (some ⟨b, off, none⟩) ∧ (storeCells ⟨b, off, none⟩ us).run P w = .ok () w' ∧ Step base ρ σ w ρ σ' w' := by
  have hone := oneCells_of_flat hf hcs
  have hul := lrel_len hcs
  unfold writeCells at h
  split at h
  · rename_i o off
    obtain ⟨h1, obj, h2, h3⟩ := hv
    split at h
    · rename_i l ho
      split at h
      · rename_i hle
        cases h
        obtain ⟨c, el, fz, e1, e2, e3, e4⟩ := hs.obj o _ ho
        have hcl' := lrel_len e3
        obtain ⟨w', g1, g2, g3, g4, g5, g6, g7⟩ := run_storeCells_list P (ρ o).blk off el fz us 0 w c e1 e2 (by simp at hcl'; omega) hone
        rw [Nat.add_zero] at g7
        have hext : ∀ n, Ext n ρ σ w ρ (σ.set o (.box (splice l off cs))) w' := fun n => by
          have := Ext.set (n := n) (w := w) (w' := w') (ρ := ρ) (l := ρ o) (o' := .box (splice l off cs)) ho rfl ⟨⟨_, rfl⟩, rfl⟩ (by omega) g3 g4 g5 (fun _ => .inl rfl) (fun b _ hb => g6 b hb)
          rwa [upd_id] at this
        have hr := (hs.obj o _ ho).refs
        refine ⟨_, _, w', h1, g1, ?_, hext _, closed_set hcl fun hlt => ?_, by simp⟩
        · have := Sim.set (w' := w') (l := ρ o) (o' := .box (splice l off cs)) hs ho rfl ⟨⟨_, rfl⟩, rfl⟩ (by omega) g3 g4 g5 (fun _ => .inl rfl) (fun b _ hb => g6 b hb) (by
            rw [upd_id]
            refine ⟨_, el, fz, g7, ?_, ?_, ?_⟩
            · intro k hk; exact e2 k (by simpa [splice_len c.toList off us (by simp at hcl' ⊢; omega)] using hk)
            · have a1 : LRel ρ σ w (splice l off cs) (splice c.toList off us) := by
                unfold splice; rw [hul]
                exact lrel_append (lrel_append (lrel_take e3 _) hcs) (lrel_drop e3 _)
              exact lrel_ext (hext σ.length) _ _ (refsBL_splice _ _ _ _ hr (lrel_refs _ _ hcs)) (by simpa using a1)
            · intro u hu
              simp [splice] at hu
              rcases hu with hu | hu | hu
              · exact e4 u (by simpa using List.mem_of_mem_take hu)
              · exact hone u hu
              · exact e4 u (by simpa using List.mem_of_mem_drop hu))
          rwa [upd_id] at this
        · exact refsBL_splice _ _ _ _ (hcl o _ hlt ho) (refsL_mono (Nat.zero_le _) _ (hle.2.resolve_left (by omega)))
      · cases h
    · cases h
  · rename_i r ver i off
    obtain ⟨ver', sz, xs, h1, h2, h3⟩ := hv
    split at h
    · rename_i ver2 sz2 xs2 ho
      split at h
      · rename_i hver
        rcases h1 with h1 | h1
        · rw [ho] at h1; cases h1
          obtain ⟨hi, hvv⟩ := h3 ho hver
          obtain ⟨c, el, fz, e1, e2, e3, e4, e5, e6⟩ := hs.obj r _ ho
          split at h
          · rename_i x hx
            split at h
            · rename_i hle
              cases h
              subst hver
              have hsz : x.ncells = sz := unif_get e5 hx
              have hxl : x.cl.length = sz := by rw [cl_len, hsz]
              have hroom : (ρ r).start + i * sz + sz ≤ (ρ r).start + (ρ r).cap * sz := by
                have : (i + 1) * sz ≤ (ρ r).cap * sz := Nat.mul_le_mul_right _ (by omega)
                rw [Nat.succ_mul] at this; omega
              obtain ⟨w', g1, g2, g3, g4, g5, g6, g7⟩ := run_storeCells_list P (ρ r).blk ((ρ r).start + i * sz + off) el fz us 0 w c e1 e2 (by omega) hone
              rw [Nat.add_zero] at g7
              have hspl : (x.recl (splice x.cl off cs)).cl = splice x.cl off cs := by
                refine cl_recl σ x _ (splice_len _ _ _ hle.1) ?_
                by_cases hag : isAggV x = true
                · cases x <;> first | (simp [isAggV] at hag; done) | exact .inl ⟨_, rfl⟩
                · have h1 : cs.length = 1 := hle.2.2.resolve_left hag
                  have h2 : x.cl.length = 1 := by cases x <;> first | rfl | (simp [isAggV] at hag)
                  have h3 : off = 0 := by omega
                  subst h3
                  right
                  have : splice x.cl 0 cs = cs := by unfold splice; simp; omega
                  rw [this]; exact hf
              have hn : (x.recl (splice x.cl off cs)).ncells = sz := by rw [← cl_len, hspl, splice_len _ _ _ hle.1, hxl]
              have hrefs := (hs.obj r _ ho).refs
              have hxr : refsBL σ.length x.cl = true := by rw [refs_cl]; exact refsBL_get hrefs hx
              have hnr : (x.recl (splice x.cl off cs)).refsB σ.length = true := by
                rw [← refs_cl, hspl]; exact refsBL_splice _ _ _ _ hxr (lrel_refs _ _ hcs)
              have hobj : ObjExt (ρ r) (ρ r) (some (.row ver' sz xs)) (some (.row ver' sz (xs.set i (x.recl (splice x.cl off cs))))) :=
                .inr ⟨_, _, _, rfl, Nat.le_refl _, fun _ => ⟨rfl, rfl, by simp⟩⟩
              have hext : ∀ n, Ext n ρ σ w ρ (σ.set r (.row ver' sz (xs.set i (x.recl (splice x.cl off cs))))) w' := fun n => by
                have := Ext.set (n := n) (w := w) (w' := w') (ρ := ρ) (l := ρ r) ho rfl hobj (by omega) g3 g4 g5 (fun _ => .inl rfl) (fun b _ hb => g6 b hb)
                rwa [upd_id] at this
              have hcell : ∀ k, w'.cell? ⟨(ρ r).blk, k, none⟩ = (splice c.toList ((ρ r).start + i * sz + off) us)[k]? := fun k => by simp [World.cell?, g7]
              have hcell0 : ∀ k, w.cell? ⟨(ρ r).blk, k, none⟩ = c.toList[k]? := fun k => by simp [World.cell?, e1]
              have hsg := splice_get c.toList ((ρ r).start + i * sz + off) us (by simp; omega)
              have hu' : unif sz (xs.set i (x.recl (splice x.cl off cs))) = true := by
                simp only [unif, List.all_eq_true, beq_iff_eq]
                intro y hy
                rcases List.mem_or_eq_of_mem_set hy with hy | rfl
                · simp only [unif, List.all_eq_true, beq_iff_eq] at e5; exact e5 y hy
                · exact hn
              refine ⟨_, _, w', hvv, g1, ?_, hext _, closed_set hcl fun hlt => ?_, by simp⟩
              · have := Sim.set (w' := w') (l := ρ r) hs ho rfl hobj (by omega) g3 g4 g5 (fun _ => .inl rfl) (fun b _ hb => g6 b hb) (by
                  rw [upd_id]
                  refine ⟨_, el, fz, g7, ?_, by simpa using e3, ?_, hu', ?_⟩
                  · intro k hk; exact e2 k (by simpa [splice_len c.toList ((ρ r).start + i * sz + off) us (by simp; omega)] using hk)
                  · simp [splice_len c.toList ((ρ r).start + i * sz + off) us (by simp; omega)]; exact e4
                  · refine rrel_of_get hu' fun j y hj => ?_
                    by_cases hji : j = i
                    · subst hji
                      rw [List.getElem?_set_self (by omega)] at hj
                      obtain rfl := Option.some.inj hj
                      rw [hspl]
                      obtain ⟨xv, x1, x2, x3⟩ := crel_vals (rrel_get e6 e5 j x hx)
                      have hxv := lrel_len x2
                      refine crel_of_vals (us := splice xv off us) (fun k hk => ?_) ?_ ?_
                      · rw [splice_len _ _ _ (by omega)] at hk
                        rw [hcell, hsg, splice_get _ _ _ (by omega)]
                        have hold : k < xv.length → c.toList[(ρ r).start + j * sz + k]? = xv[k]? := fun hk => by rw [← hcell0]; exact x1 k hk
                        by_cases c1 : k < off
                        · rw [if_pos (by omega), if_pos c1]; exact hold hk
                        · rw [if_neg (by omega), if_neg c1]
                          by_cases c2 : k < off + us.length
                          · rw [if_pos (by omega), if_pos c2]; congr 1; omega
                          · rw [if_neg (by omega), if_neg c2]; exact hold hk
                      · have a1 : LRel ρ σ w (splice x.cl off cs) (splice xv off us) := by
                          unfold splice; rw [hul]
                          exact lrel_append (lrel_append (lrel_take x2 _) hcs) (lrel_drop x2 _)
                        exact lrel_ext (hext σ.length) _ _ (refsBL_splice _ _ _ _ hxr (lrel_refs _ _ hcs)) a1
                      · intro u hu
                        simp [splice] at hu
                        rcases hu with hu | hu | hu
                        · exact x3 u (List.mem_of_mem_take hu)
                        · exact hone u hu
                        · exact x3 u (List.mem_of_mem_drop hu)
                    · rw [List.getElem?_set_ne (Ne.symm hji)] at hj
                      have hysz : y.cl.length = sz := by rw [cl_len]; exact unif_get e5 hj
                      refine crel_ext' (hext σ.length) (by rw [refs_cl]; exact refsBL_get hrefs hj) (fun k hk => ?_) (rrel_get e6 e5 j y hj)
                      rw [hcell, hcell0, hsg]
                      by_cases c1 : (ρ r).start + j * sz + k < (ρ r).start + i * sz + off
                      · rw [if_pos c1]
                      · rw [if_neg c1, if_neg]
                        rcases Nat.lt_or_ge j i with hlt | hge
                        · have : (j + 1) * sz ≤ i * sz := Nat.mul_le_mul_right _ hlt
                          rw [Nat.succ_mul] at this; omega
                        · have : (i + 1) * sz ≤ j * sz := Nat.mul_le_mul_right _ (by omega)
                          rw [Nat.succ_mul] at this; omega)
                rwa [upd_id] at this
              · have hcr := hcl r _ hlt ho
                refine refsBL_set hcr i ?_
                rw [← refs_cl, hspl]
                exact refsBL_splice _ _ _ _ (by rw [refs_cl]; exact refsBL_get hcr hx) (refsL_mono (Nat.zero_le _) _ (hle.2.1.resolve_left (by omega)))
            · cases h
          · cases h
        · rw [ho] at h1; cases h1
      · cases h
    · cases h
  · cases h
end
end Go.Abs
