/-
  AN ABSTRACT SEMANTICS, 9: new memory: variables, structs, slices of literals, made slices.
-/
import Derived.Test.YtdjbnaleoohafaaGreatDoorAbs8
namespace Go.Abs
open Go Go.RowKit

/-- The cells of elements, one behind the other. -/
def flat : List AV → List AV
  | [] => []
  | x :: xs => x.cl ++ flat xs

section
variable {P : Program} {ρ : Map} {σ : Heap} {w : World}

theorem flat_len {sz : Nat} : ∀ {xs : List AV}, unif sz xs = true → (flat xs).length = xs.length * sz
  | [], _ => by simp [flat]
  | x :: xs, h => by
    simp only [unif, List.all_cons, Bool.and_eq_true, beq_iff_eq] at h
    simp only [flat, List.length_append, cl_len, h.1, List.length_cons, Nat.succ_mul]
    rw [flat_len (sz := sz) (xs := xs) (by simpa [unif] using h.2)]; omega

theorem cells_split {b off : Nat} {us vs : List Value} (h : Cells w b off (us ++ vs)) : Cells w b off us ∧ Cells w b (off + us.length) vs := by
  have h1 := h.take us.length
  have h2 := h.drop us.length
  simp at h1 h2
  exact ⟨h1, h2⟩

theorem lrel_split : ∀ {cs ds : List AV} {us : List Value}, LRel ρ σ w (cs ++ ds) us → ∃ a b, us = a ++ b ∧ LRel ρ σ w cs a ∧ LRel ρ σ w ds b
  | [], ds, us, h => ⟨[], us, rfl, rfl, h⟩
  | c :: cs, ds, _, ⟨u, us, h1, h2, h3⟩ => by
    obtain ⟨a, b, rfl, e1, e2⟩ := lrel_split h3
    exact ⟨u :: a, b, by simp [h1], ⟨u, a, rfl, h2, e1⟩, e2⟩

theorem rrel_of_flat : ∀ {xs : List AV} {b off : Nat} {us : List Value}, Cells w b off us → LRel ρ σ w (flat xs) us → (∀ u ∈ us, u.oneCell' = true) → RRel ρ σ w xs b off
  | [], _, _, _, _, _, _ => trivial
  | x :: xs, b, off, us, hc, hl, ho => by
    obtain ⟨a, c, rfl, e1, e2⟩ := lrel_split hl
    have hs := cells_split hc
    rw [rrel_cons]
    refine ⟨crel_of_vals hs.1 e1 (fun u hu => ho u (by simp [hu])), ?_⟩
    have := rrel_of_flat hs.2 e2 (fun u hu => ho u (by simp [hu]))
    rwa [lrel_len e1, cl_len] at this

theorem flat_of_rrel : ∀ {xs : List AV} {b off : Nat}, RRel ρ σ w xs b off → ∃ us, Cells w b off us ∧ LRel ρ σ w (flat xs) us ∧ ∀ u ∈ us, u.oneCell' = true
  | [], b, off, _ => ⟨[], .nil _ _ _, rfl, by simp⟩
  | x :: xs, b, off, h => by
    rw [rrel_cons] at h
    obtain ⟨us, e1, e2, e3⟩ := crel_vals h.1
    obtain ⟨vs, g1, g2, g3⟩ := flat_of_rrel h.2
    refine ⟨us ++ vs, fun i hi => ?_, lrel_append e2 g2, fun u hu => (List.mem_append.1 hu).elim (e3 u) (g3 u)⟩
    by_cases hlt : i < us.length
    · rw [List.getElem?_append_left hlt]; exact e1 i hlt
    · rw [List.getElem?_append_right (by omega), ← g1 (i - us.length) (by simp at hi; omega)]
      congr 2
      have := lrel_len e2
      rw [cl_len] at this
      omega

theorem flat_append (xs ys : List AV) : flat (xs ++ ys) = flat xs ++ flat ys := by
  induction xs with
  | nil => rfl
  | cons x xs ih => simp [flat, ih]

theorem flat_set {sz : Nat} : ∀ {xs : List AV} {i : Nat} {x : AV}, unif sz xs = true → x.ncells = sz → i < xs.length → flat (xs.set i x) = splice (flat xs) (i * sz) x.cl
  | [], _, _, _, _, h => by simp at h
  | y :: xs, 0, x, hu, hx, _ => by
    simp only [unif, List.all_cons, Bool.and_eq_true, beq_iff_eq] at hu
    simp only [List.set_cons_zero, flat, splice, Nat.zero_mul, List.take_zero, List.nil_append, Nat.zero_add]
    rw [show x.cl.length = y.cl.length from by rw [cl_len, cl_len, hx, hu.1]]
    simp
  | y :: xs, i + 1, x, hu, hx, h => by
    simp only [unif, List.all_cons, Bool.and_eq_true, beq_iff_eq] at hu
    have hy : y.cl.length = sz := by rw [cl_len, hu.1]
    simp only [List.set_cons_succ, flat]
    rw [flat_set (sz := sz) (by simpa [unif] using hu.2) hx (by simpa using h)]
    simp only [splice, Nat.succ_mul]
    have e1 : (y.cl ++ flat xs).take (i * sz + sz) = y.cl ++ (flat xs).take (i * sz) := by
      rw [show i * sz + sz = y.cl.length + i * sz from by omega, List.take_length_add_append]
    have e2 : (y.cl ++ flat xs).drop (i * sz + sz + x.cl.length) = (flat xs).drop (i * sz + x.cl.length) := by
      rw [show i * sz + sz + x.cl.length = y.cl.length + (i * sz + x.cl.length) from by omega, List.drop_length_add_append]
    rw [e1, e2]; simp [List.append_assoc]

/-- A type's zero value, as cells. -/
def zeroCellsA (P : Program) (T : TypeId) : Option (List AV) :=
  match P.info? T with
  | some i => match i.zero with
    | some z => if (z.cells.toList.map ofConst1).all (flatIn []) = true ∧ z.cells.size = i.size then some (z.cells.toList.map ofConst1) else none
    | none => none
  | none => none

theorem flatIn_nil {σ : Heap} {c : AV} (h : flatIn [] c = true) : flatIn σ c = true := by
  cases c <;> first | rfl | (simp [flatIn] at h)
theorem flatIn_nil_all {σ : Heap} {cs : List AV} (h : cs.all (flatIn []) = true) : cs.all (flatIn σ) = true := by
  simp only [List.all_eq_true] at h ⊢; exact fun x hx => flatIn_nil (h x hx)

theorem zeroCellsA_ok {T : TypeId} {cs : List AV} (h : zeroCellsA P T = some cs) : ∃ i z, P.info? T = some i ∧ i.zero = some z ∧ z.cells.size = i.size ∧ cs = z.cells.toList.map ofConst1 ∧
    (∀ ρ σ w, LRel ρ σ w cs z.cells.toList) ∧ (∀ u ∈ z.cells.toList, u.oneCell' = true) ∧ (zeroValue T).run P w = .ok z w ∧ cs.length = i.size := by
  unfold zeroCellsA at h
  split at h
  · rename_i i hi
    split at h
    · rename_i z hz
      split at h
      · rename_i hq
        cases h
        have hl : ∀ ρ σ w, LRel ρ σ w (z.cells.toList.map ofConst1) z.cells.toList := fun ρ σ w => lrel_const1 _
        exact ⟨i, z, hi, hz, hq.2, rfl, hl, oneCells_of_flat (flatIn_nil_all hq.1) (hl ⟨fun _ => ⟨0, 0, 0⟩, fun _ => False⟩ [] w), by simp [zeroValue, typeInfo, hi, hz], by simp [hq.2]⟩
      · cases h
    · cases h
  · cases h

theorem below_alloc (w : World) (o : Obj) : Below w.heap.size w (w.alloc o) := (Below.refl _ _).alloc (Nat.le_refl _) o

theorem heap_alloc_new (w : World) (o : Obj) : (w.alloc o).heap[w.heap.size]? = some o := by
  show (w.heap.push o)[w.heap.size]? = _
  simp

/-- A new box. -/
theorem push_box {base : Nat} (hs : Sim ρ σ w) (hc : Closed base σ) (hb : base ≤ σ.length) {cs : List AV} {us : List Value} (T : TypeId) (hl : LRel ρ σ w cs us) (ho : ∀ u ∈ us, u.oneCell' = true) :
    Step base ρ σ w (upd ρ σ.length ⟨w.heap.size, 0, 0⟩) (σ ++ [.box cs]) (w.alloc (.cells us.toArray T)) ∧
      VRel (upd ρ σ.length ⟨w.heap.size, 0, 0⟩) (σ ++ [.box cs]) (w.alloc (.cells us.toArray T)) (.ptr σ.length 0) (.pointer (some ⟨w.heap.size, 0, none⟩)) := by
  have hbl := below_alloc w (.cells us.toArray T)
  have hx : Ext σ.length ρ σ w (upd ρ σ.length ⟨w.heap.size, 0, 0⟩) (σ ++ [.box cs]) (w.alloc (.cells us.toArray T)) := Ext.push hbl (Nat.le_refl _)
  refine ⟨Step.push hs hc hb hbl (Nat.le_refl _) ?_, ?_⟩
  · refine ⟨us.toArray, T, (0, 0), ?_, fun o _ h => by simp at h, ?_, by simpa using ho⟩
    · rw [upd_same]; exact heap_alloc_new _ _
    · simpa using lrel_ext hx cs us (lrel_refs _ _ hl) hl
  · refine ⟨by rw [upd_same], .box cs, by simp, rfl⟩

theorem run_newRow (T : TypeId) (cs : Array Value) : (newRow T cs).run P w = .ok ⟨w.heap.size, 0, none⟩ (w.alloc (.cells cs T)) := by
  simp [newRow]
theorem run_newVar (T : TypeId) (v : Value) : (newVar T v).run P w = .ok ⟨w.heap.size, 0, none⟩ (w.alloc (.cells v.cells T)) := run_newRow T _

def allocA (P : Program) (σ : Heap) (T : TypeId) : Option (AV × Heap) := (zeroCellsA P T).map fun cs => (.ptr σ.length 0, σ ++ [.box cs])

/-- What an operation that makes a value must show. -/
def Ret (base : Nat) (ρ : Map) (σ : Heap) (w : World) (av : AV) (σ' : Heap) (r : Result Value) : Prop :=
  ∃ ρ' w' v, r = .ok v w' ∧ VRel ρ' σ' w' av v ∧ Step base ρ σ w ρ' σ' w'

theorem Ret.same {base : Nat} (hs : Sim ρ σ w) (hc : Closed base σ) {av : AV} {r : Result Value} (h : ∃ v, r = .ok v w ∧ VRel ρ σ w av v) : Ret base ρ σ w av σ r := by
  obtain ⟨v, h1, h2⟩ := h
  exact ⟨ρ, w, v, h1, h2, .refl hs hc⟩

theorem allocA_ok {base : Nat} (hs : Sim ρ σ w) (hc : Closed base σ) (hb : base ≤ σ.length) {T : TypeId} {av : AV} {σ' : Heap} (h : allocA P σ T = some (av, σ')) :
    Ret base ρ σ w av σ' ((Instr.alloc T true (.tuple #[])).run P w) := by
  simp only [allocA, Option.map_eq_some_iff] at h
  obtain ⟨cs, hz, he⟩ := h
  cases he
  obtain ⟨i, z, h1, h2, h3, h4, h5, h6, h7, _⟩ := zeroCellsA_ok (w := w) hz
  obtain ⟨p1, p2⟩ := push_box hs hc hb T (h5 ρ σ w) h6
  rw [Array.toArray_toList] at p1 p2
  exact ⟨_, _, _, by simp only [Instr.alloc, Sem.run_bind, h7, Result.andThen_ok, run_newVar, Sem.run_pure], p2, p1⟩

def boxA (σ : Heap) (x : AV) : Option (AV × Heap) :=
  match x.cells? with
  | some cs => if cs.all (flatIn σ) = true then some (.ptr σ.length 0, σ ++ [.box cs]) else none
  | none => none

theorem boxA_ok {base : Nat} (hs : Sim ρ σ w) (hc : Closed base σ) (hb : base ≤ σ.length) {T : TypeId} {x av : AV} {v : Value} {σ' : Heap} (hv : VRel ρ σ w x v) (h : boxA σ x = some (av, σ')) :
    Ret base ρ σ w av σ' ((Instr.box T v).run P w) := by
  unfold boxA at h
  split at h
  · rename_i cs hcs
    split at h
    · rename_i hf
      cases h
      have hl := cells_rel hcs hf hv
      obtain ⟨p1, p2⟩ := push_box hs hc hb T hl (oneCells_of_flat hf hl)
      rw [Array.toArray_toList] at p1 p2
      exact ⟨_, _, _, by simp only [Instr.box, Sem.run_bind, run_newVar, Result.andThen_ok, Sem.run_pure], p2, p1⟩
    · cases h
  · cases h

theorem splice_eq_foldl : ∀ (vs : List Value) (cells : Array Value) (off k : Nat), off + k + vs.length ≤ cells.size →
    ((vs.zipIdx k).foldl (fun cs (x : Value × Nat) => cs.setIfInBounds (off + x.2) x.1) cells).toList = splice cells.toList (off + k) vs
  | [], cells, off, k, _ => by simp [splice_nil]
  | v :: vs, cells, off, k, h => by
    simp only [List.length_cons] at h
    rw [List.zipIdx_cons, List.foldl_cons]
    rw [splice_eq_foldl vs _ off (k + 1) (by simp; omega)]
    simp only [splice, Array.toList_setIfInBounds, List.length_cons]
    rw [show off + (k + 1) = off + k + 1 from by omega, List.take_succ_eq_append_getElem (by simp; omega)]
    simp only [List.getElem_set_self, List.append_assoc, List.singleton_append]
    rw [List.take_set_of_le (by omega), List.drop_set_of_lt (by omega), show off + k + (vs.length + 1) = off + k + 1 + vs.length from by omega]

theorem fill_cells {v : Value} {cells : Array Value} {off : Nat} (h : off + v.cells.size ≤ cells.size) :
    (v.cells.zipIdx.foldl (fun cs (x : Value × Nat) => cs.setIfInBounds (off + x.2) x.1) cells).toList = splice cells.toList off v.cells.toList := by
  have := splice_eq_foldl v.cells.toList cells off 0 (by simpa using h)
  rw [Nat.add_zero] at this
  rw [← this, ← Array.foldl_toList]
  congr 2
  simp

/-- Parts laid over cells. -/
def fillA (σ : Heap) (place : Nat → Option (Nat × Nat)) (cells : List AV) : List (Nat × AV) → Option (List AV)
  | [] => some cells
  | (i, x) :: rest =>
    match place i, x.cells? with
    | some (off, size), some cs => if cs.length = size ∧ off + size ≤ cells.length ∧ cs.all (flatIn σ) = true then fillA σ place (splice cells off cs) rest else none
    | _, _ => none

/-- The parts of a literal. -/
def PRel (ρ : Map) (σ : Heap) (w : World) : List (Nat × AV) → List (Nat × Value) → Prop
  | [], ps => ps = []
  | (i, x) :: r, ps => ∃ v qs, ps = (i, v) :: qs ∧ VRel ρ σ w x v ∧ PRel ρ σ w r qs

theorem fillA_ok {place : Nat → Option (Nat × Nat)} : ∀ (parts : List (Nat × AV)) (vps : List (Nat × Value)) (cells res : List AV) (vc : Array Value), PRel ρ σ w parts vps → LRel ρ σ w cells vc.toList →
    (∀ u ∈ vc.toList, u.oneCell' = true) → fillA σ place cells parts = some res → ∃ r, Instr.fill place vc vps = some r ∧ LRel ρ σ w res r.toList ∧ ∀ u ∈ r.toList, u.oneCell' = true
  | [], vps, cells, res, vc, hp, hl, ho, h => by
    cases hp
    simp only [fillA, Option.some.injEq] at h; subst h
    exact ⟨vc, rfl, hl, ho⟩
  | (i, x) :: rest, _, cells, res, vc, ⟨v, qs, h1, h2, h3⟩, hl, ho, h => by
    subst h1
    simp only [fillA] at h
    split at h
    · rename_i off size cs hpl hcs
      split at h
      · rename_i hq
        obtain ⟨q1, q2, q3⟩ := hq
        have hv := cells_rel hcs q3 h2
        have hvl := lrel_len hv
        have hcl := lrel_len hl
        simp only [Array.length_toList] at hvl hcl
        have e := fill_cells (v := v) (cells := vc) (off := off) (by omega)
        have e' : splice cells off cs = splice cells off cs := rfl
        obtain ⟨r, g1, g2, g3⟩ := fillA_ok (place := place) rest qs (splice cells off cs) res _ h3 (by
          rw [e]; unfold splice
          rw [show cs.length = v.cells.toList.length from by simp; omega]
          exact lrel_append (lrel_append (lrel_take hl _) hv) (lrel_drop hl _)) (by
          rw [e]; intro u hu
          simp only [splice, List.mem_append] at hu
          rcases hu with (hu | hu) | hu
          · exact ho u (List.mem_of_mem_take hu)
          · exact oneCells_of_flat q3 hv u hu
          · exact ho u (List.mem_of_mem_drop hu)) h
        refine ⟨r, ?_, g2, g3⟩
        simp only [Instr.fill, hpl]
        rw [if_neg (by simp; omega)]; exact g1
      · cases h
    · cases h

def placesA (P : Program) (fs : Array Field) : Option (List (Nat × Nat)) := fs.toList.mapM fun f => (P.info? f.type).map fun i => (f.offset, i.size)

theorem placesA_ok : ∀ (fs : List Field) {ps : List (Nat × Nat)}, fs.mapM (fun f => (P.info? f.type).map fun i => (f.offset, i.size)) = some ps →
    (fs.mapM fun f => (Prod.mk f.offset <$> sizeOf f.type : Sem (Nat × Nat)) : Sem (List (Nat × Nat))).run P w = .ok ps w
  | [], ps, h => by simp at h; subst h; rfl
  | f :: fs, ps, h => by
    rw [List.mapM_cons] at h
    simp only [bind, Option.bind_eq_some_iff, Option.map_eq_some_iff, pure, Option.some.injEq] at h
    obtain ⟨a, ⟨i, hi, rfl⟩, qs, hq, rfl⟩ := h
    rw [List.mapM_cons]
    simp [run_sizeOf w hi, Program.cellsOf, hi, placesA_ok fs hq]

def buildA (P : Program) (σ : Heap) (T : TypeId) (parts : List (Nat × AV)) : Option AV :=
  match zeroCellsA P T, P.underlying T with
  | some z, some (.struct fs) => match placesA P fs with
    | some ps => (fillA σ (ps[·]?) z parts).map .agg
    | none => none
  | some z, some (.array _ e) => match P.info? e with
    | some i => (fillA σ (fun k => some (k * i.size, i.size)) z parts).map .agg
    | none => none
  | _, _ => none

theorem buildA_ok {T : TypeId} {parts : List (Nat × AV)} {vps : List (Nat × Value)} {av : AV} (hp : PRel ρ σ w parts vps) (h : buildA P σ T parts = some av) :
    ∃ u, (Instr.build T vps.toArray).run P w = .ok u w ∧ VRel ρ σ w av u := by
  unfold buildA at h
  split at h
  · rename_i z fs hz hu
    split at h
    · rename_i ps hps
      simp only [Option.map_eq_some_iff] at h
      obtain ⟨cs, hc, rfl⟩ := h
      obtain ⟨i, zv, h1, h2, h3, h4, h5, h6, h7, h8⟩ := zeroCellsA_ok (w := w) hz
      obtain ⟨r, g1, g2, g3⟩ := fillA_ok parts vps z cs zv.cells hp (h5 ρ σ w) h6 hc
      refine ⟨.agg r, ?_, ⟨r.toList, by simp, g2⟩⟩
      have hm := placesA_ok (w := w) fs.toList hps
      have hm' : (fs.mapM fun f => (Prod.mk f.offset <$> sizeOf f.type : Sem (Nat × Nat)) : Sem (Array (Nat × Nat))).run P w = .ok ps.toArray w := by
        rw [Array.mapM_eq_mapM_toList]
        simp only [Sem.run_map, hm, Result.andThen_ok]
      simp [Instr.build, h7, run_und hu, hm', g1]
    · cases h
  · rename_i z n e hz hu
    split at h
    · rename_i i hi
      simp only [Option.map_eq_some_iff] at h
      obtain ⟨cs, hc, rfl⟩ := h
      obtain ⟨i', zv, h1, h2, h3, h4, h5, h6, h7, h8⟩ := zeroCellsA_ok (w := w) hz
      obtain ⟨r, g1, g2, g3⟩ := fillA_ok parts vps z cs zv.cells hp (h5 ρ σ w) h6 hc
      refine ⟨.agg r, ?_, ⟨r.toList, by simp, g2⟩⟩
      simp [Instr.build, h7, run_und hu, run_sizeOf w hi, Program.cellsOf, hi, g1]
    · cases h
  · cases h
end
end Go.Abs
