/-
  AN ABSTRACT SEMANTICS, 3: cells read and written.
-/
import Derived.Test.YtdjbnaleoohafaaGreatDoorAbs2
import Derived.Laws.Cells
namespace Go.Abs
open Go Go.RowKit

/-- So many cells lie in memory from a place on. -/
def Cells (w : World) (b off : Nat) (us : List Value) : Prop := ∀ i, i < us.length → w.cell? ⟨b, off + i, none⟩ = us[i]?

theorem Cells.nil (w : World) (b off : Nat) : Cells w b off [] := fun i h => by simp at h
theorem Cells.cons {w : World} {b off : Nat} {u : Value} {us : List Value} (h : w.cell? ⟨b, off, none⟩ = some u) (hs : Cells w b (off + 1) us) : Cells w b off (u :: us) := by
  intro i hi
  cases i with
  | zero => simpa using h
  | succ i => have := hs i (by simpa using hi); simp only [List.getElem?_cons_succ]; rw [← this]; congr 2; omega
theorem Cells.head {w : World} {b off : Nat} {u : Value} {us : List Value} (h : Cells w b off (u :: us)) : w.cell? ⟨b, off, none⟩ = some u := by simpa using h 0 (by simp)
theorem Cells.tail {w : World} {b off : Nat} {u : Value} {us : List Value} (h : Cells w b off (u :: us)) : Cells w b (off + 1) us := by
  intro i hi
  have := h (i + 1) (by simpa using hi)
  simp only [List.getElem?_cons_succ] at this
  rw [← this]; congr 2; omega
theorem Cells.of_block {w : World} {b : Nat} {c : Array Value} {el : TypeId} {fz : Nat × Nat} (h : w.heap[b]? = some (.cells c el fz)) : Cells w b 0 c.toList := by
  intro i hi
  simp [World.cell?, h]
theorem Cells.drop {w : World} {b off : Nat} {us : List Value} (h : Cells w b off us) (k : Nat) : Cells w b (off + k) (us.drop k) := by
  intro i hi
  simp at hi
  have := h (k + i) (by omega)
  rw [List.getElem?_drop, ← this]; congr 2; omega
theorem Cells.take {w : World} {b off : Nat} {us : List Value} (h : Cells w b off us) (k : Nat) : Cells w b off (us.take k) := by
  intro i hi
  simp at hi
  rw [List.getElem?_take_of_lt (by omega)]; exact h i (by omega)

theorem add_none (b off i : Nat) : (⟨b, off, none⟩ : Addr).add i = ⟨b, off + i, none⟩ := by
  unfold Addr.add
  by_cases h : i = 0
  · subst h; simp
  · simp [h]

theorem run_loadCellsFrom_list (P : Program) (w : World) (b off : Nat) : ∀ (us : List Value) (i : Nat) (acc : Array Value), Cells w b (off + i) us →
    (loadCellsFrom ⟨b, off, none⟩ i us.length acc).run P w = .ok (acc ++ us.toArray) w := by
  intro us
  induction us with
  | nil => intro i acc h; simp [loadCellsFrom]
  | cons u us ih =>
    intro i acc h
    have h0 := h.head
    simp only [List.length_cons, loadCellsFrom, Sem.run_bind, run_load, add_none, h0, Result.andThen_ok]
    rw [ih (i + 1) (acc.push u) (by simpa [Nat.add_assoc] using h.tail)]
    congr 1
    apply Array.ext'
    simp

theorem run_loadCells_list (P : Program) (w : World) (b off : Nat) (us : List Value) (h : Cells w b off us) :
    (loadCells ⟨b, off, none⟩ us.length).run P w = .ok us.toArray w := by
  unfold loadCells
  rw [run_loadCellsFrom_list P w b off us 0 #[] (by simpa using h)]
  simp

section
variable {ρ : Map} {σ : Heap} {w : World}

theorem lrel_len : ∀ {cs : List AV} {us : List Value}, LRel ρ σ w cs us → us.length = cs.length
  | [], _, h => by cases h; rfl
  | c :: cs, _, ⟨u, us, h1, _, h3⟩ => by subst h1; simp [lrel_len h3]

theorem lrel_get : ∀ {cs : List AV} {us : List Value}, LRel ρ σ w cs us → ∀ (i : Nat) (c : AV), cs[i]? = some c → ∃ u, us[i]? = some u ∧ VRel ρ σ w c u
  | [], _, _, i, c, hc => by simp at hc
  | c :: cs, _, ⟨u, us, h1, h2, h3⟩, i, c', hc => by
    subst h1
    cases i with
    | zero => simp at hc; subst hc; exact ⟨u, by simp, h2⟩
    | succ i => simp only [List.getElem?_cons_succ] at hc ⊢; exact lrel_get h3 i c' hc

theorem lrel_drop : ∀ {cs : List AV} {us : List Value}, LRel ρ σ w cs us → ∀ (k : Nat), LRel ρ σ w (cs.drop k) (us.drop k)
  | _, _, h, 0 => by simpa using h
  | [], _, h, k + 1 => by cases h; simp [LRel]
  | c :: cs, _, ⟨u, us, h1, h2, h3⟩, k + 1 => by subst h1; simpa using lrel_drop h3 k

theorem lrel_take : ∀ {cs : List AV} {us : List Value}, LRel ρ σ w cs us → ∀ (k : Nat), LRel ρ σ w (cs.take k) (us.take k)
  | _, _, h, 0 => by simp [LRel]
  | [], _, h, k + 1 => by cases h; simp [LRel]
  | c :: cs, _, ⟨u, us, h1, h2, h3⟩, k + 1 => by subst h1; exact ⟨u, _, by simp, h2, lrel_take h3 k⟩

theorem lrel_append : ∀ {cs ds : List AV} {us vs : List Value}, LRel ρ σ w cs us → LRel ρ σ w ds vs → LRel ρ σ w (cs ++ ds) (us ++ vs)
  | [], _, _, _, h, k => by cases h; simpa using k
  | c :: cs, _, _, _, ⟨u, us, h1, h2, h3⟩, k => by subst h1; exact ⟨u, _, by simp, h2, lrel_append h3 k⟩

theorem crel_vals : ∀ {cs : List AV} {b off : Nat}, CRel ρ σ w cs b off → ∃ us, Cells w b off us ∧ LRel ρ σ w cs us ∧ ∀ u ∈ us, u.oneCell' = true
  | [], b, off, _ => ⟨[], .nil _ _ _, rfl, by simp⟩
  | c :: cs, b, off, ⟨⟨u, h1, h2, h3⟩, h4⟩ => by
    obtain ⟨us, e1, e2, e3⟩ := crel_vals h4
    exact ⟨u :: us, .cons h1 e1, ⟨u, us, rfl, h3, e2⟩, fun x hx => (List.mem_cons.1 hx).elim (fun e => e ▸ h2) (fun hx => e3 x hx)⟩

theorem crel_of_vals : ∀ {cs : List AV} {b off : Nat} {us : List Value}, Cells w b off us → LRel ρ σ w cs us → (∀ u ∈ us, u.oneCell' = true) → CRel ρ σ w cs b off
  | [], b, off, _, _, _, _ => trivial
  | c :: cs, b, off, _, hc, ⟨u, us, h1, h2, h3⟩, ho => by
    subst h1
    exact ⟨⟨u, hc.head, ho u (by simp), h2⟩, crel_of_vals hc.tail h3 fun x hx => ho x (by simp [hx])⟩

theorem crel_drop : ∀ {cs : List AV} {b off : Nat}, CRel ρ σ w cs b off → ∀ k, k ≤ cs.length → CRel ρ σ w (cs.drop k) b (off + k)
  | _, _, _, h, 0, _ => by simpa using h
  | [], _, _, _, k + 1, hk => by simp at hk
  | c :: cs, b, off, ⟨_, h4⟩, k + 1, hk => by
    have := crel_drop h4 k (by simpa using hk)
    simp only [List.drop_succ_cons]
    rw [show off + (k + 1) = off + 1 + k from by omega]; exact this

/-- The cells of an element. -/
def AV.cl : AV → List AV
  | .agg cs => cs
  | v => [v]
theorem cl_len (x : AV) : x.cl.length = x.ncells := by cases x <;> rfl

theorem rrel_cons {x : AV} {xs : List AV} {b off : Nat} : RRel ρ σ w (x :: xs) b off ↔ CRel ρ σ w x.cl b off ∧ RRel ρ σ w xs b (off + x.ncells) := by
  cases x <;> simp [RRel, AV.cl, AV.ncells, CRel]

theorem rrel_append : ∀ {xs ys : List AV} {b off : Nat}, RRel ρ σ w (xs ++ ys) b off ↔ RRel ρ σ w xs b off ∧ RRel ρ σ w ys b (off + cellsN xs)
  | [], ys, b, off => by simp [RRel, cellsN]
  | x :: xs, ys, b, off => by
    rw [List.cons_append, rrel_cons, rrel_cons, rrel_append (xs := xs)]
    simp only [cellsN, Nat.add_assoc, and_assoc]

theorem cellsN_unif {sz : Nat} : ∀ {xs : List AV}, unif sz xs = true → cellsN xs = xs.length * sz
  | [], _ => by simp [cellsN]
  | x :: xs, h => by
    simp only [unif, List.all_cons, Bool.and_eq_true, beq_iff_eq] at h
    rw [cellsN, h.1, cellsN_unif (sz := sz) (xs := xs) (by simpa [unif] using h.2), List.length_cons, Nat.succ_mul]; omega

theorem unif_get {sz : Nat} {xs : List AV} (h : unif sz xs = true) {i : Nat} {x : AV} (hx : xs[i]? = some x) : x.ncells = sz := by
  simp only [unif, List.all_eq_true, beq_iff_eq] at h
  exact h x (List.mem_of_getElem? hx)

theorem rrel_get {sz : Nat} : ∀ {xs : List AV} {b off : Nat}, RRel ρ σ w xs b off → unif sz xs = true → ∀ (i : Nat) (x : AV), xs[i]? = some x → CRel ρ σ w x.cl b (off + i * sz)
  | [], _, _, _, _, i, x, hx => by simp at hx
  | y :: xs, b, off, h, hu, i, x, hx => by
    rw [rrel_cons] at h
    have hy : y.ncells = sz := unif_get (i := 0) hu (by simp)
    have hu' : unif sz xs = true := by simp only [unif, List.all_cons, Bool.and_eq_true] at hu ⊢; exact hu.2
    cases i with
    | zero => simp at hx; subst hx; simpa using h.1
    | succ i =>
      simp only [List.getElem?_cons_succ] at hx
      have := rrel_get h.2 hu' i x hx
      rw [hy] at this
      rw [show off + (i + 1) * sz = off + sz + i * sz from by rw [Nat.succ_mul]; omega]; exact this

/-- Cells read through a pointer. -/
def readCells (σ : Heap) (n : Nat) : AV → Option (List AV)
  | .ptr o off => match σ[o]? with
    | some (.box cs) => if off + n ≤ cs.length then some ((cs.drop off).take n) else none
    | _ => none
  | .pimm cs => if n ≤ cs.length then some (cs.take n) else none
  | .prow r ver i off => match σ[r]? with
    | some (.row ver' _ xs) => if ver' = ver then
        (match xs[i]? with
        | some x => if off + n ≤ x.cl.length then some ((x.cl.drop off).take n) else none
        | none => none) else none
    | _ => none
  | _ => none

theorem readCells_len {n : Nat} {av : AV} {cs : List AV} (h : readCells σ n av = some cs) : cs.length = n := by
  unfold readCells at h
  split at h <;> (try (split at h)) <;> (try (split at h)) <;> (try (split at h)) <;> (try (split at h)) <;> first | (cases h; done) | (cases h; simp; try omega)

theorem readCells_ok (hs : Sim ρ σ w) {n : Nat} {av : AV} {v : Value} {cs : List AV} (hv : VRel ρ σ w av v) (h : readCells σ n av = some cs) :
    ∃ b off us, v = .pointer (some ⟨b, off, none⟩) ∧ Cells w b off us ∧ LRel ρ σ w cs us ∧ us.length = n := by
  have hlen := readCells_len h
  unfold readCells at h
  split at h
  · rename_i o off
    obtain ⟨h1, obj, h2, h3⟩ := hv
    split at h
    · rename_i cs' ho
      split at h
      · rename_i hle
        cases h
        obtain ⟨c, el, fz, e1, e2, e3, e4⟩ := hs.obj o _ ho
        have hc := ((Cells.of_block e1).drop off).take n
        rw [Nat.zero_add] at hc
        have hl := lrel_take (lrel_drop e3 off) n
        exact ⟨_, _, _, h1, hc, hl, by rw [lrel_len hl, hlen]⟩
      · cases h
    · cases h
  · rename_i cs'
    obtain ⟨a, h1, h2, h3, h4, h5⟩ := hv
    split at h
    · cases h
      obtain ⟨us, e1, e2, e3⟩ := crel_vals h5
      have hl := lrel_take e2 n
      refine ⟨a.block, a.off, us.take n, ?_, e1.take n, hl, by rw [lrel_len hl, hlen]⟩
      rw [h1, ← h2]
    · cases h
  · rename_i r ver i off
    obtain ⟨ver', sz, xs, h1, h2, h3⟩ := hv
    split at h
    · rename_i ver2 sz2 xs2 ho
      split at h
      · rename_i hver
        rcases h1 with h1 | h1
        · rw [ho] at h1; cases h1
          obtain ⟨hi, hv⟩ := h3 ho hver
          obtain ⟨c, el, fz, e1, e2, e3, e4, e5, e6⟩ := hs.obj r _ ho
          split at h
          · rename_i x hx
            split at h
            · rename_i hle
              cases h
              have hcr := crel_drop (rrel_get e6 e5 i x hx) off (by omega)
              obtain ⟨us, g1, g2, g3⟩ := crel_vals hcr
              have hl := lrel_take g2 n
              exact ⟨_, _, _, hv, g1.take n, hl, by rw [lrel_len hl, hlen]⟩
            · cases h
          · cases h
        · rw [ho] at h1; cases h1
      · cases h
    · cases h
  · cases h
end

/-- A stretch of cells, written over. -/
def splice {α : Type} (l : List α) (off : Nat) (us : List α) : List α := l.take off ++ us ++ l.drop (off + us.length)
theorem splice_len {α : Type} (l : List α) (off : Nat) (us : List α) (h : off + us.length ≤ l.length) : (splice l off us).length = l.length := by
  simp [splice]; omega
theorem splice_nil {α : Type} (l : List α) (off : Nat) : splice l off [] = l := by simp [splice]

theorem run_storeCells_list (P : Program) (b off : Nat) (el : TypeId) (fz : Nat × Nat) : ∀ (us : List Value) (i : Nat) (w : World) (c : Array Value), w.heap[b]? = some (.cells c el fz) → NoFz fz c.size →
    off + i + us.length ≤ c.size → (∀ u ∈ us, u.oneCell' = true) →
    ∃ w', (storeCells ⟨b, off, none⟩ us i).run P w = .ok () w' ∧ w'.heap.size = w.heap.size ∧ w'.os = w.os ∧ w'.tape = w.tape ∧ w'.output = w.output ∧
      (∀ k, k ≠ b → w'.heap[k]? = w.heap[k]?) ∧ w'.heap[b]? = some (.cells (splice c.toList (off + i) us).toArray el fz) := by
  intro us
  induction us with
  | nil => intro i w c h _ _ _; exact ⟨w, rfl, rfl, rfl, rfl, rfl, fun _ _ => rfl, by simp [splice_nil, h]⟩
  | cons u us ih =>
    intro i w c h hf hle ho
    simp only [List.length_cons] at hle
    have hcell : w.cell? ⟨b, off + i, none⟩ = c[off + i]? := by simp [World.cell?, h]
    have hc' : c[off + i]? = some c[off + i] := Array.getElem?_eq_getElem (by omega)
    have hfz : w.frozen? ⟨b, off + i, none⟩ = false := by
      have := hf (off + i) (by omega)
      simp only [World.frozen?, h]
      simpa using this
    have hb : (w.setCell ⟨b, off + i, none⟩ u).heap[b]? = some (.cells (c.setIfInBounds (off + i) u) el fz) := by
      simp [World.setCell, Array.getElem?_modify, h]
    obtain ⟨w', g1, g2, g3, g4, g5, g6, g7⟩ := ih (i + 1) (w.setCell ⟨b, off + i, none⟩ u) _ hb (by simpa using hf) (by simp; omega) (fun x hx => ho x (by simp [hx]))
    refine ⟨w', ?_, by rw [g2]; simp, g3, g4, g5, fun k hk => by rw [g6 k hk]; simp [World.setCell, Array.getElem?_modify, Ne.symm hk], ?_⟩
    · simp only [storeCells, Sem.run_bind, add_none, run_store P w _ u .plain (ho u (by simp)), hcell, hc', hfz]
      simpa using g1
    · rw [g7]
      congr 3
      simp only [splice, Array.toList_setIfInBounds, List.length_cons]
      rw [show off + (i + 1) = off + i + 1 from by omega]
      rw [List.take_succ_eq_append_getElem (by simp; omega)]
      simp only [List.getElem_set_self, List.append_assoc, List.singleton_append]
      rw [List.take_set_of_le (by omega), List.drop_set_of_lt (by omega)]
      rw [show off + i + (us.length + 1) = off + i + 1 + us.length from by omega]
end Go.Abs
