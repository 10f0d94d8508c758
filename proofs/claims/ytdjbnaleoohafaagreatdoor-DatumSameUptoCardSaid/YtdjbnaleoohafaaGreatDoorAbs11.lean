/-
  AN ABSTRACT SEMANTICS, 11: append and copy.
-/
import Derived.Test.YtdjbnaleoohafaaGreatDoorAbs10
namespace Go.Abs
open Go Go.RowKit

/-- A text's bytes as values. -/
def byteAVs (s : List UInt8) : List AV := s.map fun c => .int .u8 c.toNat

/-- The elements of what is appended. -/
def srcA (P : Program) (σ : Heap) (e : TypeId) (sz : Nat) : AV → Option (List AV)
  | .nils => some []
  | .imm xs _ _ => if unif sz xs = true then some xs else none
  | .own r ver off len => match rowAt σ r ver with
    | some (sz', xs) => if sz' = sz ∧ off + len ≤ xs.length then some ((xs.drop off).take len) else none
    | none => none
  | .str s => match P.underlying e with
    | some (.int .u8) => if sz = 1 then some (byteAVs s) else none
    | _ => none
  | _ => none

section
variable {P : Program} {ρ : Map} {σ : Heap} {w : World}

theorem cells_heap {w w' : World} (h : w'.heap = w.heap) {b off : Nat} {us : List Value} (hc : Cells w b off us) : Cells w' b off us := by
  intro i hi
  rw [← hc i hi]; unfold World.cell?; rw [h]

theorem run_loadCells_heap {b off : Nat} {us : List Value} (h : Cells w b off us) {n : Nat} (hn : us.length = n) {w' : World} (hw : w'.heap = w.heap) :
    (loadCells ⟨b, off, none⟩ n).run P w' = .ok us.toArray w' := by
  subst hn; exact run_loadCells_list P w' b off us (cells_heap hw h)

theorem flat_bytes (s : List UInt8) : flat (byteAVs s) = byteAVs s := by
  induction s with
  | nil => rfl
  | cons c s ih => simp only [byteAVs, List.map_cons, flat, AV.cl] at ih ⊢; rw [ih]; rfl
theorem lrel_bytes : ∀ (s : List UInt8), LRel ρ σ w (byteAVs s) (s.map fun c => Value.int .u8 c.toNat)
  | [] => rfl
  | c :: s => ⟨_, _, rfl, ok_int (byte_range c), lrel_bytes s⟩
theorem unif_bytes (s : List UInt8) : unif 1 (byteAVs s) = true := by simp [unif, byteAVs, AV.ncells]

theorem rrel_sub {sz b off : Nat} {xs : List AV} (hu : unif sz xs = true) (hr : RRel ρ σ w xs b off) (o l : Nat) (h : o + l ≤ xs.length) : RRel ρ σ w ((xs.drop o).take l) b (off + o * sz) := by
  have := (rrel_cut (l := o) (h := o + l) hu hr (by omega) h).1
  rwa [show (xs.take (o + l)).drop o = (xs.drop o).take l from by rw [List.drop_take]; congr 1; omega] at this

/-- What is told of a slice, or text, that is read from its begin. -/
theorem srcA_ok (hs : Sim ρ σ w) {e : TypeId} {sz : Nat} {x : AV} {v : Value} {es : List AV} (hv : VRel ρ σ w x v) (h : srcA P σ e sz x = some es) :
    ∃ us : List Value, LRel ρ σ w (flat es) us ∧ (∀ u ∈ us, u.oneCell' = true) ∧ unif sz es = true ∧
      (∀ w', (Builtin.lenOf v).run P w' = .ok es.length w') ∧ (∀ w', w'.heap = w.heap → (Builtin.firstCells sz es.length v).run P w' = .ok us.toArray w') := by
  unfold srcA at h
  split at h
  · cases h
    simp only [VRel] at hv; subst hv
    exact ⟨[], rfl, by simp, rfl, fun _ => rfl, fun _ _ => rfl⟩
  · rename_i xs sp full
    split at h
    · rename_i hu
      cases h
      obtain ⟨a, cap, rfl, i1, i2, i3, i4, i5⟩ := imm_all hv
      by_cases hne : es = []
      · subst hne
        refine ⟨[], rfl, by simp, rfl, fun _ => rfl, fun w' _ => ?_⟩
        cases a with
        | none => rfl
        | some a => simp [Builtin.firstCells, loadCells, loadCellsFrom]
      · have hne' : es ++ sp ≠ [] := by simp [hne]
        obtain ⟨b, off, sz', rfl, g1, g2, g3, g4⟩ := i5 hne'
        rw [rrel_append] at g4
        obtain ⟨us, f1, f2, f3⟩ := flat_of_rrel g4.1
        have hl := lrel_len f2
        rw [flat_len hu] at hl
        exact ⟨us, f2, f3, hu, fun _ => rfl, fun w' hw => by simp only [Builtin.firstCells]; exact run_loadCells_heap f1 hl hw⟩
    · cases h
  · rename_i r ver off len
    split at h
    · rename_i sz' xs hr
      split at h
      · rename_i hq
        obtain ⟨q1, q2⟩ := hq
        cases h
        subst q1
        have ho := rowAt_some hr
        obtain ⟨g1, g2, o', rfl, g4⟩ := own_row hv ho
        obtain ⟨c, el, fz, f1, f2, f3, f4, f5, f6⟩ := hs.obj r _ ho
        have hu : unif sz' ((xs.drop off).take len) = true := unif_take (unif_drop f5)
        have hlen : ((xs.drop off).take len).length = len := by simp; omega
        by_cases h0 : len = 0
        · subst h0
          exact ⟨[], rfl, by simp, rfl, fun _ => rfl, fun w' _ => by simp [Builtin.firstCells, loadCells, loadCellsFrom]⟩
        · have hr' := rrel_sub f5 f6 off len q2
          obtain ⟨us, e1, e2, e3⟩ := flat_of_rrel hr'
          have hl := lrel_len e2
          rw [flat_len hu] at hl
          refine ⟨us, e2, e3, hu, fun _ => by rw [hlen]; rfl, fun w' hw => ?_⟩
          simp only [Builtin.firstCells]
          rw [g4 (by omega)]
          exact run_loadCells_heap e1 hl hw
      · cases h
    · cases h
  · rename_i s
    split at h
    · split at h
      · rename_i hsz
        cases h
        subst hsz
        obtain ⟨b, rfl, hb, _⟩ := hv
        have hsz := str_size hb
        refine ⟨s.map fun c => Value.int .u8 c.toNat, by rw [flat_bytes]; exact lrel_bytes s, ?_, unif_bytes s, fun _ => by simp [Builtin.lenOf, hsz, byteAVs], fun w' _ => ?_⟩
        · intro u hu
          obtain ⟨c, _, rfl⟩ := List.mem_map.1 hu
          rfl
        · simp only [Builtin.firstCells, byteAVs, List.length_map, Sem.run_pure]
          congr 1
          apply Array.ext'
          rw [← hsz]
          have : (b.extract 0 b.size) = b := by simp
          rw [this]
          simp [hb]
      · cases h
    · cases h
  · cases h

theorem growBy_le (n : Nat) : ∀ (r c : Nat), Builtin.growBy n r c ≤ max c (n + (n + 768) / 4)
  | 0, c => by simp [Builtin.growBy]; omega
  | r + 1, c => by
    simp only [Builtin.growBy]
    split
    · omega
    · have := growBy_le n r (c + (c + 768) / 4); omega
theorem nextcap_le {n old : Nat} (h : old < n) : Builtin.nextslicecap n old ≤ 2 * n + 768 := by
  unfold Builtin.nextslicecap
  split
  · omega
  · split
    · omega
    · have := growBy_le n 4 old; omega

theorem cut_appendCap (need old : Nat) (e : TypeId) (t : Nat) : need ≤ (Question.appendCap need old e).cut t := by
  simp [Question.cut]

/-- Not a number: what is appended is no count of noughts. -/
def notInt (P : Program) : Option TypeId → Bool
  | none => true
  | some t => match P.underlying t with
    | some (.int _) => false
    | some _ => true
    | none => false

def appendA (P : Program) (base : Nat) (σ : Heap) (ts : List TypeId) (x y : AV) : Option (AV × Heap) :=
  match ts[0]? with
  | some t => (match P.underlying t with
    | some (.slice e) => (match P.info? e with
      | some i => (match srcA P σ e i.size y with
        | some es =>
          if notInt P ts[1]? = true then
            (if es = [] then
              (match x with
              | .nils => some (x, σ)
              | .imm _ _ _ => some (x, σ)
              | .own r ver _ _ => if (rowAt σ r ver).isSome = true then some (x, σ) else none
              | _ => none)
            else if 0 < i.size ∧ 0 < i.bytes ∧ i.bytes ≤ 2 ^ 20 then
              (match x with
              | .nils => if es.length * i.bytes ≤ 2 ^ 46 ∧ es.length ≤ 2 ^ 46 ∧ (zeroElem P e).isSome = true then some (.own σ.length 0 0 es.length, σ ++ [.row 0 i.size es]) else none
              | .imm xs _ true => if (xs.length + es.length) * i.bytes ≤ 2 ^ 46 ∧ xs.length + es.length ≤ 2 ^ 46 ∧ unif i.size xs = true ∧ (zeroElem P e).isSome = true then
                  some (.own σ.length 0 0 (xs.length + es.length), σ ++ [.row 0 i.size (xs ++ es)]) else none
              | .own r ver off len => (match rowAt σ r ver with
                | some (sz, xs) => if (len + es.length) * i.bytes ≤ 2 ^ 46 ∧ len + es.length ≤ 2 ^ 46 ∧ sz = i.size ∧ (base ≤ r ∨ refsBL 0 es = true) ∧ (zeroElem P e).isSome = true then
                    some (.own r (ver + 1) 0 (len + es.length), σ.set r (.row (ver + 1) sz ((xs.drop off).take len ++ es))) else none
                | none => none)
              | _ => none)
            else none)
          else none
        | none => none)
      | none => none)
    | _ => none)
  | none => none

theorem size_zeroCells (z : Array Value) (n : Nat) : (Builtin.zeroCells z n).size = n * z.size := by simp [Builtin.zeroCells]

theorem notInt_cases {o : Option TypeId} (h : notInt P o = true) : o = none ∨ ∃ t d, o = some t ∧ P.underlying t = some d ∧ ∀ k, d ≠ .int k := by
  cases o with
  | none => exact .inl rfl
  | some t =>
    right
    simp only [notInt] at h
    split at h
    · cases h
    · rename_i d hn hd
      exact ⟨t, d, rfl, hd, fun k e => hn k e⟩
    · cases h

/-- An append that asks for new memory. -/
theorem run_append_new {ta : Array TypeId} {t ty e : TypeId} {i : TypeInfo} {z : Value} {bs : Option Addr} {sLen sCap n : Nat} {y : Value} {old new : Array Value} (h0 : ta[0]? = some t) (h1 : notInt P ta[1]? = true)
    (ht : P.underlying t = some (.slice e)) (hi : P.info? e = some i) (hz : i.zero = some z) (hzs : z.cells.size = i.size) (hb0 : 0 < i.bytes) (hb1 : i.bytes ≤ 2 ^ 20) (hby : (sLen + n) * i.bytes ≤ 2 ^ 46) (hroom : sCap < sLen + n)
    (hn : ∀ w', (Builtin.lenOf y).run P w' = .ok n w') (hold : ∀ w', w'.heap = w.heap → (Builtin.firstCells i.size sLen (.slice bs sLen sCap)).run P w' = .ok old w')
    (hnew : ∀ w', w'.heap = w.heap → (Builtin.firstCells i.size n y).run P w' = .ok new w') :
    ∃ cap rest, sLen + n ≤ cap ∧ rest.size = (cap - (sLen + n)) * i.size ∧
      (Builtin.append_ ta ty #[.slice bs sLen sCap, y]).run P w = .ok (.slice (some ⟨w.heap.size, 0, none⟩) (sLen + n) cap) (w.drew.alloc (.cells (old ++ new ++ rest) e)) := by
  have hnc := nextcap_le hroom
  have hle : sLen + n ≤ 2 ^ 46 := by
    have : (sLen + n) * 1 ≤ (sLen + n) * i.bytes := Nat.mul_le_mul_left _ hb0
    omega
  have hcapb : ¬ (Builtin.nextslicecap (sLen + n) sCap * i.bytes > 2 ^ 48) := by
    have a1 : Builtin.nextslicecap (sLen + n) sCap * i.bytes ≤ (2 * (sLen + n) + 768) * i.bytes := Nat.mul_le_mul_right _ hnc
    have a2 : (2 * (sLen + n) + 768) * i.bytes = 2 * ((sLen + n) * i.bytes) + 768 * i.bytes := by rw [Nat.add_mul, Nat.mul_assoc]
    omega
  have hmax : ¬ (((sLen + n : Nat) : Int) > IntKind.i64.max) := by simp only [IntKind.max, IntKind.bits, IntKind.signed, if_true]; omega
  refine ⟨(Question.appendCap (sLen + n) sCap e).cut (w.tape w.drawn (.appendCap (sLen + n) sCap e)), Builtin.zeroCells z.cells _, cut_appendCap _ _ _ _, by rw [size_zeroCells, hzs], ?_⟩
  have hzv : ∀ w', (zeroValue e).run P w' = .ok z w' := fun w' => by simp [zeroValue, typeInfo, hi, hz]
  have hf : (Question.appendCap (sLen + n) sCap e).forced = false := rfl
  have hnr : ¬ (sLen + n ≤ sCap) := by omega
  have hd : w.drew.heap = w.heap := rfl
  have hold' := hold w.drew rfl
  have hnew' := hnew w.drew rfl
  rcases notInt_cases h1 with h1 | ⟨t1, d, h1, hd1, hdn⟩
  · unfold Builtin.append_
    simp only [h0, h1, Sem.run_bind, run_und ht, Result.andThen_ok, run_sizeOf w hi, Program.cellsOf, hi, Option.map_some, Option.getD_some, List.getElem?_toArray, List.getElem?_cons_zero, List.getElem?_cons_succ, Sem.run_pure,
      Bool.false_eq_true, if_false, hn, Bool.not_false, if_true, hnr, typeInfo, run_program, hmax, false_and, hcapb, run_choose, hf, World.drew_eq, run_askRoom, hold', hnew', hzv, run_newRow]
    rfl
  · unfold Builtin.append_
    have hdm : (match d with | .int _ => true | _ => false) = false := by cases d <;> first | rfl | exact absurd rfl (hdn _)
    simp only [h0, h1, Sem.run_bind, run_und ht, run_und hd1, Result.andThen_ok, run_sizeOf w hi, Program.cellsOf, hi, Option.map_some, Option.getD_some, List.getElem?_toArray, List.getElem?_cons_zero, List.getElem?_cons_succ, Sem.run_pure]
    cases d <;> first
      | exact absurd rfl (hdn _)
      | (simp only [Sem.run_bind, Sem.run_pure, Result.andThen_ok, Bool.false_eq_true, if_false, hn, Bool.not_false, if_true, hnr, typeInfo, run_program, hi, hmax, false_and, hcapb, run_choose, hf, World.drew_eq, run_askRoom, hold', hnew', hzv, run_newRow]; rfl)
/-- An append for which there is room. -/
theorem run_append_fits {ta : Array TypeId} {t ty e : TypeId} {i : TypeInfo} {bs : Option Addr} {sLen sCap n : Nat} {y : Value} {new : Array Value} {w' : World} (h0 : ta[0]? = some t) (h1 : notInt P ta[1]? = true)
    (ht : P.underlying t = some (.slice e)) (hi : P.info? e = some i) (hroom : sLen + n ≤ sCap) (hn : ∀ w', (Builtin.lenOf y).run P w' = .ok n w')
    (hnew : (Builtin.firstCells i.size n y).run P w = .ok new w) (hst : match bs with | some a => (storeCells (a.add (sLen * i.size)) new.toList).run P w = .ok () w' | none => w' = w) :
    (Builtin.append_ ta ty #[.slice bs sLen sCap, y]).run P w = .ok (.slice bs (sLen + n) sCap) w' := by
  have key : ∀ (z : Sem Unit), z = (match bs with | some a => storeCells (a.add (sLen * i.size)) new.toList | none => pure ()) → True := fun _ _ => trivial
  rcases notInt_cases h1 with h1 | ⟨t1, d, h1, hd1, hdn⟩
  · unfold Builtin.append_
    cases bs with
    | none =>
      simp only at hst; subst hst
      simp only [h0, h1, Sem.run_bind, run_und ht, Result.andThen_ok, run_sizeOf w' hi, Program.cellsOf, hi, Option.map_some, Option.getD_some, List.getElem?_toArray, List.getElem?_cons_zero, List.getElem?_cons_succ, Sem.run_pure,
        Bool.false_eq_true, if_false, hn, Bool.not_false, if_true, hroom, hnew]
    | some a =>
      simp only at hst
      simp only [h0, h1, Sem.run_bind, run_und ht, Result.andThen_ok, run_sizeOf w hi, Program.cellsOf, hi, Option.map_some, Option.getD_some, List.getElem?_toArray, List.getElem?_cons_zero, List.getElem?_cons_succ, Sem.run_pure,
        Bool.false_eq_true, if_false, hn, Bool.not_false, if_true, hroom, hnew, hst]
  · unfold Builtin.append_
    cases bs with
    | none =>
      simp only at hst; subst hst
      simp only [h0, h1, Sem.run_bind, run_und ht, run_und hd1, Result.andThen_ok, run_sizeOf w' hi, Program.cellsOf, hi, Option.map_some, Option.getD_some, List.getElem?_toArray, List.getElem?_cons_zero, List.getElem?_cons_succ, Sem.run_pure]
      cases d <;> first
        | exact absurd rfl (hdn _)
        | simp only [Sem.run_bind, Sem.run_pure, Result.andThen_ok, Bool.false_eq_true, if_false, hn, Bool.not_false, if_true, hroom, hnew]
    | some a =>
      simp only at hst
      simp only [h0, h1, Sem.run_bind, run_und ht, run_und hd1, Result.andThen_ok, run_sizeOf w hi, Program.cellsOf, hi, Option.map_some, Option.getD_some, List.getElem?_toArray, List.getElem?_cons_zero, List.getElem?_cons_succ, Sem.run_pure]
      cases d <;> first
        | exact absurd rfl (hdn _)
        | simp only [Sem.run_bind, Sem.run_pure, Result.andThen_ok, Bool.false_eq_true, if_false, hn, Bool.not_false, if_true, hroom, hnew, hst]

/-- A new row behind an append. -/
theorem append_new_row {base : Nat} (hs : Sim ρ σ w) (hc : Closed base σ) (hb : base ≤ σ.length) {xs es : List AV} {sz cap : Nat} {old new : List Value} {rest : Array Value} (e : TypeId) (hx : unif sz xs = true) (he : unif sz es = true)
    (l1 : LRel ρ σ w (flat xs) old) (l2 : LRel ρ σ w (flat es) new) (o1 : ∀ u ∈ old, u.oneCell' = true) (o2 : ∀ u ∈ new, u.oneCell' = true) (hcap : xs.length + es.length ≤ cap) (hrest : rest.size = (cap - (xs.length + es.length)) * sz)
    (hlen : xs.length + es.length ≤ 2 ^ 46) : ∃ ρ', Step base ρ σ w ρ' (σ ++ [.row 0 sz (xs ++ es)]) (w.drew.alloc (.cells (old.toArray ++ new.toArray ++ rest) e)) ∧
      VRel ρ' (σ ++ [.row 0 sz (xs ++ es)]) (w.drew.alloc (.cells (old.toArray ++ new.toArray ++ rest) e)) (.own σ.length 0 0 (xs.length + es.length)) (.slice (some ⟨w.heap.size, 0, none⟩) (xs.length + es.length) cap) := by
  have hd : Step base ρ σ w ρ σ w.drew := .grow hs hc ⟨rfl, rfl, rfl, Nat.le_refl _, fun _ _ => rfl⟩
  have hu : unif sz (xs ++ es) = true := by rw [unif_append, hx, he]; rfl
  have ll : LRel ρ σ w (flat (xs ++ es)) (old ++ new) := by rw [flat_append]; exact lrel_append l1 l2
  have hll := lrel_len ll
  rw [flat_len hu] at hll
  have htake : (old.toArray ++ new.toArray ++ rest).toList.take ((xs ++ es).length * sz) = old ++ new := by
    rw [Array.toList_append, Array.toList_append]
    rw [List.take_append_of_le_length (by simp; simp at hll; omega), List.take_of_length_le (by simp; simp at hll; omega)]
  obtain ⟨p1, p2⟩ := push_row (us := old.toArray ++ new.toArray ++ rest) (xs := xs ++ es) (sz := sz) (cap := cap) hd.sim hd.closed hb hu e (by
    rw [htake]; exact lrel_ext (n := σ.length) (Ext.grow (w := w) (w' := w.drew) ⟨rfl, rfl, rfl, Nat.le_refl _, fun _ _ => rfl⟩) _ _ (lrel_refs _ _ ll) ll) (by
    rw [htake]; intro u hu; exact (List.mem_append.1 hu).elim (o1 u) (o2 u)) (by simpa using hcap) (by
    simp only [Array.size_append, hrest, List.size_toArray]
    simp only [List.length_append] at hll
    have : cap * sz = (xs.length + es.length) * sz + (cap - (xs.length + es.length)) * sz := by rw [← Nat.add_mul]; congr 1; omega
    omega)
  exact ⟨_, hd.trans p1, p2 0 _ (by simp) (by omega) rfl⟩

theorem appendA_ok {base : Nat} (hs : Sim ρ σ w) (hc : Closed base σ) (hb : base ≤ σ.length) {ta : Array TypeId} {ty : TypeId} {x y av : AV} {vx vy : Value} {σ' : Heap} (hx : VRel ρ σ w x vx) (hy : VRel ρ σ w y vy)
    (h : appendA P base σ ta.toList x y = some (av, σ')) : Ret base ρ σ w av σ' ((Builtin.append_ ta ty #[vx, vy]).run P w) := by
  unfold appendA at h
  simp only [Array.getElem?_toList] at h
  split at h
  · rename_i t h0
    split at h
    · rename_i e ht
      split at h
      · rename_i i hi
        split at h
        · rename_i es hes
          obtain ⟨us, s1, s2, s3, s4, s5⟩ := srcA_ok (P := P) hs hy hes
          split at h
          · rename_i h1
            have s5' := fun w' hw => s5 w' hw
            split at h
            · rename_i he
              subst he
              have hus : us = [] := by cases s1; rfl
              subst hus
              have nothing : ∀ (a : Option Addr) (len cap : Nat), len ≤ cap → (∀ ad, a = some ad → True) → (Builtin.append_ ta ty #[.slice a len cap, vy]).run P w = .ok (.slice a len cap) w := by
                intro a len cap hle _
                have := run_append_fits (P := P) (w := w) (w' := w) (ty := ty) (bs := a) (sLen := len) (sCap := cap) (n := 0) (y := vy) (new := #[]) h0 h1 ht hi (by omega) s4 (s5 w rfl) (by cases a <;> rfl)
                simpa using this
              split at h
              · cases h
                have hx' := hx
                simp only [VRel] at hx; subst hx
                exact ⟨ρ, w, _, nothing none 0 0 (Nat.le_refl _) (fun _ _ => trivial), hx', .refl hs hc⟩
              · cases h
                have hx' := hx
                obtain ⟨a, cap, rfl, i1, i2, i3, i4, i5⟩ := imm_all hx
                exact ⟨ρ, w, _, nothing a _ cap (by omega) (fun _ _ => trivial), hx', .refl hs hc⟩
              · rename_i r ver off len
                split at h
                · rename_i hr
                  cases h
                  have hx' := hx
                  obtain ⟨⟨sz, xs⟩, hr⟩ := Option.isSome_iff_exists.1 hr
                  have ho := rowAt_some hr
                  obtain ⟨g1, g2, o', rfl, g4⟩ := own_row hx ho
                  obtain ⟨c, el, fz, f1, f2, f3, f4, f5, f6⟩ := hs.obj r _ ho
                  exact ⟨ρ, w, _, nothing _ len _ (by omega) (fun _ _ => trivial), hx', .refl hs hc⟩
                · cases h
              · cases h
            · rename_i hne
              have hpos : 0 < es.length := List.length_pos_iff.2 hne
              split at h
              · rename_i hq
                obtain ⟨q1, q2, q3⟩ := hq
                split at h
                · -- nil
                  split at h
                  · rename_i hw
                    obtain ⟨w1, w2, w3⟩ := hw
                    obtain ⟨⟨z, sz⟩, hz⟩ := Option.isSome_iff_exists.1 w3
                    obtain ⟨i', zv, z1, z2, z3, z4, z5, z6, z7⟩ := zeroElem_ok hz
                    rw [hi] at z1; cases z1
                    cases h
                    simp only [VRel] at hx; subst hx
                    obtain ⟨cap, rest, c1, c2, c3⟩ := run_append_new (P := P) (w := w) (ty := ty) (bs := none) (sLen := 0) (sCap := 0) (n := es.length) (y := vy) (old := #[]) (new := us.toArray) h0 h1 ht hi z3 (by rw [z4, z2]) q2 q3 (by simpa using w1) (by omega) s4
                      (fun _ _ => rfl) s5
                    obtain ⟨ρ', p1, p2⟩ := append_new_row (xs := []) (es := es) (old := []) (new := us) (rest := rest) (cap := cap) (sz := i.size) hs hc hb e rfl s3 rfl s1 (by simp) s2 (by simpa using c1) (by simpa using c2) (by simpa using w2)
                    refine ⟨ρ', _, _, c3, ?_, ?_⟩
                    · simpa using p2
                    · simpa using p1
                  · cases h
                · -- full
                  rename_i xs sp
                  split at h
                  · rename_i hw
                    obtain ⟨w1, w2, w4, w3⟩ := hw
                    obtain ⟨⟨z, sz⟩, hz⟩ := Option.isSome_iff_exists.1 w3
                    obtain ⟨i', zv, z1, z2, z3, z4, z5, z6, z7⟩ := zeroElem_ok hz
                    rw [hi] at z1; cases z1
                    cases h
                    have hsrc : srcA P σ e i.size (.imm xs sp true) = some xs := by simp [srcA, w4]
                    obtain ⟨os, t1, t2, t3, t4, t5⟩ := srcA_ok (P := P) hs hx hsrc
                    obtain ⟨a, cap0, rfl, i1, i2, i3, i4, i5⟩ := imm_all hx
                    have hcap0 := i2 rfl
                    subst hcap0
                    obtain ⟨cap, rest, c1, c2, c3⟩ := run_append_new (P := P) (w := w) (ty := ty) (bs := a) (sLen := xs.length) (sCap := xs.length) (n := es.length) (y := vy) (old := os.toArray) (new := us.toArray) h0 h1 ht hi z3 (by rw [z4, z2]) q2 q3 w1 (by omega) s4 t5 s5
                    obtain ⟨ρ', p1, p2⟩ := append_new_row (xs := xs) (es := es) (old := os) (new := us) (rest := rest) (cap := cap) (sz := i.size) hs hc hb e w4 s3 t1 s1 t2 s2 c1 c2 w2
                    exact ⟨ρ', _, _, c3, p2, p1⟩
                  · cases h
                · -- own
                  rename_i r ver off len
                  split at h
                  · rename_i sz xs hr
                    split at h
                    · rename_i hw
                      obtain ⟨w1, w2, w4, w5, w3⟩ := hw
                      obtain ⟨⟨z, sz'⟩, hz⟩ := Option.isSome_iff_exists.1 w3
                      obtain ⟨i', zv, z1, z2, z3, z4, z5, z6, z7⟩ := zeroElem_ok hz
                      rw [hi] at z1; cases z1
                      cases h
                      subst w4
                      have ho := rowAt_some hr
                      obtain ⟨g1, g2, o', rfl, g4⟩ := own_row hx ho
                      obtain ⟨c, el, fz, f1, f2, f3, f4, f5, f6⟩ := hs.obj r _ ho
                      have hsrc : srcA P σ e i.size (.own r ver off len) = some ((xs.drop off).take len) := by simp [srcA, hr, g1]
                      obtain ⟨os, t1, t2, t3, t4, t5⟩ := srcA_ok (P := P) hs hx hsrc
                      have hlen' : ((xs.drop off).take len).length = len := by simp; omega
                      rw [hlen'] at t4 t5
                      have hol := lrel_len t1
                      rw [flat_len t3, hlen'] at hol
                      have hul := lrel_len s1
                      rw [flat_len s3] at hul
                      have hu' : unif i.size ((xs.drop off).take len ++ es) = true := by rw [unif_append, t3, s3]; rfl
                      have ll : LRel ρ σ w (flat ((xs.drop off).take len ++ es)) (os ++ us) := by rw [flat_append]; exact lrel_append t1 s1
                      have hrefs := (hs.obj r _ ho).refs
                      by_cases hroom : len + es.length ≤ (ρ r).cap - off
                      · -- in place
                        have ho' : o' = (ρ r).start + off * i.size := g4 (by omega)
                        subst ho'
                        have hsz : (ρ r).start + off * i.size + (len + es.length) * i.size ≤ c.size := by
                          have : (off + (len + es.length)) * i.size ≤ (ρ r).cap * i.size := Nat.mul_le_mul_right _ (by omega)
                          rw [Nat.add_mul] at this; omega
                        rw [Nat.add_mul] at hsz
                        obtain ⟨w', r1, r2, r3, r4, r5, r6, r7⟩ := run_storeCells_list P (ρ r).blk ((ρ r).start + off * i.size + len * i.size) el fz us 0 w c f1 f2 (by omega) s2
                        rw [Nat.add_zero] at r7
                        have hrun := run_append_fits (P := P) (w := w) (w' := w') (ty := ty) (bs := some ⟨(ρ r).blk, (ρ r).start + off * i.size, none⟩) (sLen := len) (sCap := (ρ r).cap - off) (n := es.length) (y := vy) (new := us.toArray) h0 h1 ht hi hroom s4 (s5 w rfl)
                          (by simp only [add_none]; exact r1)
                        have hobj : ObjExt (ρ r) ⟨(ρ r).blk, (ρ r).start + off * i.size, (ρ r).cap - off⟩ (some (.row ver i.size xs)) (some (.row (ver + 1) i.size ((xs.drop off).take len ++ es))) :=
                          .inr ⟨_, _, _, rfl, by omega, fun h => by omega⟩
                        have hext : ∀ n, Ext n ρ σ w (upd ρ r ⟨(ρ r).blk, (ρ r).start + off * i.size, (ρ r).cap - off⟩) (σ.set r (.row (ver + 1) i.size ((xs.drop off).take len ++ es))) w' := fun n =>
                          Ext.set ho rfl hobj (by omega) r3 r4 r5 (fun _ => .inl rfl) (fun b _ hb => r6 b hb)
                        have hobj' : (σ.set r (.row (ver + 1) i.size ((xs.drop off).take len ++ es)))[r]? = some (.row (ver + 1) i.size ((xs.drop off).take len ++ es)) := List.getElem?_set_self (lt_of_some ho)
                        refine ⟨_, w', _, hrun, ?_, ?_, hext _, closed_set hc fun hlt => ?_, by simp⟩
                        · refine vrel_own (o' := (ρ r).start + off * i.size) hobj' (by simp; omega) (by omega) ?_ (fun _ => by rw [upd_same]; simp)
                          rw [upd_same]; rfl
                        · refine Sim.set hs ho rfl hobj (by omega) r3 r4 r5 (fun _ => .inl rfl) (fun b _ hb => r6 b hb) ?_
                          refine ⟨_, el, fz, by rw [upd_same]; exact r7, ?_, ?_, ?_, hu', ?_⟩
                          · intro k hk; exact f2 k (by simpa [splice_len c.toList ((ρ r).start + off * i.size + len * i.size) us (by simp; omega)] using hk)
                          · rw [upd_same]; simp; omega
                          · rw [upd_same]
                            simp [splice_len c.toList ((ρ r).start + off * i.size + len * i.size) us (by simp; omega)]
                            have : (ρ r).cap * i.size = off * i.size + ((ρ r).cap - off) * i.size := by rw [← Nat.add_mul]; congr 1; omega
                            omega
                          · rw [upd_same]
                            dsimp only
                            refine rrel_of_flat (us := os ++ us) (fun k hk => ?_) (lrel_ext (hext σ.length) _ _ (lrel_refs _ _ ll) ll) (fun u hu => (List.mem_append.1 hu).elim (t2 u) (s2 u))
                            have hcell : ∀ k, w'.cell? ⟨(ρ r).blk, k, none⟩ = (splice c.toList ((ρ r).start + off * i.size + len * i.size) us)[k]? := fun k => by simp [World.cell?, r7]
                            rw [hcell, splice_get _ _ _ (by simp; omega)]
                            simp only [List.length_append] at hk
                            by_cases hk1 : k < os.length
                            · rw [if_pos (by omega), List.getElem?_append_left hk1]
                              have hr' := rrel_sub f5 f6 off len g1
                              obtain ⟨os', e1, e2, e3⟩ := flat_of_rrel hr'
                              have hx := t5 w rfl
                              have hol' := lrel_len e2
                              rw [flat_len t3, hlen'] at hol'
                              have hrd := run_loadCells_list P w _ _ _ e1
                              simp only [Builtin.firstCells] at hx
                              rw [hol', hx] at hrd
                              have : os = os' := by simpa using hrd
                              subst this
                              rw [← e1 k hk1]; simp [World.cell?, f1]
                            · rw [if_neg (by omega), if_pos (by omega), List.getElem?_append_right (by omega)]
                              congr 1; omega
                        · have hcr := hc r _ hlt ho
                          simp only [AObj.refsB] at hcr ⊢
                          rw [refsBL_append, refsBL_take _ _ _ (refsBL_drop _ _ _ hcr), refsL_mono (Nat.zero_le _) _ (w5.resolve_left (by omega))]; rfl
                      · -- new memory
                        obtain ⟨cap, rest, c1, c2, c3⟩ := run_append_new (P := P) (w := w) (ty := ty) (bs := some ⟨(ρ r).blk, o', none⟩) (sLen := len) (sCap := (ρ r).cap - off) (n := es.length) (y := vy) (old := os.toArray) (new := us.toArray) h0 h1 ht hi z3 (by rw [z4, z2]) q2 q3 w1 (by omega) s4 t5 s5
                        have hobj : ObjExt (ρ r) ⟨w.heap.size, 0, cap⟩ (some (.row ver i.size xs)) (some (.row (ver + 1) i.size ((xs.drop off).take len ++ es))) :=
                          .inr ⟨_, _, _, rfl, by omega, fun h => by omega⟩
                        have hbl : Below w.heap.size w (w.drew.alloc (.cells (os.toArray ++ us.toArray ++ rest) e)) := ((Below.refl _ _).drew).alloc (Nat.le_refl _) _
                        have hext : ∀ n, Ext n ρ σ w (upd ρ r ⟨w.heap.size, 0, cap⟩) (σ.set r (.row (ver + 1) i.size ((xs.drop off).take len ++ es))) (w.drew.alloc (.cells (os.toArray ++ us.toArray ++ rest) e)) := fun n =>
                          Ext.set ho rfl hobj hbl.size rfl rfl rfl (fun _ => .inr (Nat.le_refl _)) (fun b hb _ => hbl.block b hb)
                        have hobj' : (σ.set r (.row (ver + 1) i.size ((xs.drop off).take len ++ es)))[r]? = some (.row (ver + 1) i.size ((xs.drop off).take len ++ es)) := List.getElem?_set_self (lt_of_some ho)
                        have hnew : (w.drew.alloc (.cells (os.toArray ++ us.toArray ++ rest) e)).heap[w.heap.size]? = some (.cells (os.toArray ++ us.toArray ++ rest) e) := heap_alloc_new w.drew _
                        refine ⟨_, _, _, c3, ?_, ?_, hext _, closed_set hc fun hlt => ?_, by simp⟩
                        · refine vrel_own (o' := 0) hobj' (by simp; omega) (by omega) ?_ (fun _ => by rw [upd_same]; simp)
                          rw [upd_same]; rfl
                        · refine Sim.set hs ho rfl hobj hbl.size rfl rfl rfl (fun _ => .inr (Nat.le_refl _)) (fun b hb _ => hbl.block b hb) ?_
                          refine ⟨_, e, (0, 0), by rw [upd_same]; exact hnew, fun o _ h => by simp at h, ?_, ?_, hu', ?_⟩
                          · rw [upd_same]; simp; omega
                          · rw [upd_same]
                            simp only [Nat.zero_add, Array.size_append, List.size_toArray, c2, hol, hul]
                            have : cap * i.size = (len + es.length) * i.size + (cap - (len + es.length)) * i.size := by rw [← Nat.add_mul]; congr 1; omega
                            rw [Nat.add_mul] at this; omega
                          · rw [upd_same]
                            have hcells := (Cells.of_block hnew).take (os ++ us).length
                            have htk : (os.toArray ++ us.toArray ++ rest).toList.take (os ++ us).length = os ++ us := by
                              rw [Array.toList_append, Array.toList_append, List.take_append_of_le_length (by simp), List.take_of_length_le (by simp)]
                            rw [htk] at hcells
                            exact rrel_of_flat hcells (lrel_ext (hext σ.length) _ _ (lrel_refs _ _ ll) ll) (fun u hu => (List.mem_append.1 hu).elim (t2 u) (s2 u))
                        · have hcr := hc r _ hlt ho
                          simp only [AObj.refsB] at hcr ⊢
                          rw [refsBL_append, refsBL_take _ _ _ (refsBL_drop _ _ _ hcr), refsL_mono (Nat.zero_le _) _ (w5.resolve_left (by omega))]; rfl
                    · cases h
                  · cases h
                · cases h
              · cases h
          · cases h
        · cases h
      · cases h
    · cases h
  · cases h
end
end Go.Abs
