/-
  AN ABSTRACT SEMANTICS, 29: arguments: what is read of a value, as a tree of its type.
-/
import Derived.Test.YtdjbnaleoohafaaGreatDoorAbs28
import Derived.ChangeArms
import Derived.ChangeOld
namespace Go.Abs
open Go Go.RowKit

/-- Two lists, one by one. -/
def All2 {α β : Type} (R : α → β → Prop) : List α → List β → Prop
  | [], [] => True
  | a :: as, b :: bs => R a b ∧ All2 R as bs
  | _, _ => False

/-- A tree of a type, so deep (a nil slice is told as an empty one). -/
def Typ (P : Program) : Nat → TypeId → AV → Prop
  | 0, _, _ => False
  | n + 1, t, v => match P.underlying t with
    | some .bool => ∃ b, v = .bool b
    | some (.int k) => ∃ m, v = .int k m ∧ k.min ≤ m ∧ m ≤ k.max
    | some .string => ∃ s, v = .str s ∧ s.length ≤ 2 ^ 48
    | some (.slice e) => ∃ xs sp, v = .imm xs sp false ∧ xs.length + sp.length ≤ 2 ^ 48 ∧ (∀ x ∈ xs, Typ P n e x) ∧ ∀ x ∈ sp, Typ P n e x
    | some (.struct fs) => ∃ ps, v = .agg (flat ps) ∧ All2 (fun f p => Typ P n f p) (fs.toList.map (·.type)) ps
    | _ => False

theorem All2.imp {α β : Type} {R S : α → β → Prop} (h : ∀ a b, R a b → S a b) : ∀ {as : List α} {bs : List β}, All2 R as bs → All2 S as bs
  | [], [], _ => trivial
  | _ :: _, _ :: _, ⟨h1, h2⟩ => ⟨h _ _ h1, All2.imp h h2⟩
  | [], _ :: _, h => h.elim
  | _ :: _, [], h => h.elim

theorem Typ.succ {P : Program} : ∀ (n : Nat) (t : TypeId) (v : AV), Typ P n t v → Typ P (n + 1) t v
  | 0, _, _, h => h.elim
  | n + 1, t, v, h => by
    unfold Typ at h ⊢
    cases hu : P.underlying t with
    | none => rw [hu] at h; exact h
    | some d =>
      rw [hu] at h
      cases d with
      | slice e =>
        obtain ⟨xs, sp, h1, h2, h3, h4⟩ := h
        exact ⟨xs, sp, h1, h2, fun x hx => Typ.succ n e x (h3 x hx), fun x hx => Typ.succ n e x (h4 x hx)⟩
      | struct fs =>
        obtain ⟨ps, h1, h2⟩ := h
        exact ⟨ps, h1, h2.imp fun a b h => Typ.succ n a b h⟩
      | _ => exact h
theorem Typ.mono {P : Program} {n m : Nat} (hm : n ≤ m) {t : TypeId} {v : AV} (h : Typ P n t v) : Typ P m t v := by
  induction hm with
  | refl => exact h
  | step _ ih => exact Typ.succ _ _ _ ih

mutual
/-- How much a reading holds. -/
def dbulk {H : Type} : DataW H → Nat
  | .lit (.string bytes) => bytes.length + 1
  | .lit _ => 1
  | .nil => 1
  | .ptr d => dbulk d + 1
  | .slice elems spare => dbulks elems + dbulks spare + 1
  | .agg parts => dbulks parts + 1
  | .iface _ d => dbulk d + 1
  | .map entries => dbulkE entries + 1
  | .held _ => 1
def dbulks {H : Type} : List (DataW H) → Nat
  | [] => 0
  | d :: r => dbulk d + dbulks r
def dbulkE {H : Type} : List (Lit × DataW H) → Nat
  | [] => 0
  | x :: r => dbulk1 x + dbulkE r
def dbulk1 {H : Type} : Lit × DataW H → Nat
  | (.string bytes, d) => bytes.length + dbulk d + 1
  | (_, d) => dbulk d + 1
end

theorem dbulk_pos {H : Type} (d : DataW H) : 1 ≤ dbulk d := by
  cases d with
  | lit l => cases l <;> simp [dbulk]
  | _ => simp [dbulk]
theorem dbulks_len {H : Type} : ∀ (l : List (DataW H)), l.length ≤ dbulks l
  | [] => by simp [dbulks]
  | d :: l => by have := dbulks_len l; have := dbulk_pos d; simp only [dbulks, List.length_cons]; omega
theorem dbulks_mem {H : Type} {d : DataW H} : ∀ {l : List (DataW H)}, d ∈ l → dbulk d ≤ dbulks l
  | [], h => by simp at h
  | x :: l, h => by
    simp only [dbulks]
    rcases List.mem_cons.1 h with rfl | h
    · omega
    · have := dbulks_mem h; omega

/-- A struct's fields stand one behind the other. -/
def contig (P : Program) : List Field → Nat → Option Nat
  | [], n => some n
  | f :: fs, n => if f.offset = n then contig P fs (n + P.cellsOf f.type) else none

/-- Plain types, closed. -/
def okTys (P : Program) (S : List TypeId) : Bool := S.all fun t => match P.underlying t with
  | some .bool | some (.int _) | some .string => P.cellsOf t == 1
  | some (.slice e) => S.contains e && P.cellsOf t == 1 && decide (0 < P.cellsOf e)
  | some (.struct fs) => fs.toList.all (fun f => S.contains f.type) && (contig P fs.toList 0 == some (P.cellsOf t))
  | _ => false

section
variable {P : Program} {ρ : Map} {w : World}

theorem flat_cons (x : AV) (xs : List AV) : flat (x :: xs) = x.cl ++ flat xs := rfl

/-- The fields of a struct, read one by one. -/
theorem fields_typ {n : Nat} {R : TypeId → List Value → Prop} (hR : ∀ t cs, R t cs → ∃ v, Typ P n t v ∧ LRel ρ [] w v.cl cs ∧ v.ncells = P.cellsOf t ∧ ∀ u ∈ cs, u.oneCell' = true) :
    ∀ (fs : List Field) (off tot : Nat) (cs : List Value), contig P fs off = some tot → cs.length = tot → (∀ f ∈ fs, R f.type ((cs.drop f.offset).take (P.cellsOf f.type))) →
      ∃ ps, All2 (fun t p => Typ P n t p) (fs.map (·.type)) ps ∧ LRel ρ [] w (flat ps) (cs.drop off) ∧ (∀ u ∈ cs.drop off, u.oneCell' = true) ∧ off + (flat ps).length = tot
  | [], off, tot, cs, hc, hl, _ => by
    simp only [contig, Option.some.injEq] at hc
    subst hc
    refine ⟨[], trivial, ?_, ?_, rfl⟩
    · rw [List.drop_eq_nil_of_le (by omega)]; rfl
    · rw [List.drop_eq_nil_of_le (by omega)]; simp
  | f :: fs, off, tot, cs, hc, hl, h => by
    simp only [contig] at hc
    split at hc
    · rename_i ho
      obtain ⟨v, h1, h2, h3, h4⟩ := hR _ _ (h f (by simp))
      obtain ⟨ps, g1, g2, g3, g4⟩ := fields_typ hR fs _ tot cs hc hl (fun f hf => h f (by simp [hf]))
      rw [ho] at h2 h4
      have e : cs.drop off = (cs.drop off).take (P.cellsOf f.type) ++ cs.drop (off + P.cellsOf f.type) := by
        rw [← List.drop_drop, List.take_append_drop]
      refine ⟨v :: ps, ⟨h1, g1⟩, ?_, ?_, ?_⟩
      · rw [e, flat_cons]; exact lrel_append h2 g2
      · rw [e]; intro u hu
        rcases List.mem_append.1 hu with hu | hu
        · exact h4 u hu
        · exact g3 u hu
      · rw [flat_cons, List.length_append, cl_len, h3]; omega
    · cases hc

/-- The elements of a slice, read one by one. -/
theorem elems_typ {sz b : Nat} {R : AV → Prop} : ∀ (m : Nat) (off : Nat), (∀ i, i < m → ∃ v us, R v ∧ v.ncells = sz ∧ us.length = sz ∧ LRel ρ [] w v.cl us ∧ (∀ u ∈ us, u.oneCell' = true) ∧ ∀ j, j < sz → w.cell? ⟨b, off + i * sz + j, none⟩ = us[j]?) →
    ∃ xs, xs.length = m ∧ (∀ x ∈ xs, R x) ∧ unif sz xs = true ∧ RRel ρ [] w xs b off
  | 0, off, _ => ⟨[], rfl, by simp, rfl, trivial⟩
  | m + 1, off, h => by
    obtain ⟨v, us, h1, h2, h3, h4, h5, h6⟩ := h 0 (by omega)
    obtain ⟨xs, g1, g2, g3, g4⟩ := elems_typ m (off + sz) (R := R) (sz := sz) (b := b) (fun i hi => by
      obtain ⟨v, us, k1, k2, k3, k4, k5, k6⟩ := h (i + 1) (by omega)
      refine ⟨v, us, k1, k2, k3, k4, k5, fun j hj => ?_⟩
      rw [← k6 j hj]; congr 2; rw [Nat.add_mul]; omega)
    refine ⟨v :: xs, by simp [g1], ?_, ?_, ?_⟩
    · intro x hx
      rcases List.mem_cons.1 hx with rfl | hx
      · exact h1
      · exact g2 x hx
    · unfold unif at g3 ⊢
      rw [List.all_cons, g3, h2]; simp
    · rw [rrel_cons, h2]
      refine ⟨crel_of_vals (us := us) (fun i hi => ?_) h4 h5, g4⟩
      have := h6 i (by omega)
      rwa [Nat.zero_mul, Nat.add_zero] at this

theorem cells_at {base : Nat} {a : Addr} {sz i : Nat} {us : List Value} (hs : 0 < sz) (h : w.cells? base (a.add (i * sz)) sz = some us) (ha : a.spot = none) : us.length = sz ∧ a.block < w.heap.size ∧ ∀ j, j < sz → w.cell? ⟨a.block, a.off + i * sz + j, none⟩ = us[j]? := by
  obtain ⟨_, h1, h2⟩ := World.cells?_some h
  have hb := World.cells?_block h hs
  have e : ∀ n, (a.add n) = ⟨a.block, a.off + n, none⟩ := fun n => by
    obtain ⟨b, o, s⟩ := a
    simp only at ha; subst ha
    unfold Addr.add
    split
    · rename_i h0; subst h0; rfl
    · rfl
  rw [e] at hb h2
  refine ⟨h1, hb, fun j hj => ?_⟩
  have := h2 j hj
  unfold Addr.add at this
  split at this
  · rename_i h0; subst h0; simpa using this
  · exact this

theorem spot_none {base : Nat} {a : Addr} {sz : Nat} {us : List Value} (hs : 0 < sz) (h : w.cells? base (a.add 0) sz = some us) : a.spot = none := by
  obtain ⟨_, h1, h2⟩ := World.cells?_some h
  have h0 := h2 0 hs
  have e : (a.add 0).add 0 = a := rfl
  rw [e] at h0
  cases hsp : a.spot with
  | none => rfl
  | some s =>
    have : w.cell? a = none := by
      unfold World.cell?
      rw [hsp]
      split <;> simp
    rw [this] at h0
    rw [List.getElem?_eq_getElem (by omega)] at h0; cases h0

variable {H : Type} {enc : TypeId × Value → H}

/-- What is read of a value is a tree of its type, over nothing that is owned. -/
theorem trod_typ {base : Nat} {held : Bool} {spare : Nat → Bool} {S : List TypeId} (hS : okTys P S = true) (hsp : ∀ b, spare b = true) (hρ : ∀ b, ¬ ρ.forb b) : ∀ (fuel : Nat) (t : TypeId) (cs : List Value) (x : DataW H × List MemPlace), t ∈ S →
    DataW.trod enc P w base spare held fuel t cs = some x → dbulk x.1 ≤ 2 ^ 48 → ∃ v, Typ P fuel t v ∧ LRel ρ [] w v.cl cs ∧ v.ncells = P.cellsOf t ∧ ∀ u ∈ cs, u.oneCell' = true := by
  have nmut : ∀ b, ¬ Mut ρ [] b := fun b hm => hm.elim (own_none ρ b) (hρ b)
  intro fuel
  induction fuel with
  | zero => intro t cs x _ h; simp [DataW.trod] at h
  | succ n ih =>
    intro t cs x ht h hb
    have hk := (List.all_eq_true.1 hS) t ht
    cases hu : P.underlying t with
    | none => rw [hu] at hk; cases hk
    | some desc =>
      rw [hu] at hk
      have typ : ∀ v, (match P.underlying t with
        | some .bool => ∃ b, v = .bool b
        | some (.int k) => ∃ m, v = .int k m ∧ k.min ≤ m ∧ m ≤ k.max
        | some .string => ∃ s, v = .str s ∧ s.length ≤ 2 ^ 48
        | some (.slice e) => ∃ xs sp, v = .imm xs sp false ∧ xs.length + sp.length ≤ 2 ^ 48 ∧ (∀ x ∈ xs, Typ P n e x) ∧ ∀ x ∈ sp, Typ P n e x
        | some (.struct fs) => ∃ ps, v = .agg (flat ps) ∧ All2 (fun f p => Typ P n f p) (fs.toList.map (·.type)) ps
        | _ => False) → Typ P (n + 1) t v := fun v hv => hv
      simp only [hu] at typ
      cases desc with
      | bool =>
        obtain ⟨b, rfl, rfl⟩ := DataW.trod_bool hu h
        exact ⟨.bool b, typ _ ⟨b, rfl⟩, ⟨_, _, rfl, rfl, rfl⟩, (beq_iff_eq.1 hk).symm, by simp [Value.oneCell']⟩
      | int k =>
        obtain ⟨m, rfl, rfl, hw⟩ := DataW.trod_int hu h
        have hr : k.min ≤ m ∧ m ≤ k.max := by simpa [Lit.wf] using hw
        exact ⟨.int k m, typ _ ⟨m, rfl, hr⟩, ⟨_, _, rfl, ⟨rfl, hr⟩, rfl⟩, (beq_iff_eq.1 hk).symm, by simp [Value.oneCell']⟩
      | string =>
        obtain ⟨s, rfl, rfl, hw⟩ := DataW.trod_string hu h
        have hl : s.data.toList.length ≤ 2 ^ 48 := by simp only [dbulk] at hb; omega
        exact ⟨.str s.data.toList, typ _ ⟨_, rfl, hl⟩, ⟨_, _, rfl, ⟨s, rfl, rfl, by omega⟩, rfl⟩, (beq_iff_eq.1 hk).symm, by simp [Value.oneCell']⟩
      | slice e =>
        simp only [Bool.and_eq_true, beq_iff_eq, decide_eq_true_eq] at hk
        obtain ⟨⟨hk1, hk2⟩, hk3⟩ := hk
        have he : e ∈ S := by simpa using hk1
        rcases DataW.trod_slice hu h with ⟨rfl, rfl⟩ | ⟨a, len, cap, elems, rest, n', hn, rfl, rfl, _, hle, _, hel, h1, h2, _⟩
        · exact ⟨.imm [] [] false, typ _ ⟨[], [], rfl, by simp, by simp, by simp⟩, ⟨_, _, rfl, ⟨none, 0, 0, rfl, rfl, by simp, (fun h => by cases h), by simp, fun _ => rfl, fun h => by rcases h with ⟨_, _, h⟩ | ⟨_, _, h⟩ <;> cases h⟩, rfl⟩, hk2.symm, by simp [Value.oneCell']⟩
        · obtain rfl : n = n' := by omega
          obtain ⟨h2, h3⟩ := h2 (hsp _)
          simp only [dbulk] at hb
          have hbe : ∀ i (y : DataW H × List MemPlace), elems[i]? = some y → dbulk y.1 ≤ 2 ^ 48 := fun i y hy => by
            have := dbulks_mem (l := elems.map (·.1)) (d := y.1) (List.mem_map.2 ⟨y, List.mem_of_getElem? hy, rfl⟩); omega
          have hbr : ∀ i (y : DataW H × List MemPlace), rest[i]? = some y → dbulk y.1 ≤ 2 ^ 48 := fun i y hy => by
            have := dbulks_mem (l := rest.map (·.1)) (d := y.1) (List.mem_map.2 ⟨y, List.mem_of_getElem? hy, rfl⟩); omega
          have hlen : elems.length + rest.length ≤ 2 ^ 48 := by
            have a1 := dbulks_len (elems.map (·.1)); have a2 := dbulks_len (rest.map (·.1)); simp at a1 a2; omega
          -- one element
          have one : ∀ i, i < len + (cap - len) → a.spot = none → ∃ v us, Typ P n e v ∧ v.ncells = P.cellsOf e ∧ us.length = P.cellsOf e ∧ LRel ρ [] w v.cl us ∧ (∀ u ∈ us, u.oneCell' = true) ∧ ∀ j, j < P.cellsOf e → w.cell? ⟨a.block, a.off + i * P.cellsOf e + j, none⟩ = us[j]? := by
            intro i hi ha
            have key : ∀ y, (w.cells? base (a.add (i * P.cellsOf e)) (P.cellsOf e)).bind (DataW.trod enc P w base spare held n e) = some y → dbulk y.1 ≤ 2 ^ 48 → ∃ v us, Typ P n e v ∧ v.ncells = P.cellsOf e ∧ us.length = P.cellsOf e ∧ LRel ρ [] w v.cl us ∧ (∀ u ∈ us, u.oneCell' = true) ∧ ∀ j, j < P.cellsOf e → w.cell? ⟨a.block, a.off + i * P.cellsOf e + j, none⟩ = us[j]? := by
              intro y hy hby
              obtain ⟨us, hus, hy⟩ := Option.bind_eq_some_iff.1 hy
              obtain ⟨v, k1, k2, k3, k4⟩ := ih e us y he hy hby
              obtain ⟨c1, _, c3⟩ := cells_at hk3 hus ha
              exact ⟨v, us, k1, k3, c1, k2, k4, c3⟩
            by_cases hil : i < len
            · have hg : elems[i]? = some elems[i] := List.getElem?_eq_getElem (by omega)
              exact key _ ((h1 i hil).trans hg) (hbe i _ hg)
            · have hg : rest[i - len]? = some rest[i - len] := List.getElem?_eq_getElem (by omega)
              have := h3 (i - len) (by omega)
              rw [show len + (i - len) = i from by omega] at this
              exact key _ (this.trans hg) (hbr _ _ hg)
          by_cases hz : len + (cap - len) = 0
          · refine ⟨.imm [] [] false, typ _ ⟨[], [], rfl, by simp, by simp, by simp⟩, ⟨_, _, rfl, ⟨some a, len, cap, rfl, ?_, ?_, fun h => (by cases h), by simp, fun h => (by cases h), fun h => ?_⟩, rfl⟩, hk2.symm, by simp [Value.oneCell']⟩
            · simp; omega
            · simp
            · rcases h with ⟨_, _, h⟩ | ⟨_, _, h⟩ <;> cases h
          · have ha : a.spot = none := by
              have k0 : ∀ y, (w.cells? base (a.add (0 * P.cellsOf e)) (P.cellsOf e)).bind (DataW.trod enc P w base spare held n e) = some y → a.spot = none := fun y hy => by
                obtain ⟨us, hus, _⟩ := Option.bind_eq_some_iff.1 hy
                rw [Nat.zero_mul] at hus
                exact spot_none hk3 hus
              by_cases hl0 : 0 < len
              · have hg : elems[0]? = some elems[0] := List.getElem?_eq_getElem (by omega)
                exact k0 _ ((h1 0 hl0).trans hg)
              · have hg : rest[0]? = some rest[0] := List.getElem?_eq_getElem (by omega)
                have := h3 0 (by omega)
                rw [show len + 0 = 0 from by omega] at this
                exact k0 _ (this.trans hg)
            have hblk : a.block < w.heap.size := by
              have k0 : ∀ i y, (w.cells? base (a.add (i * P.cellsOf e)) (P.cellsOf e)).bind (DataW.trod enc P w base spare held n e) = some y → a.block < w.heap.size := fun i y hy => by
                obtain ⟨us, hus, _⟩ := Option.bind_eq_some_iff.1 hy
                exact (cells_at hk3 hus ha).2.1
              by_cases hl0 : 0 < len
              · have hg : elems[0]? = some elems[0] := List.getElem?_eq_getElem (by omega)
                exact k0 0 _ ((h1 0 hl0).trans hg)
              · have hg : rest[0]? = some rest[0] := List.getElem?_eq_getElem (by omega)
                exact k0 (len + 0) _ ((h3 0 (by omega)).trans hg)
            obtain ⟨ys, y1, y2, y3, y4⟩ := elems_typ (R := Typ P n e) (sz := P.cellsOf e) (b := a.block) (len + (cap - len)) a.off (fun i hi => one i hi ha)
            have hsplit : ys.take len ++ ys.drop len = ys := List.take_append_drop _ _
            rw [← hsplit] at y3 y4
            rw [rrel_append] at y4
            rw [unif_append, Bool.and_eq_true] at y3
            have l1 : (ys.take len).length = len := by simp; omega
            have l2 : (ys.drop len).length = cap - len := by simp; omega
            refine ⟨.imm (ys.take len) (ys.drop len) false, typ _ ⟨_, _, rfl, by rw [l1, l2]; omega, fun x hx => y2 x (List.mem_of_mem_take hx), fun x hx => y2 x (List.mem_of_mem_drop hx)⟩,
              ⟨_, _, rfl, ⟨some a, len, cap, rfl, l1.symm, by rw [l1, l2]; omega, fun h => (by cases h), by rw [l1]; omega, fun h => (by cases h), fun _ => ?_⟩, rfl⟩, hk2.symm, by simp [Value.oneCell']⟩
            refine ⟨a.block, a.off, P.cellsOf e, ?_, nmut _, hblk, y3.1, y3.2, y4.1, y4.2⟩
            obtain ⟨b, o, s⟩ := a
            simp only at ha; subst ha; rfl
      | struct fs =>
        simp only [Bool.and_eq_true, List.all_eq_true, beq_iff_eq] at hk
        obtain ⟨hk1, hk2⟩ := hk
        obtain ⟨xs, n', hn, rfl, hl, hxl, hf⟩ := DataW.trod_struct hu h
        obtain rfl : n = n' := by omega
        simp only [dbulk] at hb
        obtain ⟨ps, g1, g2, g3, g4⟩ := fields_typ (P := P) (ρ := ρ) (w := w) (n := n) (R := fun t cs => t ∈ S ∧ ∃ x, DataW.trod enc P w base spare held n t cs = some x ∧ dbulk x.1 ≤ 2 ^ 48) (fun t cs ⟨h1, x, h2, h3⟩ => ih t cs x h1 h2 h3) fs.toList 0 _ cs hk2 hl (fun f hfm => by
          refine ⟨by simpa using hk1 f hfm, ?_⟩
          obtain ⟨i, hi, hfi⟩ := List.mem_iff_getElem.1 hfm
          have hi' : i < fs.size := by simpa using hi
          have hfi' : fs[i]? = some f := by rw [Array.getElem?_eq_getElem hi', ← hfi]; simp
          have hx : xs[i]? = some xs[i] := List.getElem?_eq_getElem (by omega)
          refine ⟨_, (hf i f hfi').trans hx, ?_⟩
          have := dbulks_mem (l := xs.map (·.1)) (d := xs[i].1) (List.mem_map.2 ⟨_, List.getElem_mem _, rfl⟩); omega)
        rw [List.drop_zero] at g2 g3
        refine ⟨.agg (flat ps), typ _ ⟨ps, rfl, g1⟩, g2, ?_, g3⟩
        show (flat ps).length = _
        omega
      | _ => cases hk

theorem wide_struct {r : Reach} {b0 : Nat} {t : TypeId} {v : Value} {fs : Array Field} (hu : P.underlying t = some (.struct fs)) (h : Value.okWide P w r b0 t v) : ∃ cs, v = .agg cs := by
  unfold Value.okWide at h
  rw [hu] at h
  obtain ⟨cs, e, _⟩ := h
  exact ⟨cs, e⟩

/-- The arguments of a call, read. -/
theorem trodAll_typ {base : Nat} {held : Bool} {spare : Nat → Bool} {S : List TypeId} {r : Reach} {b0 : Nat} (hS : okTys P S = true) (hsp : ∀ b, spare b = true) (hρ : ∀ b, ¬ ρ.forb b) : ∀ (ts : List TypeId) (vs : List Value) (ds : List (DataW H)) (ps : List MemPlace), (∀ t ∈ ts, t ∈ S) → DataW.TrodAll enc P w base spare held ts vs ds ps →
    dbulks ds ≤ 2 ^ 48 → (∀ (j : Nat) t v, ts[j]? = some t → vs[j]? = some v → Value.okWide P w r b0 t v) → ∃ args, All2 (fun t x => ∃ n, Typ P n t x) ts args ∧ LRel ρ [] w args vs
  | [], [], [], ps, _, _, _, _ => ⟨[], trivial, rfl⟩
  | t :: ts, v :: vs, d :: ds, ps, hts, h, hb, hv => by
    obtain ⟨p, q, ⟨fuel, h1⟩, h2, _⟩ := h
    simp only [dbulks] at hb
    have htS := hts t (by simp)
    obtain ⟨x, k1, k2, k3, k4⟩ := trod_typ (ρ := ρ) hS hsp hρ fuel t _ _ htS h1 (by simp only; omega)
    obtain ⟨args, g1, g2⟩ := trodAll_typ hS hsp hρ ts vs ds q (fun t ht => hts t (by simp [ht])) h2 (by omega) (fun j t v h1 h2 => hv (j + 1) t v (by simpa using h1) (by simpa using h2))
    refine ⟨x :: args, ⟨⟨fuel, k1⟩, g1⟩, v, vs, rfl, ?_, g2⟩
    have hw := hv 0 t v rfl rfl
    cases fuel with
    | zero => exact k1.elim
    | succ n =>
      have hk := (List.all_eq_true.1 hS) t htS
      have single : (∀ cs, x ≠ .agg cs) → (∀ cs, v ≠ .agg cs) → VRel ρ [] w x v := fun hx hv => by
        have e1 : x.cl = [x] := by cases x <;> first | rfl | exact absurd rfl (hx _)
        have e2 : v.cells.toList = [v] := by cases v <;> first | rfl | exact absurd rfl (hv _)
        rw [e1, e2] at k2
        obtain ⟨u, us, h1, h2, _⟩ := k2
        cases h1; exact h2
      unfold Typ at k1
      unfold Value.okWide at hw
      cases hu : P.underlying t with
      | none => rw [hu] at hk; cases hk
      | some desc =>
        rw [hu] at hk k1 hw
        cases desc with
        | struct fs =>
          obtain ⟨cs, rfl, _⟩ := hw
          obtain ⟨ps, rfl, _⟩ := k1
          exact ⟨cs.toList, by simp, by simpa [Value.cells, AV.cl] using k2⟩
        | bool => obtain ⟨b, rfl⟩ := k1; exact single (fun _ h => by cases h) (fun cs e => by subst e; simp [Cell.okWide, Cell.ok, hu] at hw)
        | int k => obtain ⟨m, rfl, _⟩ := k1; exact single (fun _ h => by cases h) (fun cs e => by subst e; simp [Cell.okWide, Cell.ok, hu] at hw)
        | string => obtain ⟨s, rfl, _⟩ := k1; exact single (fun _ h => by cases h) (fun cs e => by subst e; simp [Cell.okWide, Cell.ok, hu] at hw)
        | slice e =>
          refine single (fun cs h => ?_) (fun cs e => by subst e; simp [Cell.okWide, Cell.ok, hu] at hw)
          obtain ⟨xs, sp, rfl, _⟩ := k1
          cases h
        | _ => cases hk
  | [], _ :: _, _, _, _, h, _, _ => by simp [DataW.TrodAll] at h
  | [], [], _ :: _, _, _, h, _, _ => by simp [DataW.TrodAll] at h
  | _ :: _, [], _, _, _, h, _, _ => by simp [DataW.TrodAll] at h
  | _ :: _, _ :: _, [], _, _, h, _, _ => by simp [DataW.TrodAll] at h
end
end Go.Abs
