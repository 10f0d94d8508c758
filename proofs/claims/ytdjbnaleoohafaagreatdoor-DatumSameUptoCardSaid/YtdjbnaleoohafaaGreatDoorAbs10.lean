/-
  AN ABSTRACT SEMANTICS, 10: slices that are made: of literals, by make, by append; what is copied.
-/
import Derived.Test.YtdjbnaleoohafaaGreatDoorAbs9
namespace Go.Abs
open Go Go.RowKit

section
variable {P : Program} {ρ : Map} {σ : Heap} {w : World}

theorem range_zero (z : List Value) (n : Nat) (hz : z ≠ []) : (((Array.range (n * z.length)).map (z.toArray[· % z.toArray.size]!)).toList) = (List.replicate n z).flatten := by
  have hp : 0 < z.length := List.length_pos_iff.2 hz
  apply List.ext_getElem?
  intro i
  simp only [Array.toList_map, Array.toList_range, List.getElem?_map]
  have hlen : ∀ (n : Nat), ((List.replicate n z).flatten).length = n * z.length := fun n => by simp
  by_cases hi : i < n * z.length
  · rw [List.getElem?_range hi]
    simp only [Option.map_some]
    have key : ∀ (n i : Nat), i < n * z.length → ((List.replicate n z).flatten)[i]? = z[i % z.length]? := by
      intro n
      induction n with
      | zero => intro i hi; omega
      | succ n ih =>
        intro i hi
        rw [List.replicate_succ, List.flatten_cons]
        by_cases hlt : i < z.length
        · rw [List.getElem?_append_left hlt, Nat.mod_eq_of_lt hlt]
        · rw [List.getElem?_append_right (by omega), ih (i - z.length) (by rw [Nat.succ_mul] at hi; omega)]
          exact congrArg (fun k => z[k]?) (Nat.mod_eq_sub_mod (by omega)).symm
    rw [key n i hi]
    have hm : i % z.length < z.length := Nat.mod_lt _ hp
    rw [List.getElem?_eq_getElem hm]
    simp [hm]
  · rw [List.getElem?_eq_none (by simpa using hi), List.getElem?_eq_none (by rw [hlen]; omega)]; rfl

/-- An element of zero value. -/
def zeroElem (P : Program) (e : TypeId) : Option (AV × Nat) :=
  match zeroCellsA P e, kindAgg P e, P.info? e with
  | some cs, some true, some i => some (.agg cs, i.size)
  | some [c], some false, some i => some (c, i.size)
  | _, _, _ => none

theorem zeroElem_ok {e : TypeId} {x : AV} {sz : Nat} (h : zeroElem P e = some (x, sz)) : ∃ i z, P.info? e = some i ∧ i.size = sz ∧ i.zero = some z ∧ z.cells.size = sz ∧ x.ncells = sz ∧
    (∀ ρ σ w, LRel ρ σ w x.cl z.cells.toList) ∧ (∀ u ∈ z.cells.toList, u.oneCell' = true) := by
  unfold zeroElem at h
  split at h
  · rename_i cs i hz hk hi
    cases h
    obtain ⟨i', z, h1, h2, h3, h4, h5, h6, h7, h8⟩ := zeroCellsA_ok (w := default) hz
    rw [hi] at h1; cases h1
    exact ⟨i, z, hi, rfl, h2, h3, by simp [AV.ncells, h8], h5, h6⟩
  · rename_i c i hz hk hi
    cases h
    obtain ⟨i', z, h1, h2, h3, h4, h5, h6, h7, h8⟩ := zeroCellsA_ok (w := default) hz
    rw [hi] at h1; cases h1
    have hc : x.cl = [x] := by
      match hq : z.cells.toList, h4 with
      | [u], h4 =>
        simp only [List.map_cons, List.map_nil, List.cons.injEq, and_true] at h4
        subst h4
        unfold ofConst1; split <;> (try split) <;> rfl
    exact ⟨i, z, hi, rfl, h2, h3, by rw [← cl_len, hc]; simpa using h8, by rw [hc]; exact h5, h6⟩
  · cases h

theorem flat_replicate (n : Nat) (x : AV) : flat (List.replicate n x) = (List.replicate n x.cl).flatten := by
  induction n with
  | zero => rfl
  | succ n ih => simp [List.replicate_succ, flat, ih]
theorem unif_replicate {n sz : Nat} {x : AV} (h : x.ncells = sz) : unif sz (List.replicate n x) = true := by
  simp [unif, List.all_replicate, h]

theorem lrel_flatten {cs : List AV} {us : List Value} (h : LRel ρ σ w cs us) : ∀ (n : Nat), LRel ρ σ w (List.replicate n cs).flatten (List.replicate n us).flatten
  | 0 => rfl
  | n + 1 => by rw [List.replicate_succ, List.replicate_succ, List.flatten_cons, List.flatten_cons]; exact lrel_append h (lrel_flatten h n)

/-- The elements of a literal: parts laid over elements of zero value. -/
def setsA (σ : Heap) (sz : Nat) (xs : List AV) : List (Nat × AV) → Option (List AV)
  | [] => some xs
  | (i, x) :: rest => if i < xs.length ∧ x.ncells = sz ∧ x.cl.all (flatIn σ) = true then setsA σ sz (xs.set i x) rest else none

theorem unif_set {sz i : Nat} {xs : List AV} {x : AV} (h : unif sz xs = true) (hx : x.ncells = sz) : unif sz (xs.set i x) = true := by
  simp only [unif, List.all_eq_true, beq_iff_eq] at h ⊢
  intro y hy
  rcases List.mem_or_eq_of_mem_set hy with hy | rfl
  · exact h y hy
  · exact hx

theorem cells?_cl {x : AV} (h : x.cl.all (flatIn σ) = true) : x.cells? = some x.cl := by
  cases x <;> first | rfl | (simp [AV.cl, flatIn] at h)

theorem setsA_ok {sz : Nat} : ∀ (parts : List (Nat × AV)) (vps : List (Nat × Value)) (xs res : List AV) (vc : Array Value), PRel ρ σ w parts vps → unif sz xs = true → LRel ρ σ w (flat xs) vc.toList →
    (∀ u ∈ vc.toList, u.oneCell' = true) → setsA σ sz xs parts = some res →
    ∃ r, Instr.fill (fun i => some (i * sz, sz)) vc vps = some r ∧ LRel ρ σ w (flat res) r.toList ∧ (∀ u ∈ r.toList, u.oneCell' = true) ∧ unif sz res = true ∧ res.length = xs.length
  | [], vps, xs, res, vc, hp, hu, hl, ho, h => by
    cases hp
    simp only [setsA, Option.some.injEq] at h; subst h
    exact ⟨vc, rfl, hl, ho, hu, rfl⟩
  | (i, x) :: rest, _, xs, res, vc, ⟨v, qs, h1, h2, h3⟩, hu, hl, ho, h => by
    subst h1
    simp only [setsA] at h
    split at h
    · rename_i hq
      obtain ⟨q1, q2, q3⟩ := hq
      have hv := cells_rel (cells?_cl q3) q3 h2
      have hvl := lrel_len hv
      have hcl := lrel_len hl
      have hfl := flat_len hu
      have hxl : x.cl.length = sz := by rw [cl_len, q2]
      have hroom : i * sz + sz ≤ xs.length * sz := by
        have : (i + 1) * sz ≤ xs.length * sz := Nat.mul_le_mul_right _ q1
        rw [Nat.succ_mul] at this; exact this
      simp only [Array.length_toList] at hvl hcl
      have e := fill_cells (v := v) (cells := vc) (off := i * sz) (by omega)
      obtain ⟨r, g1, g2, g3, g4, g5⟩ := setsA_ok rest qs (xs.set i x) res _ h3 (unif_set hu q2) (by
        rw [e, flat_set hu q2 q1]; unfold splice
        rw [show x.cl.length = v.cells.toList.length from by simp; omega]
        exact lrel_append (lrel_append (lrel_take hl _) hv) (lrel_drop hl _)) (by
        rw [e]; intro u hu
        simp only [splice, List.mem_append] at hu
        rcases hu with (hu | hu) | hu
        · exact ho u (List.mem_of_mem_take hu)
        · exact oneCells_of_flat q3 hv u hu
        · exact ho u (List.mem_of_mem_drop hu)) h
      refine ⟨r, ?_, g2, g3, g4, by simpa using g5⟩
      simp only [Instr.fill]
      rw [if_neg (by simp; omega)]; exact g1
    · cases h

/-- A block of the call's own that nobody writes any more holds elements. -/
theorem imm_new (hs : Sim ρ σ w) {xs : List AV} {sz : Nat} (hu : unif sz xs = true) {us : Array Value} (hl : LRel ρ σ w (flat xs) us.toList) (ho : ∀ u ∈ us.toList, u.oneCell' = true) (hlen : xs.length ≤ 2 ^ 48) (T : TypeId) :
    VRel ρ σ (w.alloc (.cells us T)) (.imm xs [] true) (.slice (some ⟨w.heap.size, 0, none⟩) xs.length xs.length) := by
  refine vrel_imm (by simp) (fun _ => rfl) hlen (fun h => by cases h) (fun _ => ⟨w.heap.size, 0, sz, rfl, fun hm => ?_, by simp, by simpa using hu, ?_⟩)
  · have := hs.mut_lt hm; omega
  · rw [List.append_nil]
    exact rrel_of_flat (Cells.of_block (heap_alloc_new _ _)) (lrel_ext (Ext.grow (n := σ.length) (below_alloc w _)) _ _ (lrel_refs _ _ hl) hl) ho

def buildSliceA (P : Program) (σ : Heap) (T : TypeId) (len : Nat) (parts : List (Nat × AV)) : Option AV :=
  match P.underlying T with
  | some (.slice e) => match zeroElem P e with
    | some (z, sz) => if 0 < sz ∧ len * sz ≤ 2 ^ 24 then (setsA σ sz (List.replicate len z) parts).map fun xs => .imm xs [] true else none
    | none => none
  | _ => none

theorem buildSliceA_new {T : TypeId} {len : Nat} {parts : List (Nat × AV)} {vps : List (Nat × Value)} {av : AV} (hp : PRel ρ σ w parts vps) (h : buildSliceA P σ T len parts = some av) :
    ∃ xs us e sz, av = .imm xs [] true ∧ (Instr.buildSlice T len vps.toArray).run P w = .ok (.slice (some ⟨w.heap.size, 0, none⟩) xs.length xs.length) (w.alloc (.cells us e)) ∧ P.underlying T = some (.slice e) ∧
      unif sz xs = true ∧ LRel ρ σ w (flat xs) us.toList ∧ (∀ u ∈ us.toList, u.oneCell' = true) ∧ xs.length ≤ 2 ^ 48 := by
  unfold buildSliceA at h
  split at h
  · rename_i e hu
    split at h
    · rename_i z sz hz
      split at h
      · rename_i hq
        obtain ⟨q1, q2⟩ := hq
        simp only [Option.map_eq_some_iff] at h
        obtain ⟨xs, hx, rfl⟩ := h
        obtain ⟨i, zv, h1, h2, h3, h4, h5, h6, h7⟩ := zeroElem_ok hz
        have hne : zv.cells.toList ≠ [] := by intro e0; have := congrArg List.length e0; simp at this; simp [this] at h4; omega
        have hrz := range_zero zv.cells.toList len hne
        rw [Array.toArray_toList, Array.length_toList, h4] at hrz
        obtain ⟨r, g1, g2, g3, g4, g5⟩ := setsA_ok parts vps (List.replicate len z) xs ((Array.range (len * sz)).map (zv.cells[· % sz]!)) hp (unif_replicate h5) (by
          rw [hrz, flat_replicate]; exact lrel_flatten (h6 ρ σ w) len) (by
          rw [hrz]; intro u hu
          simp only [List.mem_flatten, List.mem_replicate] at hu
          obtain ⟨l, ⟨_, rfl⟩, hu⟩ := hu
          exact h7 u hu) hx
        rw [List.length_replicate] at g5
        subst g5
        refine ⟨xs, r, e, sz, rfl, ?_, hu, g4, g2, g3, ?_⟩
        · have hz' : ¬ (xs.length * sz > 2 ^ 24) := by omega
          by_cases h0 : xs.length = 0
          · have e0 : ∀ (f : Nat → Value), (Array.range 0).map f = #[] := fun f => by simp [Array.range]
            simp only [h0, Nat.zero_mul, e0] at g1
            simp only [Instr.buildSlice, Sem.run_bind, run_und hu, run_sizeOf w h1, Program.cellsOf, h1, Option.map_some, Option.getD_some, h2, Result.andThen_ok, h0, Nat.zero_mul, if_true, Sem.run_pure, Sem.run_ite]
            simp [e0, g1, run_newRow]
          · have h0' : ¬ (xs.length * sz = 0) := by
              intro e0; rcases Nat.mul_eq_zero.1 e0 with h | h <;> omega
            have hzv : (zeroValue e).run P w = .ok zv w := by simp [zeroValue, typeInfo, h1, h3]
            simp only [Instr.buildSlice, Sem.run_bind, run_und hu, run_sizeOf w h1, Program.cellsOf, h1, Option.map_some, Option.getD_some, h2, Result.andThen_ok, hz', if_false, h0', hzv, Sem.run_pure, Sem.run_ite, h4, g1]
            simp [run_newRow]
        · have : xs.length * 1 ≤ xs.length * sz := Nat.mul_le_mul_left _ q1
          have : (2 : Nat) ^ 24 ≤ 2 ^ 48 := by decide
          omega
      · cases h
    · cases h
  · cases h

theorem buildSliceA_ok {base : Nat} (hs : Sim ρ σ w) (hc : Closed base σ) {T : TypeId} {len : Nat} {parts : List (Nat × AV)} {vps : List (Nat × Value)} {av : AV} (hp : PRel ρ σ w parts vps) (h : buildSliceA P σ T len parts = some av) :
    Ret base ρ σ w av σ ((Instr.buildSlice T len vps.toArray).run P w) := by
  obtain ⟨xs, us, e, sz, rfl, h1, _, h2, h3, h4, h5⟩ := buildSliceA_new hp h
  exact ⟨ρ, w.alloc (.cells us e), _, h1, imm_new hs h2 h3 h4 h5 e, .grow hs hc (below_alloc _ _)⟩

/-- A new row. -/
theorem push_row {base : Nat} (hs : Sim ρ σ w) (hc : Closed base σ) (hb : base ≤ σ.length) {xs : List AV} {sz cap : Nat} (hu : unif sz xs = true) {us : Array Value} (T : TypeId) (hl : LRel ρ σ w (flat xs) (us.toList.take (xs.length * sz)))
    (ho : ∀ u ∈ us.toList.take (xs.length * sz), u.oneCell' = true) (hcap : xs.length ≤ cap) (hsz : cap * sz ≤ us.size) :
    Step base ρ σ w (upd ρ σ.length ⟨w.heap.size, 0, cap⟩) (σ ++ [.row 0 sz xs]) (w.alloc (.cells us T)) ∧
      ∀ off len, off + len ≤ xs.length → len ≤ 2 ^ 48 → off = 0 → VRel (upd ρ σ.length ⟨w.heap.size, 0, cap⟩) (σ ++ [.row 0 sz xs]) (w.alloc (.cells us T)) (.own σ.length 0 off len) (.slice (some ⟨w.heap.size, 0, none⟩) len cap) := by
  have hbl := below_alloc w (.cells us T)
  have hx : Ext σ.length ρ σ w (upd ρ σ.length ⟨w.heap.size, 0, cap⟩) (σ ++ [.row 0 sz xs]) (w.alloc (.cells us T)) := Ext.push hbl (Nat.le_refl _)
  refine ⟨Step.push hs hc hb hbl (Nat.le_refl _) ?_, ?_⟩
  · refine ⟨us, T, (0, 0), ?_, fun o _ h => by simp at h, ?_, ?_, hu, ?_⟩
    · rw [upd_same]; exact heap_alloc_new _ _
    · rw [upd_same]; exact hcap
    · rw [upd_same]; simpa using hsz
    · rw [upd_same]
      have hcells := (Cells.of_block (heap_alloc_new w (.cells us T))).take (xs.length * sz)
      exact rrel_of_flat hcells (lrel_ext hx _ _ (lrel_refs _ _ hl) hl) ho
  · intro off len h1 h2 h3
    subst h3
    refine vrel_own (sz := sz) (xs := xs) (by simp) h1 h2 (o' := 0) ?_ (fun _ => by rw [upd_same]; simp)
    rw [upd_same]; simp

def makeSliceA (P : Program) (σ : Heap) (T : TypeId) (l c : AV) : Option (AV × Heap) :=
  match P.underlying T, l, c with
  | some (.slice e), .int _ l, .int _ c => (match zeroElem P e, P.info? e with
    | some (z, sz), some i => if 0 < sz ∧ 0 ≤ l ∧ l ≤ c ∧ c ≤ 2 ^ 46 ∧ i.bytes * c.toNat ≤ 2 ^ 46 then some (.own σ.length 0 0 l.toNat, σ ++ [.row 0 sz (List.replicate c.toNat z)]) else none
    | _, _ => none)
  | _, _, _ => none

theorem wrap64_id {n : Int} (h0 : 0 ≤ n) (h1 : n ≤ 2 ^ 62) : IntKind.i64.wrap n = n := by
  simp [IntKind.wrap, IntKind.bits, IntKind.signed]
  have : n % 18446744073709551616 = n := Int.emod_eq_of_lt h0 (by omega)
  rw [this]
  rw [if_neg (by omega)]

theorem makeSliceA_ok {base : Nat} (hs : Sim ρ σ w) (hc : Closed base σ) (hb : base ≤ σ.length) {T : TypeId} {l c av : AV} {vl vc : Value} {σ' : Heap} (hl : VRel ρ σ w l vl) (hcc : VRel ρ σ w c vc)
    (h : makeSliceA P σ T l c = some (av, σ')) : Ret base ρ σ w av σ' ((Instr.makeSlice T vl vc).run P w) := by
  unfold makeSliceA at h
  split at h
  · rename_i e k1 l k2 c hu
    obtain ⟨rfl, _⟩ := hl
    obtain ⟨rfl, _⟩ := hcc
    split at h
    · rename_i z sz i hz hi
      split at h
      · rename_i hq
        obtain ⟨q1, q2, q3, q4, q5⟩ := hq
        cases h
        obtain ⟨i', zv, h1, h2, h3, h4, h5, h6, h7⟩ := zeroElem_ok hz
        rw [hi] at h1; cases h1
        have hne : zv.cells.toList ≠ [] := by intro e0; have := congrArg List.length e0; simp at this; simp [this] at h4; omega
        have hrz := range_zero zv.cells.toList c.toNat hne
        rw [Array.toArray_toList, Array.length_toList, h4] at hrz
        have hsize : ((Array.range (c.toNat * sz)).map (zv.cells[· % sz]!)).size = c.toNat * sz := by simp
        obtain ⟨p1, p2⟩ := push_row (us := (Array.range (c.toNat * sz)).map (zv.cells[· % sz]!)) (xs := List.replicate c.toNat z) (cap := c.toNat) hs hc hb (unif_replicate h5) e (by
          rw [List.length_replicate, List.take_of_length_le (by rw [Array.length_toList, hsize]; exact Nat.le_refl _), hrz, flat_replicate]; exact lrel_flatten (h6 ρ σ w) _) (by
          rw [List.length_replicate, List.take_of_length_le (by rw [Array.length_toList, hsize]; exact Nat.le_refl _), hrz]
          intro u hu
          simp only [List.mem_flatten, List.mem_replicate] at hu
          obtain ⟨l, ⟨_, rfl⟩, hu⟩ := hu
          exact h7 u hu) (by simp) (by simp)
        refine ⟨_, _, .slice (some ⟨w.heap.size, 0, none⟩) l.toNat c.toNat, ?_, p2 0 l.toNat (by simp; omega) (by omega) rfl, p1⟩
        have wl := wrap64_id q2 (by omega)
        have wc := wrap64_id (n := c) (by omega) (by omega)
        have hby : (i.bytes : Int) * c = ((i.bytes * c.toNat : Nat) : Int) := by rw [Int.natCast_mul, Int.toNat_of_nonneg (by omega)]
        have t1 : ¬ (c < 0) := by omega
        have t2 : ¬ ((i.bytes : Int) * c > 2 ^ 48) := by rw [hby]; omega
        have t3 : ¬ (l < 0) := by omega
        have t4 : ¬ (l > c) := by omega
        have hzv : (zeroValue e).run P w = .ok zv w := by simp [zeroValue, typeInfo, hi, h3]
        have hbad : (((decide (c < 0) || decide ((i.bytes : Int) * c > 2 ^ 48)) = true ∨ l < 0) ∨ l > c) ↔ False := by simp [t1, t3, t4]; omega
        have e0 : ∀ (f : Nat → Value), (Array.range 0).map f = #[] := fun f => by simp [Array.range]
        have htl : (decide (c < 0) || decide ((i.bytes : Int) * c > 2 ^ 48)) = false := by simp [t1]; omega
        unfold Instr.makeSlice
        simp only [Sem.run_bind, run_und hu, Result.andThen_ok, asInt, asIntOf, Sem.run_pure, typeInfo, run_program, hi, wl, wc, htl, Bool.false_or, decide_eq_true_eq, t3, t4, decide_false, Bool.or_false, Bool.false_eq_true, if_false, run_askRoom, run_sizeOf w hi, Program.cellsOf, Option.map_some, Option.getD_some, h2]
        by_cases h0 : c.toNat * sz = 0
        · simp only [h0, if_true]
          simp [e0, run_newRow]
        · simp only [h0, if_false, hzv, Sem.run_bind, Sem.run_pure, Result.andThen_ok, run_newRow, h4]
      · cases h
    · cases h
  · cases h
end
end Go.Abs
