/-
  AN ABSTRACT SEMANTICS, 7: addresses, fields, elements, cuts, loads, stores.
-/
import Derived.Test.YtdjbnaleoohafaaGreatDoorAbs6
namespace Go.Abs
open Go Go.RowKit

/-- The row as it is told. -/
def rowAt (σ : Heap) (r ver : Nat) : Option (Nat × List AV) :=
  match σ[r]? with
  | some (.row ver' sz xs) => if ver' = ver then some (sz, xs) else none
  | _ => none

theorem rowAt_some {σ : Heap} {r ver sz : Nat} {xs : List AV} (h : rowAt σ r ver = some (sz, xs)) : σ[r]? = some (.row ver sz xs) := by
  unfold rowAt at h
  split at h
  · rename_i e
    split at h
    · rename_i hv; cases h; subst hv; exact e
    · cases h
  · cases h

def addOff (σ : Heap) (k : Nat) : AV → Option AV
  | .ptr o off => some (.ptr o (off + k))
  | .pimm cs => if k ≤ cs.length then some (.pimm (cs.drop k)) else none
  | .prow r ver i off => match rowAt σ r ver with
    | some _ => some (.prow r ver i (off + k))
    | none => none
  | _ => none

section
variable {P : Program} {ρ : Map} {σ : Heap} {w : World}

theorem own_row {r ver off len : Nat} {v : Value} {sz : Nat} {xs : List AV} (hv : VRel ρ σ w (.own r ver off len) v) (ho : σ[r]? = some (.row ver sz xs)) :
    off + len ≤ xs.length ∧ len ≤ 2 ^ 48 ∧ ∃ o', v = .slice (some ⟨(ρ r).blk, o', none⟩) len ((ρ r).cap - off) ∧ (off < (ρ r).cap → o' = (ρ r).start + off * sz) := by
  obtain ⟨ver', sz', xs', h1, h2, h3⟩ := hv
  rcases h1 with h1 | h1
  · rw [ho] at h1; cases h1; exact h3 ho rfl
  · rw [ho] at h1; cases h1

theorem prow_row {r ver i off : Nat} {v : Value} {sz : Nat} {xs : List AV} (hv : VRel ρ σ w (.prow r ver i off) v) (ho : σ[r]? = some (.row ver sz xs)) :
    i < xs.length ∧ v = .pointer (some ⟨(ρ r).blk, (ρ r).start + i * sz + off, none⟩) := by
  obtain ⟨ver', sz', xs', h1, h2, h3⟩ := hv
  rcases h1 with h1 | h1
  · rw [ho] at h1; cases h1; exact h3 ho rfl
  · rw [ho] at h1; cases h1

theorem vrel_own {r ver off len : Nat} {v : Value} {sz : Nat} {xs : List AV} (ho : σ[r]? = some (.row ver sz xs)) (h1 : off + len ≤ xs.length) (h2 : len ≤ 2 ^ 48) {o' : Nat}
    (h3 : v = .slice (some ⟨(ρ r).blk, o', none⟩) len ((ρ r).cap - off)) (h4 : off < (ρ r).cap → o' = (ρ r).start + off * sz) : VRel ρ σ w (.own r ver off len) v :=
  ⟨ver, sz, xs, .inl ho, Nat.le_refl _, fun h _ => by rw [ho] at h; cases h; exact ⟨h1, h2, o', h3, h4⟩⟩

theorem vrel_prow {r ver i off : Nat} {v : Value} {sz : Nat} {xs : List AV} (ho : σ[r]? = some (.row ver sz xs)) (h1 : i < xs.length)
    (h2 : v = .pointer (some ⟨(ρ r).blk, (ρ r).start + i * sz + off, none⟩)) : VRel ρ σ w (.prow r ver i off) v :=
  ⟨ver, sz, xs, .inl ho, Nat.le_refl _, fun h _ => by rw [ho] at h; cases h; exact ⟨h1, h2⟩⟩

theorem addOff_ok {k : Nat} {p q : AV} {v : Value} (hv : VRel ρ σ w p v) (h : addOff σ k p = some q) :
    ∃ a : Addr, v = .pointer (some a) ∧ VRel ρ σ w q (.pointer (some (a.add k))) := by
  unfold addOff at h
  split at h
  · cases h
    obtain ⟨rfl, h2⟩ := hv
    exact ⟨_, rfl, by rw [add_none], h2⟩
  · split at h
    · rename_i hk
      cases h
      obtain ⟨a, rfl, h2, h3, h4, h5⟩ := hv
      obtain ⟨b, off, sp⟩ := a
      simp only at h2; subst h2
      exact ⟨_, rfl, _, rfl, by rw [add_none], by rw [add_none]; exact h3, by rw [add_none]; exact h4, by rw [add_none]; exact crel_drop h5 k hk⟩
    · cases h
  · split at h
    · rename_i sx hr
      cases h
      obtain ⟨sz, xs⟩ := sx
      have ho := rowAt_some hr
      obtain ⟨h1, rfl⟩ := prow_row hv ho
      exact ⟨_, rfl, vrel_prow ho h1 (by rw [add_none, Nat.add_assoc])⟩
    · cases h
  · cases h

def fieldAddrA (P : Program) (σ : Heap) (T : TypeId) (p : AV) (f : Nat) : Option AV :=
  match P.underlying T with
  | some (.struct fs) => match fs[f]? with
    | some fd => match P.info? fd.type with
      | some i => if i.size = 0 then none else addOff σ fd.offset p
      | none => none
    | none => none
  | _ => none

theorem fieldAddrA_ok {T : TypeId} {p av : AV} {f : Nat} {v : Value} (hv : VRel ρ σ w p v) (h : fieldAddrA P σ T p f = some av) :
    ∃ u, (Instr.fieldAt T v f).run P w = .ok u w ∧ VRel ρ σ w av u := by
  unfold fieldAddrA at h
  split at h
  · rename_i fs hu
    split at h
    · rename_i fd hf
      split at h
      · rename_i i hi
        split at h
        · cases h
        · rename_i hz
          obtain ⟨a, rfl, ha⟩ := addOff_ok hv h
          exact ⟨_, by simp [Instr.fieldAt, run_und hu, hf, Instr.sureAddr, fieldPlace, run_sizeOf w hi, Program.cellsOf, hi, hz], ha⟩
      · cases h
    · cases h
  · cases h

def fieldA (P : Program) (T : TypeId) (x : AV) (f : Nat) : Option AV :=
  match P.underlying T, x with
  | some (.struct fs), .agg cs => match fs[f]? with
    | some fd => partA P fd.type cs fd.offset
    | none => none
  | _, _ => none

theorem fieldA_ok {T : TypeId} {x av : AV} {f : Nat} {v : Value} (hv : VRel ρ σ w x v) (h : fieldA P T x f = some av) :
    ∃ u, (Instr.field T v f).run P w = .ok u w ∧ VRel ρ σ w av u := by
  unfold fieldA at h
  split at h
  · rename_i fs cs hu
    split at h
    · rename_i fd hf
      obtain ⟨vs, rfl, hv⟩ := hv
      obtain ⟨u, h1, h2⟩ := partA_ok (P := P) hv h
      exact ⟨u, by simp [Instr.field, run_und hu, hf, asAgg, h1], h2⟩
    · cases h
  · cases h

def indexAddrA (P : Program) (σ : Heap) (T : TypeId) (x i : AV) : Option AV :=
  match i with
  | .int _ n =>
    (match P.underlying T, x with
    | some (.slice e), .imm xs _ _ =>
      if 0 ≤ n then
        (match xs[n.toNat]?, P.info? e with
        | some y, some inf => if y.ncells = inf.size then some (.pimm y.cl) else none
        | _, _ => none) else none
    | some (.slice e), .own r ver off len =>
      (match rowAt σ r ver, P.info? e with
      | some (sz, _), some inf => if 0 ≤ n ∧ n.toNat < len ∧ sz = inf.size then some (.prow r ver (off + n.toNat) 0) else none
      | _, _ => none)
    | some (.array len e), p =>
      (match P.info? e with
      | some inf => if 0 ≤ n ∧ n.toNat < len then addOff σ (n.toNat * inf.size) p else none
      | none => none)
    | _, _ => none)
  | _ => none

theorem cl_nonempty_rrel {xs : List AV} {n : Nat} {y : AV} (h : xs[n]? = some y) : (∃ x z, xs = x :: z) := by
  cases xs with
  | nil => simp at h
  | cons x z => exact ⟨x, z, rfl⟩

theorem indexAddrA_ok (hs : Sim ρ σ w) {T : TypeId} {x i av : AV} {v vi : Value} (hv : VRel ρ σ w x v) (hi : VRel ρ σ w i vi) (h : indexAddrA P σ T x i = some av) :
    ∃ u, (Instr.indexAt T v vi).run P w = .ok u w ∧ VRel ρ σ w av u := by
  unfold indexAddrA at h
  split at h
  · rename_i k n
    obtain ⟨rfl, _⟩ := hi
    split at h
    · rename_i e xs sp f hu
      split at h
      · rename_i h0
        split at h
        · rename_i y inf hy hinf
          split at h
          · rename_i hsz
            cases h
            obtain ⟨a, len, cap, rfl, rfl, e3, e4, e5, e6, e7⟩ := hv
            obtain ⟨b, off, sz, rfl, g1, g2, g3, g4, g5, g6⟩ := e7 (.inl (cl_nonempty_rrel hy))
            have hsz' : inf.size = sz := by rw [← hsz]; exact unif_get g3 hy
            have hlt : n.toNat < xs.length := by
              rcases Nat.lt_or_ge n.toNat xs.length with h' | h'
              · exact h'
              · rw [List.getElem?_eq_none h'] at hy; cases hy
            have hlt' : n < (xs.length : Int) := by omega
            refine ⟨.pointer (some ⟨b, off + n.toNat * sz, none⟩), ?_, ⟨_, rfl, rfl, g1, g2, rrel_get g5 g3 _ _ hy⟩⟩
            simp [Instr.indexAt, asIntOf, run_und hu, h0, hlt', run_sizeOf w hinf, Program.cellsOf, hinf, hsz', add_none]
          · cases h
        · cases h
      · cases h
    · rename_i e r ver off len hu
      split at h
      · rename_i sz _ inf hr hinf
        split at h
        · rename_i hc
          cases h
          obtain ⟨c1, c2, c3⟩ := hc
          have ho := rowAt_some hr
          obtain ⟨g1, g2, o', rfl, g4⟩ := own_row hv ho
          obtain ⟨c, el, fz, e1, e2, e3, e4, e5, e6⟩ := hs.obj r _ ho
          have hlt' : n < (len : Int) := by omega
          refine ⟨.pointer (some ⟨(ρ r).blk, o' + n.toNat * inf.size, none⟩), ?_, vrel_prow ho (by omega) ?_⟩
          · simp [Instr.indexAt, asIntOf, run_und hu, c1, hlt', run_sizeOf w hinf, Program.cellsOf, hinf, add_none]
          · rw [g4 (by omega), c3, Nat.add_mul, Nat.add_assoc]; rfl
        · cases h
      · cases h
    · rename_i len e hu
      split at h
      · rename_i inf hinf
        split at h
        · rename_i hc
          obtain ⟨a, rfl, ha⟩ := addOff_ok hv h
          have hlt' : n < (len : Int) := by omega
          exact ⟨_, by simp [Instr.indexAt, asIntOf, run_und hu, Instr.sureAddr, hc.1, hlt', run_sizeOf w hinf, Program.cellsOf, hinf], ha⟩
        · cases h
      · cases h
    · cases h
  · cases h

def indexA (P : Program) (T : TypeId) (x i : AV) : Option AV :=
  match i with
  | .int _ n =>
    (match P.underlying T, x with
    | some .string, .str s => if 0 ≤ n then (match s[n.toNat]? with
      | some c => some (.int .u8 c.toNat)
      | none => none) else none
    | some (.array len e), .agg cs => if 0 ≤ n ∧ n.toNat < len then (match P.info? e with
      | some inf => partA P e cs (n.toNat * inf.size)
      | none => none) else none
    | _, _ => none)
  | _ => none

theorem byte_range (c : UInt8) : IntKind.u8.min ≤ (c.toNat : Int) ∧ (c.toNat : Int) ≤ IntKind.u8.max := by
  have := c.toNat_lt
  simp [IntKind.min, IntKind.max, IntKind.bits, IntKind.signed]; omega

theorem str_get {b : ByteArray} {s : List UInt8} (h : b.data.toList = s) (n : Nat) : b[n]? = s[n]? := by
  subst h
  simp only [Array.getElem?_toList]
  by_cases hn : n < b.size
  · rw [getElem?_pos b n hn, getElem?_pos b.data n hn]; rfl
  · rw [getElem?_neg b n hn, getElem?_neg b.data n hn]

theorem str_size {b : ByteArray} {s : List UInt8} (h : b.data.toList = s) : b.size = s.length := by
  rw [← h, Array.length_toList]; rfl

theorem indexA_ok {T : TypeId} {x i av : AV} {v vi : Value} (hv : VRel ρ σ w x v) (hi : VRel ρ σ w i vi) (h : indexA P T x i = some av) :
    ∃ u, (Instr.index T v vi).run P w = .ok u w ∧ VRel ρ σ w av u := by
  unfold indexA at h
  split at h
  · rename_i k n
    obtain ⟨rfl, _⟩ := hi
    split at h
    · rename_i s hu
      split at h
      · rename_i h0
        split at h
        · rename_i c hc
          cases h
          obtain ⟨b, rfl, hb, _⟩ := hv
          refine ⟨.int .u8 c.toNat, ?_, ok_int (byte_range c)⟩
          simp [Instr.index, asIntOf, run_und hu, h0, str_get hb, hc]
        · cases h
      · cases h
    · rename_i len e cs hu
      split at h
      · rename_i hc
        split at h
        · rename_i inf hinf
          obtain ⟨vs, rfl, hv⟩ := hv
          obtain ⟨u, h1, h2⟩ := partA_ok (P := P) hv h
          have hlt' : n < (len : Int) := by omega
          exact ⟨u, by simp [Instr.index, asIntOf, run_und hu, hc.1, hlt', run_sizeOf w hinf, Program.cellsOf, hinf, h1], h2⟩
        · cases h
      · cases h
    · cases h
  · cases h

def loadA (P : Program) (σ : Heap) (T : TypeId) (p : AV) : Option AV :=
  match kindAgg P T with
  | some true => match P.info? T with
    | some i => (readCells σ i.size p).map .agg
    | none => none
  | some false => match readCells σ 1 p with
    | some [c] => some c
    | _ => none
  | none => none

theorem loadA_ok (hs : Sim ρ σ w) {T : TypeId} {p av : AV} {v : Value} (hv : VRel ρ σ w p v) (h : loadA P σ T p = some av) :
    ∃ u, (Instr.loadAt T v).run P w = .ok u w ∧ VRel ρ σ w av u := by
  unfold loadA at h
  split at h
  · rename_i hk
    split at h
    · rename_i i hi
      simp only [Option.map_eq_some_iff] at h
      obtain ⟨cs, hc, rfl⟩ := h
      obtain ⟨b, off, us, rfl, h1, h2, h3⟩ := readCells_ok hs hv hc
      refine ⟨.agg us.toArray, ?_, us, rfl, h2⟩
      have := run_loadCells_list P w b off us h1
      rw [h3] at this
      simp [Instr.loadAt, Instr.sureAddr, loadVar, run_isAgg hk, run_sizeOf w hi, Program.cellsOf, hi, this]
    · cases h
  · rename_i hk
    split at h
    · rename_i c hc
      cases h
      obtain ⟨b, off, us, rfl, h1, h2, h3⟩ := readCells_ok hs hv hc
      obtain ⟨u, us', rfl, h4, h5⟩ := h2
      refine ⟨u, ?_, h4⟩
      simp [Instr.loadAt, Instr.sureAddr, loadVar, run_isAgg hk, h1.head]
    · cases h
  · cases h

def storeA (P : Program) (base : Nat) (σ : Heap) (T : TypeId) (p x : AV) : Option Heap :=
  match x.cells?, P.info? T with
  | some cs, some i => if cs.length = i.size ∧ cs.all (flatIn σ) = true then writeCells base σ cs p else none
  | _, _ => none

theorem storeA_ok {base : Nat} (hs : Sim ρ σ w) (hcl : Closed base σ) {T : TypeId} {p x : AV} {v vx : Value} {σ' : Heap} (hv : VRel ρ σ w p v) (hx : VRel ρ σ w x vx) (h : storeA P base σ T p x = some σ') :
    ∃ w', (Instr.storeAt T v vx).run P w = .ok () w' ∧ Step base ρ σ w ρ σ' w' := by
  unfold storeA at h
  split at h
  · rename_i cs i hc hi
    split at h
    · rename_i hq
      have hl := cells_rel hc hq.2 hx
      obtain ⟨b, off, w', rfl, h1, h2⟩ := writeCells_ok P hs hcl hv hl hq.2 h
      refine ⟨w', ?_, h2⟩
      have hlen := lrel_len hl
      have : vx.cells.size = i.size := by rw [← hq.1, ← hlen, Array.length_toList]
      simp [Instr.storeAt, Instr.sureAddr, storeVar, run_sizeOf w hi, Program.cellsOf, hi, this, h1]
    · cases h
  · cases h
end
end Go.Abs
