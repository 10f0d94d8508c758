/-
  AN ABSTRACT SEMANTICS, 8: cuts of texts and slices; conversions; interfaces; texts gone over.
-/
import Derived.Test.YtdjbnaleoohafaaGreatDoorAbs7
namespace Go.Abs
open Go Go.RowKit

/-- A bound of a cut. -/
def bndA (x : Option AV) (d : Nat) : Option Nat :=
  match x with
  | none => some d
  | some (.int _ n) => if 0 ≤ n then some n.toNat else none
  | _ => none

def sliceA (P : Program) (σ : Heap) (T : TypeId) (x : AV) (lo hi mx : Option AV) : Option AV :=
  match P.underlying T, x with
  | some .string, .str s =>
    (match mx, bndA hi s.length, bndA lo 0 with
    | none, some h, some l => if l ≤ h ∧ h ≤ s.length then some (.str ((s.take h).drop l)) else none
    | _, _, _ => none)
  | some (.slice e), .nils =>
    (match mx, P.info? e, bndA hi 0, bndA lo 0 with
    | none, some _, some 0, some 0 => some .nils
    | _, _, _, _ => none)
  | some (.slice e), .imm xs sp full =>
    (match P.info? e, bndA hi xs.length, bndA lo 0 with
    | some inf, some h, some l =>
      if l ≤ h ∧ h ≤ xs.length + sp.length ∧ h - l ≤ 2 ^ 48 ∧ (l = 0 ∨ (unif inf.size xs && unif inf.size sp) = true) then
        (match mx with
        | none => some (.imm (((xs ++ sp).take h).drop l) ((xs ++ sp).drop h) (full && h == xs.length))
        | some (.int _ m) => if 0 ≤ m ∧ h ≤ m.toNat ∧ m.toNat ≤ xs.length + sp.length ∧ hi.isSome = true then some (.imm (((xs ++ sp).take h).drop l) (((xs ++ sp).take m.toNat).drop h) (m.toNat == h)) else none
        | _ => none)
      else none
    | _, _, _ => none)
  | some (.slice e), .own r ver off len =>
    (match mx, rowAt σ r ver, P.info? e, bndA hi len, bndA lo 0 with
    | none, some (sz, xs), some inf, some h, some l => if l ≤ h ∧ off + h ≤ xs.length ∧ sz = inf.size ∧ h - l ≤ 2 ^ 48 then some (.own r ver (off + l) (h - l)) else none
    | _, _, _, _, _ => none)
  | _, _ => none

section
variable {P : Program} {ρ : Map} {σ : Heap} {w : World}

/-- An optional operand. -/
def ORel (ρ : Map) (σ : Heap) (w : World) : Option AV → Option Value → Prop
  | none, none => True
  | some a, some v => VRel ρ σ w a v
  | _, _ => False

theorem bnd_run {x : Option AV} {v : Option Value} {d n y : Nat} {code : BoundsCode} (hr : ORel ρ σ w x v) (h : bndA x d = some n) (hn : n ≤ y) :
    (match v with | some u => Instr.sliceBound u y code | none => pure d).run P w = .ok n w := by
  cases x with
  | none => cases v with
    | none => simp only [bndA, Option.some.injEq] at h; subst h; rfl
    | some u => exact hr.elim
  | some a => cases v with
    | none => exact hr.elim
    | some u =>
      cases a <;> simp only [bndA] at h <;> first | (cases h; done) | skip
      split at h
      · rename_i k m h0
        cases h
        obtain ⟨rfl, _⟩ := hr
        have : m ≤ (y : Int) := by omega
        simp [Instr.sliceBound, asIntOf, h0, this]
      · cases h

theorem bounds_run {isSlice : Bool} {len cap h l : Nat} {lo hi : Option AV} {vlo vhi : Option Value} (rlo : ORel ρ σ w lo vlo) (rhi : ORel ρ σ w hi vhi)
    (hh : bndA hi len = some h) (hl : bndA lo 0 = some l) (h1 : l ≤ h) (h2 : h ≤ cap) : (Instr.sliceBounds isSlice len cap vlo vhi none).run P w = .ok (l, h, cap) w := by
  have eh := bnd_run (P := P) (code := if isSlice then .sliceAcap else .sliceAlen) rhi hh h2
  have el := bnd_run (P := P) (code := .sliceB) rlo hl h1
  unfold Instr.sliceBounds
  cases vhi with
  | none =>
    simp only [Sem.run_pure, Result.ok.injEq, and_true] at eh
    cases vlo with
    | none =>
      simp only [Sem.run_pure, Result.ok.injEq, and_true] at el
      simp [eh, el]
    | some vl => simp [eh] at el ⊢; simp [el]
  | some vh =>
    simp only at eh
    cases vlo with
    | none =>
      simp only [Sem.run_pure, Result.ok.injEq, and_true] at el
      simp [eh, el]
    | some vl => simp at el ⊢; simp [eh, el]

theorem bounds_run3 {isSlice : Bool} {len cap h l m : Nat} {lo hi : Option AV} {vlo vhi : Option Value} {vm : Value} {k : IntKind} (rlo : ORel ρ σ w lo vlo) (rhi : ORel ρ σ w hi vhi)
    (hm : vm = .int k (m : Int)) (hs : hi.isSome = true) (hh : bndA hi len = some h) (hl : bndA lo 0 = some l) (h1 : l ≤ h) (h2 : h ≤ m) (h3 : m ≤ cap) : (Instr.sliceBounds isSlice len cap vlo vhi (some vm)).run P w = .ok (l, h, m) w := by
  have em : (Instr.sliceBound vm cap (if isSlice then .slice3Acap else .slice3Alen)).run P w = .ok m w := by
    subst hm
    have : (m : Int) ≤ (cap : Int) := by omega
    simp [Instr.sliceBound, asIntOf, this]
  have eh := bnd_run (P := P) (code := .slice3B) (y := m) rhi hh h2
  have el := bnd_run (P := P) (code := .slice3C) rlo hl h1
  unfold Instr.sliceBounds
  cases vhi with
  | none => cases hi with
    | none => cases hs
    | some x => exact rhi.elim
  | some vh =>
    simp only at eh
    cases vlo with
    | none =>
      simp only [Sem.run_pure, Result.ok.injEq, and_true] at el
      simp only [Sem.run_bind, em, eh, Result.andThen_ok, Sem.run_pure, el]
    | some vl => simp only at el; simp only [Sem.run_bind, em, eh, Result.andThen_ok, Sem.run_pure, Option.isSome_some, if_true, el]

theorem unif_append {sz : Nat} {xs ys : List AV} : unif sz (xs ++ ys) = (unif sz xs && unif sz ys) := by simp [unif]
theorem unif_take {sz k : Nat} {xs : List AV} (h : unif sz xs = true) : unif sz (xs.take k) = true := by
  simp only [unif, List.all_eq_true] at h ⊢; exact fun x hx => h x (List.mem_of_mem_take hx)
theorem unif_drop {sz k : Nat} {xs : List AV} (h : unif sz xs = true) : unif sz (xs.drop k) = true := by
  simp only [unif, List.all_eq_true] at h ⊢; exact fun x hx => h x (List.mem_of_mem_drop hx)
theorem unif_eq {a b : Nat} {xs : List AV} (h1 : unif a xs = true) (h2 : unif b xs = true) (hne : xs ≠ []) : a = b := by
  cases xs with
  | nil => exact absurd rfl hne
  | cons x xs =>
    simp only [unif, List.all_cons, Bool.and_eq_true, beq_iff_eq] at h1 h2
    exact h1.1.symm.trans h2.1

/-- A cut of what is told of a slice. -/
theorem rrel_cut {sz b off l h : Nat} {zs : List AV} (hu : unif sz zs = true) (hr : RRel ρ σ w zs b off) (h1 : l ≤ h) (h2 : h ≤ zs.length) :
    RRel ρ σ w ((zs.take h).drop l) b (off + l * sz) ∧ RRel ρ σ w (zs.drop h) b (off + l * sz + cellsN ((zs.take h).drop l)) := by
  have e1 : zs = zs.take l ++ ((zs.take h).drop l ++ zs.drop h) := by
    have a1 : zs.take l = (zs.take h).take l := by rw [List.take_take, Nat.min_eq_left h1]
    rw [a1, ← List.append_assoc, List.take_append_drop, List.take_append_drop]
  rw [e1, rrel_append, rrel_append] at hr
  have c1 : cellsN (zs.take l) = l * sz := by rw [cellsN_unif (unif_take hu), List.length_take, Nat.min_eq_left (by omega)]
  rw [c1] at hr
  exact ⟨hr.2.1, hr.2.2⟩

theorem ne_cases {xs sp : List AV} (h : xs ++ sp ≠ []) : (∃ x y, xs = x :: y) ∨ (∃ x y, sp = x :: y) := by
  cases xs with
  | cons x y => exact .inl ⟨x, y, rfl⟩
  | nil => cases sp with
    | cons x y => exact .inr ⟨x, y, rfl⟩
    | nil => exact absurd rfl h

theorem ne_of_cases {xs sp : List AV} (h : (∃ x y, xs = x :: y) ∨ (∃ x y, sp = x :: y)) : xs ++ sp ≠ [] := by
  rcases h with ⟨x, y, rfl⟩ | ⟨x, y, rfl⟩ <;> simp

/-- What is told of a slice that came in, in one piece. -/
theorem imm_all {xs sp : List AV} {full : Bool} {v : Value} (hv : VRel ρ σ w (.imm xs sp full) v) :
    ∃ a cap, v = .slice a xs.length cap ∧ xs.length + sp.length ≤ cap ∧ (full = true → cap = xs.length) ∧ xs.length ≤ 2 ^ 48 ∧ (a = none → cap = 0) ∧
      (xs ++ sp ≠ [] → ∃ b off sz, a = some ⟨b, off, none⟩ ∧ ¬ Mut ρ σ b ∧ b < w.heap.size ∧ unif sz (xs ++ sp) = true ∧ RRel ρ σ w (xs ++ sp) b off) := by
  obtain ⟨a, len, cap, rfl, rfl, e3, e4, e5, e6, e7⟩ := hv
  refine ⟨a, cap, rfl, e3, e4, e5, e6, fun hne => ?_⟩
  obtain ⟨b, off, sz, g0, g1, g2, g3, g4, g5, g6⟩ := e7 (ne_cases hne)
  exact ⟨b, off, sz, g0, g1, g2, by rw [unif_append, g3, g4]; rfl, rrel_append.2 ⟨g5, g6⟩⟩

theorem vrel_imm {xs sp : List AV} {full : Bool} {a : Option Addr} {cap : Nat} (h1 : xs.length + sp.length ≤ cap) (h2 : full = true → cap = xs.length) (h3 : xs.length ≤ 2 ^ 48) (h4 : a = none → cap = 0)
    (h5 : xs ++ sp ≠ [] → ∃ b off sz, a = some ⟨b, off, none⟩ ∧ ¬ Mut ρ σ b ∧ b < w.heap.size ∧ unif sz (xs ++ sp) = true ∧ RRel ρ σ w (xs ++ sp) b off) :
    VRel ρ σ w (.imm xs sp full) (.slice a xs.length cap) := by
  refine ⟨a, _, cap, rfl, rfl, h1, h2, h3, h4, fun hc => ?_⟩
  obtain ⟨b, off, sz, g0, g1, g2, g3, g4⟩ := h5 (ne_of_cases hc)
  rw [unif_append, Bool.and_eq_true] at g3
  rw [rrel_append] at g4
  exact ⟨b, off, sz, g0, g1, g2, g3.1, g3.2, g4.1, g4.2⟩

theorem sliceA_ok (hs : Sim ρ σ w) {T : TypeId} {x av : AV} {lo hi mx : Option AV} {v : Value} {vlo vhi vmx : Option Value} (hv : VRel ρ σ w x v) (rlo : ORel ρ σ w lo vlo) (rhi : ORel ρ σ w hi vhi) (rmx : ORel ρ σ w mx vmx)
    (h : sliceA P σ T x lo hi mx = some av) : ∃ u, (Instr.sliceAt T v vlo vhi vmx).run P w = .ok u w ∧ VRel ρ σ w av u := by
  unfold sliceA at h
  split at h
  · rename_i s hu
    split at h
    · rename_i hh l e1 e2
      split at h
      · rename_i hq
        cases h
        obtain ⟨b, rfl, hb, hlen⟩ := hv
        have hvm : vmx = none := by cases vmx with
          | none => rfl
          | some _ => exact rmx.elim
        subst hvm
        have hsz := str_size hb
        have hbr := bounds_run (P := P) (isSlice := false) (len := b.size) (cap := b.size) rlo rhi (by rw [hsz]; exact e1) e2 hq.1 (by rw [hsz]; exact hq.2)
        refine ⟨.string (b.extract l hh), ?_, _, rfl, ?_, ?_⟩
        · simp [Instr.sliceAt, Instr.slice, run_und hu, hbr]
        · rw [← hb]; simp [List.drop_take]
        · simp; omega
      · cases h
    · cases h
  · rename_i e hu
    split at h
    · rename_i inf hi' e1 e2
      cases h
      simp only [VRel] at hv; subst hv
      have hvm : vmx = none := by cases vmx with
        | none => rfl
        | some _ => exact rmx.elim
      subst hvm
      have hbr := bounds_run (P := P) (isSlice := true) (len := 0) (cap := 0) rlo rhi e1 e2 (Nat.le_refl _) (Nat.le_refl _)
      exact ⟨.slice none 0 0, by simp [Instr.sliceAt, Instr.slice, run_und hu, hbr, run_sizeOf w hi', Program.cellsOf], rfl⟩
    · cases h
  · rename_i e xs sp full hu
    split at h
    · rename_i inf hh l hinf e1 e2
      split at h
      · rename_i hq
        obtain ⟨q1, q2, q4, q3⟩ := hq
        obtain ⟨a, cap, rfl, i1, i2, i3, i4, i5⟩ := imm_all hv
        have core : ∀ (m : Nat) (sp' : List AV), l ≤ m → ((xs ++ sp).take hh).drop l ++ sp' ≠ [] → l < m → (∃ k, sp' = ((xs ++ sp).take k).drop hh) →
            ∃ b off sz, (if m = l then a else a.map (·.add (l * inf.size))) = some ⟨b, off, none⟩ ∧ ¬ Mut ρ σ b ∧ b < w.heap.size ∧ unif sz (((xs ++ sp).take hh).drop l ++ sp') = true ∧ RRel ρ σ w (((xs ++ sp).take hh).drop l ++ sp') b off := by
          intro m sp' hlm hne hlt ⟨k, hk⟩
          have hne0 : xs ++ sp ≠ [] := by
            intro e0; rw [e0] at hne hk; simp at hk; subst hk; simp at hne
          obtain ⟨b, off, sz, rfl, g1, g2, g3, g4⟩ := i5 hne0
          have hsz : l = 0 ∨ inf.size = sz := by
            rcases q3 with q3 | q3
            · exact .inl q3
            · rw [← unif_append] at q3; exact .inr (unif_eq q3 g3 hne0)
          have hc := rrel_cut g3 g4 q1 (by simp; omega)
          have hmul : l * inf.size = l * sz := by rcases hsz with h | h <;> simp [h]
          refine ⟨b, off + l * sz, sz, ?_, g1, g2, ?_, ?_⟩
          · rw [if_neg (by omega)]; simp [add_none, hmul]
          · rw [unif_append, unif_drop (unif_take g3)]; rw [hk, unif_drop (unif_take g3)]; rfl
          · rw [rrel_append]
            refine ⟨hc.1, ?_⟩
            rw [hk]
            have hd := hc.2
            by_cases hkl : hh ≤ k
            · have e3 : (xs ++ sp).drop hh = ((xs ++ sp).take k).drop hh ++ (xs ++ sp).drop k := by
                have a1 : (xs ++ sp).drop hh = ((xs ++ sp).take k ++ (xs ++ sp).drop k).drop hh := by rw [List.take_append_drop]
                rcases Nat.lt_or_ge (xs ++ sp).length k with h' | h'
                · rw [List.take_of_length_le (by omega), List.drop_of_length_le (i := k) (by omega)]; simp
                · rw [a1, List.drop_append_of_le_length (by rw [List.length_take]; omega)]
              rw [e3, rrel_append] at hd; exact hd.1
            · have : ((xs ++ sp).take k).drop hh = [] := by
                apply List.drop_of_length_le; rw [List.length_take]; omega
              rw [this]; trivial
        split at h
        · cases h
          have hvm : vmx = none := by cases vmx with
            | none => rfl
            | some _ => exact rmx.elim
          subst hvm
          have hbr := bounds_run (P := P) (isSlice := true) (cap := cap) rlo rhi e1 e2 q1 (by omega)
          have hl' : (((xs ++ sp).take hh).drop l).length = hh - l := by simp; omega
          refine ⟨.slice (if cap = l then a else a.map (·.add (l * inf.size))) (hh - l) (cap - l), by simp [Instr.sliceAt, Instr.slice, run_und hu, hbr, run_sizeOf w hinf, Program.cellsOf, hinf], ?_⟩
          rw [← hl']
          refine vrel_imm ?_ ?_ ?_ ?_ ?_
          · simp; omega
          · intro hf
            simp only [Bool.and_eq_true, beq_iff_eq] at hf
            have := i2 hf.1
            rw [hl']; omega
          · rw [hl']; exact q4
          · intro hn
            split at hn
            · rename_i hc; omega
            · have := i4 (by simpa using hn); omega
          · intro hne
            refine core cap _ (by omega) hne ?_ ⟨(xs ++ sp).length, by rw [List.take_length]⟩
            rcases Nat.lt_or_ge l cap with h' | h'
            · exact h'
            · exfalso; apply hne
              have : (((xs ++ sp).take hh).drop l) = [] := List.eq_nil_of_length_eq_zero (by rw [hl']; omega)
              rw [this, List.nil_append]
              exact List.drop_of_length_le (by simp; omega)
        · rename_i k m
          split at h
          · rename_i hm
            cases h
            obtain ⟨m0, m1, m2, m3⟩ := hm
            cases vmx with
            | none => exact rmx.elim
            | some vm =>
              obtain ⟨rfl, _⟩ := rmx
              have hbr := bounds_run3 (P := P) (isSlice := true) (cap := cap) (m := m.toNat) (vm := .int k m) (k := k) rlo rhi (by rw [Int.toNat_of_nonneg m0]) m3 e1 e2 q1 m1 (by omega)
              have hl' : (((xs ++ sp).take hh).drop l).length = hh - l := by simp; omega
              refine ⟨.slice (if m.toNat = l then a else a.map (·.add (l * inf.size))) (hh - l) (m.toNat - l), by simp [Instr.sliceAt, Instr.slice, run_und hu, hbr, run_sizeOf w hinf, Program.cellsOf, hinf], ?_⟩
              rw [← hl']
              refine vrel_imm ?_ ?_ ?_ ?_ ?_
              · simp; omega
              · intro hf
                simp only [beq_iff_eq] at hf
                rw [hl']; omega
              · rw [hl']; exact q4
              · intro hn
                split at hn
                · rename_i hc; omega
                · have := i4 (by simpa using hn); omega
              · intro hne
                refine core m.toNat _ (by omega) hne ?_ ⟨_, rfl⟩
                rcases Nat.lt_or_ge l m.toNat with h' | h'
                · exact h'
                · exfalso; apply hne
                  have : (((xs ++ sp).take hh).drop l) = [] := List.eq_nil_of_length_eq_zero (by rw [hl']; omega)
                  rw [this, List.nil_append]
                  exact List.drop_of_length_le (by rw [List.length_take]; omega)
          · cases h
        · cases h
      · cases h
    · cases h
  · rename_i e r ver off len hu
    split at h
    · rename_i sz xs inf hh l hr hinf e1 e2
      split at h
      · rename_i hq
        obtain ⟨q1, q2, q3, q4⟩ := hq
        cases h
        have hvm : vmx = none := by cases vmx with
          | none => rfl
          | some _ => exact rmx.elim
        subst hvm
        have ho := rowAt_some hr
        obtain ⟨g1, g2, o', rfl, g4⟩ := own_row hv ho
        obtain ⟨c, el, fz, f1, f2, f3, f4, f5, f6⟩ := hs.obj r _ ho
        have hbr := bounds_run (P := P) (isSlice := true) (cap := (ρ r).cap - off) rlo rhi e1 e2 q1 (by omega)
        refine ⟨_, by simp [Instr.sliceAt, Instr.slice, run_und hu, hbr, run_sizeOf w hinf, Program.cellsOf, hinf]; rfl, ?_⟩
        have e3 : (ρ r).cap - off - l = (ρ r).cap - (off + l) := by omega
        rw [e3]
        by_cases hc : (ρ r).cap - off = l
        · rw [if_pos hc]
          exact vrel_own ho (by omega) q4 rfl (by omega)
        · rw [if_neg hc]
          refine vrel_own ho (by omega) q4 (by rw [add_none]) (fun hlt => ?_)
          rw [g4 (by omega), q3, Nat.add_mul, Nat.add_assoc]
      · cases h
    · cases h
  · cases h
end
end Go.Abs
