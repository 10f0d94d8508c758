/-
  AN ABSTRACT SEMANTICS, 14: made maps, texts gone over, len, min, max, copy.
-/
import Derived.Test.YtdjbnaleoohafaaGreatDoorAbs13
namespace Go.Abs
open Go Go.RowKit

section
variable {P : Program} {ρ : Map} {σ : Heap} {w : World}

/-- A new object that is no row of cells. -/
theorem push_obj {base : Nat} (hs : Sim ρ σ w) (hc : Closed base σ) (hb : base ≤ σ.length) {o : AObj} {O : Obj} (hr : ∀ ρ' σ' w', w'.heap[(ρ' σ.length).blk]? = some O → ObjRel ρ' σ' w' σ.length o) :
    Step base ρ σ w (upd ρ σ.length ⟨w.heap.size, 0, 0⟩) (σ ++ [o]) (w.alloc O) := by
  have hbl := below_alloc w O
  refine Step.push hs hc hb hbl (Nat.le_refl _) (hr _ _ _ ?_)
  rw [upd_same]; exact heap_alloc_new _ _

def makeMapA (P : Program) (σ : Heap) (T : TypeId) (r : Option AV) : Option (AV × Heap) :=
  match r with
  | none => some (.map σ.length, σ ++ [.map []])
  | some (.int _ _) => match P.underlying T with
    | some (.map _ _) => some (.map σ.length, σ ++ [.map []])
    | _ => none
  | _ => none

theorem makeMapA_ok {base : Nat} (hs : Sim ρ σ w) (hc : Closed base σ) (hb : base ≤ σ.length) {T : TypeId} {r : Option AV} {vr : Option Value} {av : AV} {σ' : Heap} (hv : ORel ρ σ w r vr) (h : makeMapA P σ T r = some (av, σ')) :
    Ret base ρ σ w av σ' ((Instr.makeMap T vr).run P w) := by
  have core : Ret base ρ σ w (.map σ.length) (σ ++ [.map []]) (.ok (.map (some w.heap.size)) (w.alloc (.map #[] 0))) := by
    have hp := push_obj (o := .map []) (O := .map #[] 0) hs hc hb (fun ρ' σ' w' hh => ⟨#[], 0, hh, rfl⟩)
    exact ⟨_, _, _, rfl, ⟨by rw [upd_same], [], by simp⟩, hp⟩
  unfold makeMapA at h
  split at h
  · cases h
    cases vr with
    | some _ => exact hv.elim
    | none => simpa [Instr.makeMap] using core
  · split at h
    · rename_i hu
      cases h
      cases vr with
      | none => exact hv.elim
      | some v =>
        obtain ⟨rfl, _⟩ := hv
        simpa [Instr.makeMap, run_und hu, asInt, asIntOf] using core
    · cases h
  · cases h

def rangeA (P : Program) (σ : Heap) (T : TypeId) (x : AV) : Option (AV × Heap) :=
  match P.underlying T, x with
  | some .string, .str s => some (.ptr σ.length 0, σ ++ [.iter s 0])
  | _, _ => none

theorem rangeA_ok {base : Nat} (hs : Sim ρ σ w) (hc : Closed base σ) (hb : base ≤ σ.length) {T : TypeId} {x av : AV} {v : Value} {σ' : Heap} (hv : VRel ρ σ w x v) (h : rangeA P σ T x = some (av, σ')) :
    Ret base ρ σ w av σ' ((Instr.range T v).run P w) := by
  unfold rangeA at h
  split at h
  · rename_i s hu
    cases h
    obtain ⟨b, rfl, hb', hl⟩ := hv
    have hp := push_obj (o := .iter s 0) (O := .stringIter b 0) hs hc hb (fun ρ' σ' w' hh => ⟨b, hh, hb', hl⟩)
    exact ⟨_, _, .pointer (some ⟨w.heap.size, 0, none⟩), by simp only [Instr.range, Sem.run_bind, run_und hu, Result.andThen_ok, Sem.run_pure, run_newObj, World.alloc_eq], ⟨by rw [upd_same], .iter s 0, by simp, rfl⟩, hp⟩
  · cases h

/-- A rune at a place. -/
def decodeL (s : List UInt8) (i : Nat) : Nat × Nat := Utf8.decode ⟨s.toArray⟩ i

theorem rune_le : Utf8.runeError ≤ 0x10FFFF := by unfold Utf8.runeError; omega
theorem decode_range (b : ByteArray) (i : Nat) : (Utf8.decode b i).1 ≤ 0x10FFFF := by
  unfold Utf8.decode
  simp only
  have l0 := (b.get! (i + 0)).toNat_lt
  have l1 := (b.get! (i + 1)).toNat_lt
  have l2 := (b.get! (i + 2)).toNat_lt
  have l3 := (b.get! (i + 3)).toNat_lt
  split
  · show (b.get! (i + 0)).toNat ≤ _; omega
  · split
    · split
      · show (b.get! (i + 0)).toNat % 32 * 64 + (b.get! (i + 1)).toNat % 64 ≤ _; omega
      · exact rune_le
    · split
      · split
        · show (b.get! (i + 0)).toNat % 16 * 4096 + (b.get! (i + 1)).toNat % 64 * 64 + (b.get! (i + 2)).toNat % 64 ≤ _; omega
        · exact rune_le
      · split
        · split
          · rename_i h
            simp only [Bool.and_eq_true, Utf8.valid, Bool.or_eq_true, decide_eq_true_eq] at h
            show (b.get! (i + 0)).toNat % 8 * 262144 + (b.get! (i + 1)).toNat % 64 * 4096 + (b.get! (i + 2)).toNat % 64 * 64 + (b.get! (i + 3)).toNat % 64 ≤ _
            omega
          · exact rune_le
        · exact rune_le

def nextA (σ : Heap) (x : AV) (isStr : Bool) : Option (AV × Heap) :=
  match x, isStr with
  | .ptr o 0, true => match σ[o]? with
    | some (.iter s pos) => if pos < s.length then
        some (.tuple [.bool true, .int .i64 pos, .int .i32 (decodeL s pos).1], σ.set o (.iter s (pos + (decodeL s pos).2)))
      else some (.tuple [.bool false], σ)
    | _ => none
  | _, _ => none

theorem nextA_ok {base : Nat} (hs : Sim ρ σ w) (hc : Closed base σ) {x av : AV} {v : Value} {T : TypeId} {b : Bool} {σ' : Heap} (hv : VRel ρ σ w x v) (h : nextA σ x b = some (av, σ')) :
    Ret base ρ σ w av σ' ((Instr.next v b T).run P w) := by
  unfold nextA at h
  split at h
  · rename_i o
    obtain ⟨rfl, _⟩ := hv
    split at h
    · rename_i s pos ho
      obtain ⟨bs, h1, h2, h3⟩ := hs.obj o _ ho
      have hbs : bs = ⟨s.toArray⟩ := by rw [← h2]
      have hsz := str_size h2
      have hg : (getObj (ρ o).blk).run P w = .ok (.stringIter bs pos) w := by simp [getObj, Sem.run, h1]
      split at h
      · rename_i hlt
        cases h
        have hd : decodeL s pos = Utf8.decode bs pos := by unfold decodeL; rw [hbs]
        have hr := decode_range bs pos
        have hp := step_setObj (base := base) (o' := .iter s (pos + (decodeL s pos).2)) (O' := .stringIter bs (pos + (decodeL s pos).2)) hs hc ho rfl h1 ⟨⟨_, _, rfl⟩, rfl⟩ (fun w' hx hh => ⟨bs, hh, h2, h3⟩) (fun _ => rfl)
        refine ⟨_, _, .tuple #[.bool true, .int .i64 pos, .int .i32 (decodeL s pos).1], ?_, ?_, hp⟩
        · simp only [Instr.next, Sem.run_bind, hg, Result.andThen_ok]
          rw [if_pos (by omega)]
          simp only [Sem.run_bind, run_setObj h1 (fun _ _ _ e => by cases e), Result.andThen_ok, Sem.run_pure, hd]
          rfl
        · refine ⟨[_, _, _], rfl, _, _, rfl, rfl, _, _, rfl, ok_int ?_, _, _, rfl, ok_int ?_, rfl⟩
          · simp [IntKind.min, IntKind.max, IntKind.bits, IntKind.signed]; omega
          · rw [hd]; simp [IntKind.min, IntKind.max, IntKind.bits, IntKind.signed]; omega
      · rename_i hlt
        cases h
        refine ⟨ρ, w, .tuple #[.bool false], ?_, ⟨[_], rfl, _, _, rfl, rfl, rfl⟩, .refl hs hc⟩
        simp only [Instr.next, Sem.run_bind, hg, Result.andThen_ok]
        rw [if_neg (by omega)]; rfl
    · cases h
  · cases h

/-! Builtins. -/
def lenA (P : Program) (σ : Heap) (T : TypeId) (x : AV) : Option AV :=
  match P.underlying T, x with
  | some .string, .str s => some (.int .i64 s.length)
  | some (.slice _), .nils => some (.int .i64 0)
  | some (.slice _), .imm xs _ _ => some (.int .i64 xs.length)
  | some (.slice _), .own r ver _ len => if (rowAt σ r ver).isSome = true then some (.int .i64 len) else none
  | some (.array n _), .agg _ => if n ≤ 2 ^ 48 then some (.int .i64 n) else none
  | some (.map _ _), x => match mapEntries σ x with
    | some es => if es.length ≤ 2 ^ 48 then some (.int .i64 es.length) else none
    | none => none
  | _, _ => none

theorem le48 {n : Nat} (h : n ≤ 2 ^ 48) : n ≤ 2 ^ 62 := by
  have : (2 : Nat) ^ 48 ≤ 2 ^ 62 := by decide
  omega
theorem ok_len {n : Nat} (h : n ≤ 2 ^ 62) : VRel ρ σ w (.int .i64 n) (goInt n) := ⟨rfl, by simp [IntKind.min, IntKind.bits, IntKind.signed], by simp [IntKind.max, IntKind.bits, IntKind.signed]; omega⟩

theorem lenA_ok (hs : Sim ρ σ w) {T ty : TypeId} {ta : Array TypeId} {x av : AV} {v : Value} (h0 : ta[0]? = some T) (hv : VRel ρ σ w x v) (h : lenA P σ T x = some av) :
    ∃ u, (Builtin.len_ ta ty #[v]).run P w = .ok u w ∧ VRel ρ σ w av u := by
  unfold lenA at h
  split at h
  · rename_i s hu
    cases h
    obtain ⟨b, rfl, hb, hl⟩ := hv
    exact ⟨goInt b.size, by simp [Builtin.len_, h0, run_und hu], by rw [str_size hb]; exact ok_len hl⟩
  · rename_i e hu
    cases h
    simp only [VRel] at hv; subst hv
    exact ⟨goInt 0, by simp [Builtin.len_, h0, run_und hu], ok_len (n := 0) (by decide)⟩
  · rename_i e xs sp f hu
    cases h
    obtain ⟨a, cap, rfl, _, _, h3, _⟩ := imm_all hv
    exact ⟨goInt xs.length, by simp [Builtin.len_, h0, run_und hu], ok_len (le48 (by first | assumption | exact h3 | omega))⟩
  · rename_i e r ver off len hu
    split at h
    · rename_i hr
      cases h
      obtain ⟨⟨sz, xs⟩, hr⟩ := Option.isSome_iff_exists.1 hr
      obtain ⟨g1, g2, o', rfl, g4⟩ := own_row hv (rowAt_some hr)
      exact ⟨goInt len, by simp [Builtin.len_, h0, run_und hu], ok_len (le48 (by first | assumption | exact h3 | omega))⟩
    · cases h
  · rename_i n e cs hu
    split at h
    · rename_i hn
      cases h
      obtain ⟨vs, rfl, _⟩ := hv
      exact ⟨goInt n, by simp [Builtin.len_, h0, run_und hu], ok_len (le48 (by first | assumption | exact h3 | omega))⟩
    · cases h
  · rename_i kt e hu
    split at h
    · rename_i es hes
      split at h
      · rename_i hn
        cases h
        obtain ⟨en, e1, e2⟩ := mapEntries_ok hs hv hes
        have hlen : en.size = es.length := by
          have : ∀ (es : List (AV × AV)) (l : List MapEntry), ERel ρ σ w es l → l.length = es.length := by
            intro es
            induction es with
            | nil => intro l h; cases h; rfl
            | cons x es ih => intro l h; obtain ⟨k, v⟩ := x; obtain ⟨_, l', rfl, _, _, h⟩ := h; simp [ih l' h]
          rw [← this _ _ e1, Array.length_toList]
        have hr : VRel ρ σ w (.int .i64 es.length) (goInt en.size) := by rw [hlen]; exact ok_len (le48 (by first | assumption | exact h3 | omega))
        rcases e2 with ⟨rfl, rfl⟩ | ⟨b, clock, rfl, hh⟩
        · exact ⟨goInt 0, by simp [Builtin.len_, h0, run_und hu], hr⟩
        · have hg : (getObj b).run P w = .ok (.map en clock) w := by simp [getObj, Sem.run, hh]
          exact ⟨goInt en.size, by simp [Builtin.len_, h0, run_und hu, hg], hr⟩
      · cases h
    · cases h
  · cases h

def maxA (x y : AV) : Option AV :=
  match x, y with
  | .int k a, .int k' b => if k = k' then some (.int k (if b > a then b else a)) else none
  | _, _ => none
def minA (x y : AV) : Option AV :=
  match x, y with
  | .int k a, .int k' b => if k = k' then some (.int k (if b < a then b else a)) else none
  | _, _ => none
def foldA (f : AV → AV → Option AV) : AV → List AV → Option AV
  | x, [] => some x
  | x, y :: ys => match f x y with
    | some z => foldA f z ys
    | none => none

theorem foldA_ok {f : AV → AV → Option AV} {g : Value → Value → Sem Value} (hf : ∀ x y z vx vy, VRel ρ σ w x vx → VRel ρ σ w y vy → f x y = some z → ∃ u, (g vx vy).run P w = .ok u w ∧ VRel ρ σ w z u) :
    ∀ (ys : List AV) (vs : List Value) (x av : AV) (vx : Value), VRel ρ σ w x vx → LRel ρ σ w ys vs → foldA f x ys = some av → ∃ u, (vs.foldlM g vx).run P w = .ok u w ∧ VRel ρ σ w av u
  | [], vs, x, av, vx, hx, hl, h => by
    cases hl; simp only [foldA, Option.some.injEq] at h; subst h
    exact ⟨vx, rfl, hx⟩
  | y :: ys, _, x, av, vx, hx, ⟨v, vs, rfl, h1, h2⟩, h => by
    simp only [foldA] at h
    split at h
    · rename_i z hz
      obtain ⟨u, g1, g2⟩ := hf x y z vx v hx h1 hz
      obtain ⟨u', g3, g4⟩ := foldA_ok hf ys vs z av u g2 h2 h
      exact ⟨u', by rw [List.foldlM_cons]; simp [g1, g3], g4⟩
    · cases h

theorem max2_ok {x y z : AV} {vx vy : Value} (hx : VRel ρ σ w x vx) (hy : VRel ρ σ w y vy) (h : maxA x y = some z) : ∃ u, (Builtin.max2 vx vy).run P w = .ok u w ∧ VRel ρ σ w z u := by
  unfold maxA at h
  split at h
  · obtain ⟨rfl, h1⟩ := hx; obtain ⟨rfl, h2⟩ := hy
    split at h
    · rename_i hk; subst hk; cases h
      refine ⟨_, rfl, ok_int ?_⟩
      split
      · exact h2
      · exact h1
    · cases h
  · cases h
theorem min2_ok {x y z : AV} {vx vy : Value} (hx : VRel ρ σ w x vx) (hy : VRel ρ σ w y vy) (h : minA x y = some z) : ∃ u, (Builtin.min2 vx vy).run P w = .ok u w ∧ VRel ρ σ w z u := by
  unfold minA at h
  split at h
  · obtain ⟨rfl, h1⟩ := hx; obtain ⟨rfl, h2⟩ := hy
    split at h
    · rename_i hk; subst hk; cases h
      refine ⟨_, rfl, ok_int ?_⟩
      split
      · exact h2
      · exact h1
    · cases h
  · cases h

def copyA (P : Program) (base : Nat) (σ : Heap) (T : TypeId) (x y : AV) : Option (AV × Heap) :=
  match P.underlying T, x with
  | some (.slice e), .own r ver off len => (match P.info? e, rowAt σ r ver with
    | some i, some (sz, xs) => (match srcA P σ e i.size y with
      | some es => if es.length ≤ len ∧ off + len ≤ xs.length ∧ sz = i.size ∧ (base ≤ r ∨ refsBL 0 es = true) then
          some (.int .i64 es.length, σ.set r (.row ver sz (splice xs off es))) else none
      | none => none)
    | _, _ => none)
  | _, _ => none

theorem flat_splice {sz : Nat} {xs es : List AV} {off : Nat} (hu : unif sz xs = true) (he : unif sz es = true) (h : off + es.length ≤ xs.length) : flat (splice xs off es) = splice (flat xs) (off * sz) (flat es) := by
  unfold splice
  rw [flat_append, flat_append]
  have e1 : ∀ k, k ≤ xs.length → flat (xs.take k) = (flat xs).take (k * sz) ∧ flat (xs.drop k) = (flat xs).drop (k * sz) := by
    intro k hk
    have hs : flat xs = flat (xs.take k) ++ flat (xs.drop k) := by rw [← flat_append, List.take_append_drop]
    have hl : (flat (xs.take k)).length = k * sz := by rw [flat_len (unif_take hu), List.length_take, Nat.min_eq_left hk]
    rw [hs]
    exact ⟨(List.take_left' hl).symm, (List.drop_left' hl).symm⟩
  rw [(e1 off (by omega)).1, (e1 (off + es.length) h).2, flat_len he, Nat.add_mul]

theorem unif_splice {sz : Nat} {xs es : List AV} {off : Nat} (hu : unif sz xs = true) (he : unif sz es = true) : unif sz (splice xs off es) = true := by
  unfold splice; rw [unif_append, unif_append, unif_take hu, he, unif_drop hu]; rfl

theorem copyA_ok {base : Nat} (hs : Sim ρ σ w) (hc : Closed base σ) {T ty : TypeId} {ta : Array TypeId} {x y av : AV} {v vy : Value} {σ' : Heap} (h0 : ta[0]? = some T) (hv : VRel ρ σ w x v) (hy : VRel ρ σ w y vy)
    (h : copyA P base σ T x y = some (av, σ')) : Ret base ρ σ w av σ' ((Builtin.copy_ ta ty #[v, vy]).run P w) := by
  unfold copyA at h
  split at h
  · rename_i e r ver off len hu
    split at h
    · rename_i i sz xs hi hr
      split at h
      · rename_i es hes
        split at h
        · rename_i hq
          obtain ⟨q1, q2, q3, q4⟩ := hq
          cases h
          subst q3
          have ho := rowAt_some hr
          obtain ⟨us, s1, s2, s3, s4, s5⟩ := srcA_ok (P := P) hs hy hes
          obtain ⟨g1, g2, o', rfl, g4⟩ := own_row hv ho
          obtain ⟨c, el, fz, f1, f2, f3, f4, f5, f6⟩ := hs.obj r _ ho
          have hul := lrel_len s1
          rw [flat_len s3] at hul
          have hmin : Nat.min es.length len = es.length := Nat.min_eq_left q1
          have hlen : (2 : Nat) ^ 48 ≤ 2 ^ 62 := by decide
          have hu' := unif_splice (off := off) f5 s3
          have hfl := flat_splice f5 s3 (off := off) (by omega)
          have hrefs := (hs.obj r _ ho).refs
          have hesr := lrel_refs _ _ s1
          by_cases hn : es = []
          · subst hn
            have hus : us = [] := by cases s1; rfl
            subst hus
            have e1 : splice xs off [] = xs := splice_nil xs off
            rw [e1]
            have hset : σ.set r (.row ver i.size xs) = σ := by
              apply List.ext_getElem?
              intro k
              by_cases hk : k = r
              · subst hk; rw [List.getElem?_set_self (lt_of_some ho), ho]
              · rw [List.getElem?_set_ne (Ne.symm hk)]
            rw [hset]
            refine ⟨ρ, w, goInt 0, ?_, ok_len (n := 0) (by decide), .refl hs hc⟩
            have hfc := s5 w rfl
            simp only [List.length_nil] at hfc
            have hmin0 : Nat.min 0 len = 0 := Nat.min_eq_left (Nat.zero_le _)
            simp only [Builtin.copy_, h0, List.getElem?_toArray, List.getElem?_cons_zero, List.getElem?_cons_succ, Sem.run_bind, run_und hu, Result.andThen_ok, s4, hmin0, run_sizeOf w hi, Program.cellsOf, hi, Option.map_some, Option.getD_some, List.length_nil, hfc]
            rfl
          · have hpos : 0 < es.length := List.length_pos_iff.2 hn
            have ho' : o' = (ρ r).start + off * i.size := g4 (by omega)
            subst ho'
            have hroom : (ρ r).start + off * i.size + es.length * i.size ≤ c.size := by
              have : (off + es.length) * i.size ≤ (ρ r).cap * i.size := Nat.mul_le_mul_right _ (by omega)
              rw [Nat.add_mul] at this; omega
            obtain ⟨w', r1, r2, r3, r4, r5, r6, r7⟩ := run_storeCells_list P (ρ r).blk ((ρ r).start + off * i.size) el fz us 0 w c f1 f2 (by omega) s2
            rw [Nat.add_zero] at r7
            have hobj : ObjExt (ρ r) (ρ r) (some (.row ver i.size xs)) (some (.row ver i.size (splice xs off es))) :=
              .inr ⟨_, _, _, rfl, Nat.le_refl _, fun _ => ⟨rfl, rfl, splice_len _ _ _ (by omega)⟩⟩
            have hext : ∀ n, Ext n ρ σ w ρ (σ.set r (.row ver i.size (splice xs off es))) w' := fun n => by
              have := Ext.set (n := n) (w := w) (w' := w') (ρ := ρ) (l := ρ r) ho rfl hobj (by omega) r3 r4 r5 (fun _ => .inl rfl) (fun b _ hb => r6 b hb)
              rwa [upd_id] at this
            refine ⟨ρ, w', goInt es.length, ?_, ok_len (by omega), ?_, hext _, closed_set hc fun hlt => ?_, by simp⟩
            · simp only [Builtin.copy_, h0, List.getElem?_toArray, List.getElem?_cons_zero, List.getElem?_cons_succ, Sem.run_bind, run_und hu, Result.andThen_ok, s4, hmin, run_sizeOf w hi, Program.cellsOf, hi, Option.map_some, Option.getD_some, s5 w rfl, r1, Sem.run_pure]
            · have := Sim.set (w' := w') (l := ρ r) hs ho rfl hobj (by omega) r3 r4 r5 (fun _ => .inl rfl) (fun b _ hb => r6 b hb) (by
                rw [upd_id]
                have hsl : (splice c.toList ((ρ r).start + off * i.size) us).length = c.size := by rw [splice_len _ _ _ (by simp; omega)]; simp
                refine ⟨_, el, fz, r7, ?_, by rw [splice_len _ _ _ (by omega)]; exact f3, by simpa [hsl] using f4, hu', ?_⟩
                · intro k hk; exact f2 k (by simpa [hsl] using hk)
                · obtain ⟨xv, x1, x2, x3⟩ := flat_of_rrel f6
                  have hxl := lrel_len x2
                  rw [flat_len f5] at hxl
                  have hle : off * i.size + us.length ≤ xv.length := by
                    rw [hxl, hul, ← Nat.add_mul]; exact Nat.mul_le_mul_right _ (by omega)
                  refine rrel_of_flat (us := splice xv (off * i.size) us) (fun k hk => ?_) ?_ ?_
                  · rw [splice_len _ _ _ hle] at hk
                    have hcell : w'.cell? ⟨(ρ r).blk, (ρ r).start + k, none⟩ = (splice c.toList ((ρ r).start + off * i.size) us)[(ρ r).start + k]? := by simp [World.cell?, r7]
                    rw [hcell, splice_get _ _ _ (by simp; omega), splice_get _ _ _ hle]
                    have hold : c.toList[(ρ r).start + k]? = xv[k]? := by rw [← x1 k hk]; simp [World.cell?, f1]
                    by_cases c1 : k < off * i.size
                    · rw [if_pos (by omega), if_pos c1]; exact hold
                    · rw [if_neg (by omega), if_neg c1]
                      by_cases c2 : k < off * i.size + us.length
                      · rw [if_pos (by omega), if_pos c2]; congr 1; omega
                      · rw [if_neg (by omega), if_neg c2]; exact hold
                  · have a1 : LRel ρ σ w (flat (splice xs off es)) (splice xv (off * i.size) us) := by
                      rw [hfl]; unfold splice
                      rw [show (flat es).length = us.length from by rw [flat_len s3, hul]]
                      exact lrel_append (lrel_append (lrel_take x2 _) s1) (lrel_drop x2 _)
                    exact lrel_ext (hext σ.length) _ _ (lrel_refs _ _ a1) a1
                  · intro u hu
                    simp only [splice, List.mem_append] at hu
                    rcases hu with (hu | hu) | hu
                    · exact x3 u (List.mem_of_mem_take hu)
                    · exact s2 u hu
                    · exact x3 u (List.mem_of_mem_drop hu))
              rwa [upd_id] at this
            · have hcr := hc r _ hlt ho
              exact refsBL_splice _ _ _ _ hcr (refsL_mono (Nat.zero_le _) _ (q4.resolve_left (by omega)))
        · cases h
      · cases h
    · cases h
  · cases h
end
end Go.Abs
