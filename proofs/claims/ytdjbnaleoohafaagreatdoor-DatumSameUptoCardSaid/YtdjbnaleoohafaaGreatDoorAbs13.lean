/-
  AN ABSTRACT SEMANTICS, 13: interfaces, maps, texts gone over, builtins.
-/
import Derived.Test.YtdjbnaleoohafaaGreatDoorAbs12
namespace Go.Abs
open Go Go.RowKit

def isIfaceD : TypeDesc → Bool
  | .interface _ => true
  | _ => false

def makeIfaceA (P : Program) (T : TypeId) (x : AV) : Option AV :=
  match P.underlying T with
  | some d => if isIfaceD d = true then none else some (.iface T x)
  | none => none

def zeroA (P : Program) (T : TypeId) : Option AV :=
  match P.info? T with
  | some i => i.zero.map ofConst
  | none => none

def assertA (P : Program) (x : AV) (asserted : TypeId) (ok : Bool) : Option AV :=
  let holds (v : AV) : Option AV := some (if ok then .tuple [v, .bool true] else v)
  let fails : Option AV := if ok then (zeroA P asserted).map fun z => .tuple [z, .bool false] else none
  match P.underlying asserted, x with
  | some (.interface _), .niliface => fails
  | some (.interface want), .iface t _ => match P.info? t with
    | some i => if Instr.missingMethod want i.methods = none then holds x else none
    | none => none
  | some _, .niliface => fails
  | some _, .iface t v => if t = asserted then holds v else fails
  | _, _ => none

def extractA (x : AV) (i : Nat) : Option AV :=
  match x with
  | .tuple vs => vs[i]?
  | _ => none

section
variable {P : Program} {ρ : Map} {σ : Heap} {w : World}

theorem makeIfaceA_ok {T : TypeId} {x av : AV} {v : Value} (hv : VRel ρ σ w x v) (h : makeIfaceA P T x = some av) : ∃ u, (Instr.makeInterface T v).run P w = .ok u w ∧ VRel ρ σ w av u := by
  unfold makeIfaceA at h
  split at h
  · rename_i d hu
    split at h
    · cases h
    · rename_i hd
      cases h
      refine ⟨.iface T v, ?_, v, rfl, hv⟩
      cases d <;> simp_all [isIfaceD, Instr.makeInterface, run_und hu]
  · cases h

theorem zeroA_ok {T : TypeId} {z : AV} (h : zeroA P T = some z) : ∃ v, (∀ w, (zeroValue T).run P w = .ok v w) ∧ ∀ ρ σ w, VRel ρ σ w z v := by
  unfold zeroA at h
  split at h
  · rename_i i hi
    simp only [Option.map_eq_some_iff] at h
    obtain ⟨v, hv, rfl⟩ := h
    exact ⟨v, fun w => by simp [zeroValue, typeInfo, hi, hv], fun _ _ _ => vrel_const v⟩
  · cases h

theorem assertA_ok {x av : AV} {v : Value} {xt asserted : TypeId} {ok : Bool} (hv : VRel ρ σ w x v) (h : assertA P x asserted ok = some av) :
    ∃ u, (Instr.typeAssert v xt asserted ok).run P w = .ok u w ∧ VRel ρ σ w av u := by
  have tup : ∀ (a : AV) (b : Bool) (va : Value), VRel ρ σ w a va → VRel ρ σ w (.tuple [a, .bool b]) (.tuple #[va, .bool b]) := fun a b va ha => ⟨[va, .bool b], rfl, va, _, rfl, ha, _, _, rfl, rfl, rfl⟩
  unfold assertA at h
  simp only at h
  split at h
  · rename_i ms hu
    cases ok <;> simp only [Bool.false_eq_true, if_false, if_true] at h
    · cases h
    · simp only [Option.map_eq_some_iff] at h
      obtain ⟨z, hz, rfl⟩ := h
      obtain ⟨vz, z1, z2⟩ := zeroA_ok hz
      simp only [VRel] at hv; subst hv
      exact ⟨_, by simp [Instr.typeAssert, run_und hu, z1], tup _ _ _ (z2 _ _ _)⟩
  · rename_i want t y hu
    split at h
    · rename_i i hi
      split at h
      · rename_i hm
        obtain ⟨u, rfl, hy⟩ := hv
        cases ok <;> simp only [Bool.false_eq_true, if_false, if_true, Option.some.injEq] at h <;> subst h
        · exact ⟨_, by simp [Instr.typeAssert, run_und hu, typeInfo, hi, hm], u, rfl, hy⟩
        · exact ⟨_, by simp [Instr.typeAssert, run_und hu, typeInfo, hi, hm], tup _ _ _ ⟨u, rfl, hy⟩⟩
      · cases h
    · cases h
  · rename_i d hn hu
    cases ok <;> simp only [Bool.false_eq_true, if_false, if_true] at h
    · cases h
    · simp only [Option.map_eq_some_iff] at h
      obtain ⟨z, hz, rfl⟩ := h
      obtain ⟨vz, z1, z2⟩ := zeroA_ok hz
      simp only [VRel] at hv; subst hv
      refine ⟨_, ?_, tup _ _ _ (z2 _ _ _)⟩
      simp only [Instr.typeAssert, Sem.run_bind, run_und hu, Result.andThen_ok]
      cases d <;> first | exact absurd rfl (hn _) | (simp [z1])
  · rename_i d t y hn hu
    obtain ⟨u, rfl, hy⟩ := hv
    split at h
    · rename_i ht
      subst ht
      cases ok <;> simp only [Bool.false_eq_true, if_false, if_true, Option.some.injEq] at h <;> subst h
      · refine ⟨u, ?_, hy⟩
        simp only [Instr.typeAssert, Sem.run_bind, run_und hu, Result.andThen_ok]
        cases d <;> first | exact absurd rfl (hn _) | simp
      · refine ⟨_, ?_, tup _ _ _ hy⟩
        simp only [Instr.typeAssert, Sem.run_bind, run_und hu, Result.andThen_ok]
        cases d <;> first | exact absurd rfl (hn _) | simp
    · rename_i ht
      cases ok <;> simp only [Bool.false_eq_true, if_false, if_true] at h
      · cases h
      · simp only [Option.map_eq_some_iff] at h
        obtain ⟨z, hz, rfl⟩ := h
        obtain ⟨vz, z1, z2⟩ := zeroA_ok hz
        refine ⟨_, ?_, tup _ _ _ (z2 _ _ _)⟩
        simp only [Instr.typeAssert, Sem.run_bind, run_und hu, Result.andThen_ok]
        cases d <;> first | exact absurd rfl (hn _) | (simp [z1, ht])
  · cases h

theorem extractA_ok {x av : AV} {v : Value} {i : Nat} (hv : VRel ρ σ w x v) (h : extractA x i = some av) : ∃ u, (Instr.extract v i).run P w = .ok u w ∧ VRel ρ σ w av u := by
  unfold extractA at h
  split at h
  · obtain ⟨vs, rfl, hv⟩ := hv
    obtain ⟨u, h1, h2⟩ := lrel_get hv i av h
    exact ⟨u, by simp [Instr.extract, h1], h2⟩
  · cases h

/-! Maps. -/
def keyEqA : TypeDesc → AV → AV → Option Bool
  | .int _, .int k a, .int k' b => if k = k' then some (a == b) else none
  | .string, .str a, .str b => some (a == b)
  | .bool, .bool a, .bool b => some (a == b)
  | _, _, _ => none

def findA (d : TypeDesc) (k : AV) : List (AV × AV) → Nat → Option (Option (Nat × AV))
  | [], _ => some none
  | (k', v) :: es, i => match keyEqA d k k' with
    | some true => some (some (i, v))
    | some false => findA d k es (i + 1)
    | none => none

def plainD : TypeDesc → Bool
  | .int _ | .string | .bool => true
  | _ => false

theorem keyEqA_ok {d : TypeDesc} {a b : AV} {va vb : Value} {r : Bool} (ha : VRel ρ σ w a va) (hb : VRel ρ σ w b vb) (h : keyEqA d a b = some r) :
    Instr.sameNow d va vb = some r ∧ (r = true → Instr.sameBits 10000 vb va = true) := by
  unfold keyEqA at h
  split at h
  · obtain ⟨rfl, _⟩ := ha; obtain ⟨rfl, _⟩ := hb
    split at h
    · rename_i hk; subst hk; cases h
      refine ⟨by simp [Instr.sameNow], fun h => ?_⟩
      simp only [beq_iff_eq] at h; subst h; simp [Instr.sameBits]
    · cases h
  · obtain ⟨x, rfl, hx, _⟩ := ha; obtain ⟨y, rfl, hy, _⟩ := hb
    cases h
    have e : (x == y) = (x.data.toList == y.data.toList) := by rw [beq_toListBytes]; exact bytes_beq rfl rfl
    have e' : (y == x) = (y.data.toList == x.data.toList) := by rw [beq_toListBytes]; exact bytes_beq rfl rfl
    rw [← hx, ← hy]
    refine ⟨by simp [Instr.sameNow, e], fun h => ?_⟩
    simp only [Instr.sameBits]
    rw [e']; simp only [beq_iff_eq] at h ⊢; exact h.symm
  · simp only [VRel] at ha hb; subst ha; subst hb; cases h
    refine ⟨by simp [Instr.sameNow], fun h => ?_⟩
    simp only [beq_iff_eq] at h; subst h; simp [Instr.sameBits]
  · cases h

theorem findA_ok {d : TypeDesc} {k : AV} {vk : Value} (hk : VRel ρ σ w k vk) : ∀ (es : List (AV × AV)) (en : List MapEntry) (i : Nat) (r : Option (Nat × AV)), ERel ρ σ w es en → findA d k es i = some r →
    ∃ r', Instr.findNow d vk en i = some r' ∧ match r, r' with
      | none, none => True
      | some (j, v), some (j', u) => j = j' ∧ VRel ρ σ w v u ∧ i ≤ j ∧ ∃ e, en[j - i]? = some e ∧ Instr.sameBits 10000 e.key vk = true
      | _, _ => False
  | [], en, i, r, he, h => by
    cases he
    simp only [findA, Option.some.injEq] at h; subst h
    exact ⟨none, rfl, trivial⟩
  | (k', v) :: es, _, i, r, ⟨e, en, h1, h2, h3, h4⟩, h => by
    subst h1
    simp only [findA] at h
    split at h
    · rename_i hq
      cases h
      obtain ⟨q1, q2⟩ := keyEqA_ok hk h2 hq
      exact ⟨some (i, e.val), by simp [Instr.findNow, q1], rfl, h3, Nat.le_refl _, e, by simp, q2 rfl⟩
    · rename_i hq
      obtain ⟨q1, q2⟩ := keyEqA_ok hk h2 hq
      obtain ⟨r', f1, f2⟩ := findA_ok hk es en (i + 1) r h4 h
      refine ⟨r', by simp [Instr.findNow, q1, f1], ?_⟩
      cases r with
      | none => cases r' with
        | none => trivial
        | some _ => exact f2.elim
      | some jv => cases r' with
        | none => exact f2.elim
        | some ju =>
          obtain ⟨g1, g2, g3, e', g4, g5⟩ := f2
          exact ⟨g1, g2, by omega, e', by rw [show jv.1 - i = (jv.1 - (i + 1)) + 1 from by omega, List.getElem?_cons_succ]; exact g4, g5⟩
    · cases h

theorem run_checkKey {t : TypeId} {d : TypeDesc} (hu : P.underlying t = some d) (hd : plainD d = true) (b : Bool) (n : Nat) (v : Value) : (Instr.checkKey b (n + 1) t v).run P w = .ok () w := by
  simp only [Instr.checkKey, Sem.run_bind, run_und hu, Result.andThen_ok]
  cases d <;> first | (simp [plainD] at hd; done) | (cases v <;> rfl)

def mapEntries (σ : Heap) : AV → Option (List (AV × AV))
  | .nilmap => some []
  | .map m => match σ[m]? with
    | some (.map es) => some es
    | _ => none
  | _ => none

def lookupA (P : Program) (σ : Heap) (T : TypeId) (x k : AV) (ok : Bool) : Option AV :=
  match P.underlying T with
  | some (.map kt e) => (match P.underlying kt, mapEntries σ x with
    | some d, some es => if plainD d = true then
        (match findA d k es 0 with
        | some (some (_, v)) => some (if ok then .tuple [v, .bool true] else v)
        | some none => (zeroA P e).map fun z => if ok then .tuple [z, .bool false] else z
        | none => none) else none
    | _, _ => none)
  | _ => none

theorem mapEntries_ok (hs : Sim ρ σ w) {x : AV} {v : Value} {es : List (AV × AV)} (hv : VRel ρ σ w x v) (h : mapEntries σ x = some es) :
    ∃ en : Array MapEntry, ERel ρ σ w es en.toList ∧ ((v = .map none ∧ en = #[]) ∨ ∃ b clock, v = .map (some b) ∧ w.heap[b]? = some (.map en clock)) := by
  unfold mapEntries at h
  split at h
  · cases h; simp only [VRel] at hv; subst hv
    exact ⟨#[], rfl, .inl ⟨rfl, rfl⟩⟩
  · rename_i m
    split at h
    · rename_i es' ho
      cases h
      obtain ⟨rfl, _⟩ := hv
      obtain ⟨en, clock, h1, h2⟩ := hs.obj m _ ho
      exact ⟨en, h2, .inr ⟨_, clock, rfl, h1⟩⟩
    · cases h
  · cases h

theorem lookupA_ok (hs : Sim ρ σ w) {T : TypeId} {x k av : AV} {v vk : Value} {ok : Bool} (hv : VRel ρ σ w x v) (hk : VRel ρ σ w k vk) (h : lookupA P σ T x k ok = some av) :
    ∃ u, (Instr.lookup T v vk ok).run P w = .ok u w ∧ VRel ρ σ w av u := by
  have tup : ∀ (a : AV) (b : Bool) (va : Value), VRel ρ σ w a va → VRel ρ σ w (.tuple [a, .bool b]) (.tuple #[va, .bool b]) := fun a b va ha => ⟨[va, .bool b], rfl, va, _, rfl, ha, _, _, rfl, rfl, rfl⟩
  unfold lookupA at h
  split at h
  · rename_i kt e hu
    split at h
    · rename_i d es hd hes
      split at h
      · rename_i hp
        obtain ⟨en, e1, e2⟩ := mapEntries_ok hs hv hes
        have hck := fun b v => run_checkKey (P := P) (w := w) hd hp b 9999 v
        have key : ∀ (r' : Option (Nat × Value)), Instr.findNow d vk en.toList 0 = some r' →
            (Instr.lookup T v vk ok).run P w = ((match r' with | some (_, v) => pure (v, true) | none => do pure (← zeroValue e, false) : Sem (Value × Bool)).run P w).andThen fun x w' => .ok (if ok then .tuple #[x.1, .bool x.2] else x.1) w' := by
          intro r' hf
          have hfk : (Instr.findKey kt vk en.toList).run P w = .ok r' w := by simp [Instr.findKey, run_und hd, hf]
          rcases e2 with ⟨rfl, rfl⟩ | ⟨b, clock, rfl, hh⟩
          · simp only [Instr.lookup, Sem.run_bind, run_und hu, Result.andThen_ok, Sem.run_pure, hck, hfk]
            cases r' <;> cases ok <;> simp <;> (try (cases (zeroValue e).run P w <;> rfl))
          · have hg : (getObj b).run P w = .ok (.map en clock) w := by simp [getObj, Sem.run, hh]
            simp only [Instr.lookup, Sem.run_bind, run_und hu, Result.andThen_ok, hg, Sem.run_pure, hck, hfk]
            cases r' <;> cases ok <;> simp <;> (try (cases (zeroValue e).run P w <;> rfl))
        split at h
        · rename_i j y hf
          obtain ⟨r', f1, f2⟩ := findA_ok hk es en.toList 0 _ e1 hf
          cases r' with
          | none => exact f2.elim
          | some ju =>
            obtain ⟨g1, g2, _⟩ := f2
            rw [key _ f1]
            cases ok <;> simp only [Bool.false_eq_true, if_false, if_true, Option.some.injEq] at h <;> subst h
            · exact ⟨_, rfl, g2⟩
            · exact ⟨_, rfl, tup _ _ _ g2⟩
        · rename_i hf
          obtain ⟨r', f1, f2⟩ := findA_ok hk es en.toList 0 _ e1 hf
          cases r' with
          | some _ => exact f2.elim
          | none =>
            rw [key _ f1]
            simp only [Option.map_eq_some_iff] at h
            obtain ⟨z, hz, rfl⟩ := h
            obtain ⟨vz, z1, z2⟩ := zeroA_ok hz
            cases ok
            · exact ⟨vz, by simp [z1], z2 _ _ _⟩
            · exact ⟨.tuple #[vz, .bool false], by simp [z1], tup _ _ _ (z2 _ _ _)⟩
        · cases h
      · cases h
    · cases h
  · cases h

theorem erel_append : ∀ {es fs : List (AV × AV)} {en fn : List MapEntry}, ERel ρ σ w es en → ERel ρ σ w fs fn → ERel ρ σ w (es ++ fs) (en ++ fn)
  | [], _, _, _, h, k => by cases h; exact k
  | (a, b) :: es, fs, _, _, ⟨e, en, h1, h2, h3, h4⟩, k => by subst h1; exact ⟨e, _, rfl, h2, h3, erel_append h4 k⟩
theorem erel_set {k v : AV} {vk vv : Value} (hk : VRel ρ σ w k vk) (hv : VRel ρ σ w v vv) : ∀ {es : List (AV × AV)} {en : List MapEntry} (i : Nat), ERel ρ σ w es en →
    ERel ρ σ w (es.set i (k, v)) (en.modify i fun e => { e with key := vk, val := vv })
  | [], _, i, h => by cases h; simp [ERel]
  | (a, b) :: es, _, 0, ⟨e, en, h1, h2, h3, h4⟩ => by subst h1; exact ⟨_, _, rfl, hk, hv, h4⟩
  | (a, b) :: es, _, i + 1, ⟨e, en, h1, h2, h3, h4⟩ => by
    subst h1
    exact ⟨e, en.modify i fun e => { e with key := vk, val := vv }, rfl, h2, h3, erel_set hk hv i h4⟩

def mapUpdateA (P : Program) (base : Nat) (σ : Heap) (T : TypeId) (x k v : AV) : Option Heap :=
  match P.underlying T, x with
  | some (.map kt _), .map m => (match P.underlying kt, σ[m]? with
    | some d, some (.map es) => if plainD d = true ∧ (base ≤ m ∨ (k.refsB 0 = true ∧ v.refsB 0 = true)) then
        (match findA d k es 0 with
        | some (some (i, _)) => some (σ.set m (.map (es.set i (k, v))))
        | some none => some (σ.set m (.map (es ++ [(k, v)])))
        | none => none) else none
    | _, _ => none)
  | _, _ => none

theorem run_setObj {b : Nat} {o o' : Obj} (h : w.heap[b]? = some o) (hn : ∀ c e f, o ≠ .cells c e f) : (setObj b o').run P w = .ok () { w with heap := w.heap.setIfInBounds b o' } := by
  simp only [setObj, Sem.run, h]

/-- An object that is no row of cells turns in its block. -/
theorem step_setObj {base : Nat} (hs : Sim ρ σ w) (hc : Closed base σ) {r : Nat} {o o' : AObj} {O O' : Obj} (ho : σ[r]? = some o) (ha : o.alive = true) (hh : w.heap[(ρ r).blk]? = some O)
    (he : ObjExt (ρ r) (ρ r) (some o) (some o')) (hr : ∀ w', Ext σ.length ρ σ w ρ (σ.set r o') w' → w'.heap[(ρ r).blk]? = some O' → ObjRel ρ (σ.set r o') w' r o') (hb : r < base → o'.refsB base = true) :
    Step base ρ σ w ρ (σ.set r o') { w with heap := w.heap.setIfInBounds (ρ r).blk O' } := by
  have hlt : (ρ r).blk < w.heap.size := by
    rcases Nat.lt_or_ge (ρ r).blk w.heap.size with h' | h'
    · exact h'
    · rw [Array.getElem?_eq_none h'] at hh; cases hh
  have hother : ∀ b, b < w.heap.size → b ≠ (ρ r).blk → ({ w with heap := w.heap.setIfInBounds (ρ r).blk O' } : World).heap[b]? = w.heap[b]? := fun b _ hb => Array.getElem?_setIfInBounds_ne (Ne.symm hb)
  have hsame : ({ w with heap := w.heap.setIfInBounds (ρ r).blk O' } : World).heap[(ρ r).blk]? = some O' := Array.getElem?_setIfInBounds_self_of_lt hlt
  have hext : ∀ n, Ext n ρ σ w ρ (σ.set r o') { w with heap := w.heap.setIfInBounds (ρ r).blk O' } := fun n => by
    have := Ext.set (n := n) (w := w) (w' := { w with heap := w.heap.setIfInBounds (ρ r).blk O' }) (ρ := ρ) (l := ρ r) ho ha he (by simp) rfl rfl rfl (fun _ => .inl rfl) hother
    rwa [upd_id] at this
  refine ⟨?_, hext _, closed_set hc hb, by simp⟩
  have := Sim.set (w' := { w with heap := w.heap.setIfInBounds (ρ r).blk O' }) (l := ρ r) hs ho ha he (by simp) rfl rfl rfl (fun _ => .inl rfl) hother (by rw [upd_id]; exact hr _ (hext _) hsame)
  rwa [upd_id] at this

theorem all_set {p : AV × AV → Bool} {es : List (AV × AV)} (h : es.all p = true) (i : Nat) {x : AV × AV} (hx : p x = true) : (es.set i x).all p = true := by
  simp only [List.all_eq_true] at h ⊢
  intro y hy
  rcases List.mem_or_eq_of_mem_set hy with hy | rfl
  · exact h y hy
  · exact hx

theorem mapUpdateA_ok {base : Nat} (hs : Sim ρ σ w) (hc : Closed base σ) {T : TypeId} {x k y : AV} {v vk vy : Value} {σ' : Heap} (hv : VRel ρ σ w x v) (hk : VRel ρ σ w k vk) (hy : VRel ρ σ w y vy) (h : mapUpdateA P base σ T x k y = some σ') :
    ∃ w', (Instr.mapUpdate T v vk vy).run P w = .ok () w' ∧ Step base ρ σ w ρ σ' w' := by
  unfold mapUpdateA at h
  split at h
  · rename_i kt e m hu
    split at h
    · rename_i d es hd ho
      split at h
      · rename_i hq
        obtain ⟨q1, q2⟩ := hq
        obtain ⟨rfl, _⟩ := hv
        obtain ⟨en, clock, h1, h2⟩ := hs.obj m _ ho
        have hck := fun b v => run_checkKey (P := P) (w := w) hd q1 b 9999 v
        have hg : (getObj (ρ m).blk).run P w = .ok (.map en clock) w := by simp [getObj, Sem.run, h1]
        have hrefs := (hs.obj m _ ho).refs
        have hkr := vrel_refs k _ hk
        have hyr := vrel_refs y _ hy
        split at h
        · rename_i j z hf
          cases h
          obtain ⟨r', f1, f2⟩ := findA_ok hk es en.toList 0 _ h2 hf
          cases r' with
          | none => exact f2.elim
          | some ju =>
            obtain ⟨g1, g2, _, e', g4, g5⟩ := f2
            have hfk : (Instr.findKey kt vk en.toList).run P w = .ok (some ju) w := by simp [Instr.findKey, run_und hd, f1]
            have hks : (Instr.keyThatStays (((en[ju.1]?).map (·.key)).getD vk) vk).run P w = .ok vk w := by
              have : en[ju.1]? = some e' := by rw [← g1]; simpa using g4
              simp [Instr.keyThatStays, this, g5]
            refine ⟨_, ?_, step_setObj (O' := .map (en.modify ju.1 fun e => { e with key := vk, val := vy }) clock) hs hc ho rfl h1 ⟨⟨_, rfl⟩, rfl⟩ (fun w' hx hh => ?_) (fun hlt => ?_)⟩
            · simp only [Instr.mapUpdate, Sem.run_bind, run_und hu, Result.andThen_ok, hg, hck, hfk, hks]
              exact run_setObj h1 (fun _ _ _ e => by cases e)
            · refine ⟨_, clock, hh, ?_⟩
              have a1 := erel_set hk hy ju.1 h2
              rw [g1]
              rw [g1] at hx
              rw [Array.toList_modify]
              refine erel_ext hx _ _ ?_ a1
              simp only [AObj.refsB] at hrefs ⊢
              exact all_set hrefs _ (by simp [hkr, hyr])
            · have := hc m _ hlt ho
              simp only [AObj.refsB] at this ⊢
              have q0 := q2.resolve_left (by omega)
              have q := And.intro (refs_mono (Nat.zero_le base) _ q0.1) (refs_mono (Nat.zero_le base) _ q0.2)
              exact all_set this _ (by simp [q.1, q.2])
        · rename_i hf
          cases h
          obtain ⟨r', f1, f2⟩ := findA_ok hk es en.toList 0 _ h2 hf
          cases r' with
          | some _ => exact f2.elim
          | none =>
            have hfk : (Instr.findKey kt vk en.toList).run P w = .ok none w := by simp [Instr.findKey, run_und hd, f1]
            refine ⟨_, ?_, step_setObj (O' := .map (en.push { key := vk, val := vy, born := clock }) (clock + 1)) hs hc ho rfl h1 ⟨⟨_, rfl⟩, rfl⟩ (fun w' hx hh => ?_) (fun hlt => ?_)⟩
            · simp only [Instr.mapUpdate, Sem.run_bind, run_und hu, Result.andThen_ok, hg, hck, hfk]
              exact run_setObj h1 (fun _ _ _ e => by cases e)
            · refine ⟨_, _, hh, ?_⟩
              have a1 : ERel ρ σ w (es ++ [(k, y)]) (en.push { key := vk, val := vy, born := clock }).toList := by
                rw [Array.toList_push]; exact erel_append h2 ⟨_, [], rfl, hk, hy, rfl⟩
              refine erel_ext hx _ _ ?_ a1
              simp only [AObj.refsB, List.all_append, List.all_cons, List.all_nil, Bool.and_true] at hrefs ⊢
              simp [hrefs, hkr, hyr]
            · have := hc m _ hlt ho
              have q0 := q2.resolve_left (by omega)
              have q := And.intro (refs_mono (Nat.zero_le base) _ q0.1) (refs_mono (Nat.zero_le base) _ q0.2)
              simp only [AObj.refsB, List.all_append, List.all_cons, List.all_nil, Bool.and_true] at this ⊢
              simp [this, q.1, q.2]
        · cases h
      · cases h
    · cases h
  · cases h
end
end Go.Abs
