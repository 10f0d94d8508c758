/-
  AN ABSTRACT SEMANTICS, 12: conversions, interfaces, maps, texts gone over, builtins.
-/
import Derived.Test.YtdjbnaleoohafaaGreatDoorAbs11
namespace Go.Abs
open Go Go.RowKit

/-- A slice's bytes as a text. -/
def bytesOf : List AV → Option (List UInt8)
  | [] => some []
  | .int .u8 n :: r => (bytesOf r).map (UInt8.ofNat n.toNat :: ·)
  | _ :: _ => none

def convA (P : Program) (σ : Heap) (src dst : TypeId) (x : AV) : Option AV :=
  match P.underlying src, P.underlying dst, x with
  | some _, some (.int k), .int _ n => some (.int k (k.wrap n))
  | some _, some .string, .int _ n => some (.str (Utf8.encode n).data.toList)
  | some _, some .string, .str s => some (.str s)
  | some _, some (.slice e), .str s => match P.underlying e with
    | some (.int .u8) => if s.length ≤ 2 ^ 46 then some (.imm (byteAVs s) [] false) else none
    | _ => none
  | some (.slice e), some .string, x => match P.underlying e with
    | some (.int .u8) => (match srcA P σ e 1 x with
      | some es => (bytesOf es).map .str
      | none => none)
    | _ => none
  | _, _, _ => none

section
variable {P : Program} {ρ : Map} {σ : Heap} {w : World}

theorem encode_len (n : Int) : (Utf8.encode n).data.toList.length ≤ 4 := by
  unfold Utf8.encode
  simp only
  generalize (if Utf8.valid n = true then n.toNat else Utf8.runeError) = c
  split
  · simp
  · split
    · simp
    · split <;> simp

theorem bytesOf_ok : ∀ {es : List AV} {us : List Value} {s : List UInt8}, bytesOf es = some s → LRel ρ σ w (flat es) us →
    us = s.map (fun c => Value.int .u8 c.toNat) ∧ s.length = es.length
  | [], us, s, h, hl => by
    simp only [bytesOf, Option.some.injEq] at h; subst h
    cases hl; exact ⟨rfl, rfl⟩
  | .int .u8 n :: r, us, s, h, hl => by
    simp only [bytesOf, Option.map_eq_some_iff] at h
    obtain ⟨t, ht, rfl⟩ := h
    obtain ⟨u, us', rfl, ⟨rfl, h1, h2⟩, h3⟩ := hl
    obtain ⟨rfl, h4⟩ := bytesOf_ok ht h3
    refine ⟨?_, by simp [h4]⟩
    simp only [List.map_cons, List.cons.injEq, Value.int.injEq, true_and, and_true]
    simp [IntKind.min, IntKind.max, IntKind.bits, IntKind.signed] at h1 h2
    have : (UInt8.ofNat n.toNat).toNat = n.toNat := by simp; omega
    rw [this]; omega

theorem run_bytes_forIn (f : Value → ByteArray → Sem (ForInStep ByteArray)) (hf : ∀ (c : UInt8) (acc : ByteArray), (f (.int .u8 c.toNat) acc).run P w = .ok (.yield (acc.push c)) w) :
    ∀ (l : List UInt8) (acc : ByteArray), (forIn (m := Sem) (l.map fun c => Value.int .u8 c.toNat) acc f).run P w = .ok ⟨acc.data ++ l.toArray⟩ w := by
  intro l
  induction l with
  | nil => intro acc; simp
  | cons c l ih =>
    intro acc
    simp only [List.map_cons, List.forIn_cons, Sem.run_bind, hf, Result.andThen_ok]
    rw [ih]
    congr 2
    apply Array.ext'
    simp [ByteArray.push]

theorem run_bytesToString {a : Option Addr} {s : List UInt8} {cap : Nat} (h : (Builtin.firstCells 1 s.length (.slice a s.length cap)).run P w = .ok ((s.map fun c => Value.int .u8 c.toNat).toArray) w) :
    (Conv.bytesToString (.slice a s.length cap)).run P w = .ok (.string ⟨s.toArray⟩) w := by
  cases a with
  | none =>
    simp only [Builtin.firstCells, Sem.run_pure, Result.ok.injEq, and_true] at h
    have hs : s = [] := by
      have := congrArg Array.size h
      simpa using this.symm
    subst hs; rfl
  | some a =>
    simp only [Builtin.firstCells, Nat.mul_one] at h
    simp only [Conv.bytesToString, Sem.run_bind, h, Result.andThen_ok]
    simp only [← Array.forIn_toList]
    rw [run_bytes_forIn _ (fun c acc => by simp) s ByteArray.empty]
    simp

theorem convA_ok {base : Nat} (hs : Sim ρ σ w) (hc : Closed base σ) {src dst : TypeId} {x av : AV} {v : Value} (hv : VRel ρ σ w x v) (h : convA P σ src dst x = some av) :
    Ret base ρ σ w av σ ((convert src dst v).run P w) := by
  unfold convA at h
  split at h
  · rename_i d k k' n hu1 hu2
    cases h
    obtain ⟨rfl, _⟩ := hv
    exact ⟨ρ, w, _, by simp [convert, run_und hu1, run_und hu2, Conv.intToInt], ok_int (wrap_range _ _), .refl hs hc⟩
  · rename_i d k n hu1 hu2
    cases h
    obtain ⟨rfl, _⟩ := hv
    refine ⟨ρ, w, _, by simp [convert, run_und hu1, run_und hu2, Conv.intToString], ⟨_, rfl, rfl, ?_⟩, .refl hs hc⟩
    have := encode_len n
    have : (4 : Nat) ≤ 2 ^ 62 := by decide
    omega
  · rename_i d s hu1 hu2
    cases h
    obtain ⟨b, rfl, hb⟩ := hv
    exact ⟨ρ, w, .string b, by simp [convert, run_und hu1, run_und hu2], ⟨b, rfl, hb⟩, .refl hs hc⟩
  · rename_i d e s hu1 hu2
    split at h
    · rename_i hue
      split at h
      · rename_i hlen
        cases h
        obtain ⟨b, rfl, hb, _⟩ := hv
        have hsz := str_size hb
        have hcut := cut_appendCap b.size 0 e (w.tape w.drawn (.appendCap b.size 0 e))
        generalize hcap : (Question.appendCap b.size 0 e).cut (w.tape w.drawn (.appendCap b.size 0 e)) = cap at hcut
        have hf : (Question.appendCap b.size 0 e).forced = false := rfl
        let cells : Array Value := (b.data.map fun c => Value.int .u8 c.toNat) ++ Array.replicate (cap - b.size) (.int .u8 0)
        let w1 : World := w.drew.alloc (.cells cells e)
        have hb1 : Below w.heap.size w w1 := ((Below.refl _ _).drew).alloc (Nat.le_refl _) _
        let w2 : World := w1.freeze { block := w.heap.size, off := cells.size } 1
        have hheap : w2.heap[w.heap.size]? = some (.cells cells e (cells.size, cells.size + 1)) := by
          have h1 : w1.heap[w.heap.size]? = some (.cells cells e) := heap_alloc_new w.drew _
          simp only [w2, World.freeze, Nat.one_ne_zero, if_false, Array.getElem?_modify, if_true, h1, Option.map_some]
          simp
        have hb2 : Below w.heap.size w w2 := by
          refine ⟨rfl, rfl, rfl, ?_, fun k hk => ?_⟩
          · have := hb1.size
            simp only [w2, World.freeze, Nat.one_ne_zero, if_false, Array.size_modify]; exact this
          · rw [← hb1.block k hk]
            simp only [w2, World.freeze, Nat.one_ne_zero, if_false, Array.getElem?_modify]
            rw [if_neg (by omega)]
        refine ⟨ρ, w2, .slice (some ⟨w.heap.size, 0, none⟩) b.size cap, ?_, ?_, .grow hs hc hb2⟩
        · simp only [convert, Sem.run_bind, run_und hu1, run_und hu2, run_und hue, Result.andThen_ok, Conv.stringToBytes, run_choose, hf, Bool.false_eq_true, if_false, hcap, run_newRow, World.drew_eq, markStringish, run_shape]
          have hsh : w1.shape? w.heap.size = some (e, cells.size) := by
            have h1 : w1.heap[w.heap.size]? = some (.cells cells e) := heap_alloc_new w.drew _
            simp [World.shape?, h1]
          have hsh' : (w.drew.alloc (.cells ((b.data.map fun c => Value.int .u8 c.toNat) ++ Array.replicate (cap - b.size) (.int .u8 0)) e)).shape? w.drew.heap.size = some (e, cells.size) := hsh
          simp only [hsh', run_freeze, Result.andThen_ok, Sem.run_pure]
          rfl
        · have hl : (byteAVs s).length = b.size := by simp [byteAVs, hsz]
          rw [← hl]
          refine vrel_imm (by simp; omega) (fun h => by cases h) (by simp [byteAVs]; omega) (fun h => by cases h) (fun _ => ⟨w.heap.size, 0, 1, rfl, fun hm => ?_, ?_, by simpa using unif_bytes s, ?_⟩)
          · have := hs.mut_lt hm; omega
          · have := hb1.size
            simp only [w2, World.freeze, Nat.one_ne_zero, if_false, Array.size_modify, w1, World.size_alloc, World.size_drew]; omega
          · rw [List.append_nil]
            have hcells := (Cells.of_block hheap).take s.length
            have htk : cells.toList.take s.length = s.map fun c => Value.int .u8 c.toNat := by
              simp only [cells, Array.toList_append, Array.toList_map, hb]
              rw [List.take_append_of_le_length (by simp), List.take_of_length_le (by simp)]
            rw [htk] at hcells
            refine rrel_of_flat hcells (by rw [flat_bytes]; exact lrel_bytes s) ?_
            intro u hu
            obtain ⟨c, _, rfl⟩ := List.mem_map.1 hu
            rfl
      · cases h
    · cases h
  · rename_i e hu1 hu2 hn1 hn2
    split at h
    · rename_i hue
      split at h
      · rename_i es hes
        simp only [Option.map_eq_some_iff] at h
        obtain ⟨s, hs', rfl⟩ := h
        obtain ⟨us, s1, s2, s3, s4, s5⟩ := srcA_ok (P := P) hs hv hes
        obtain ⟨hus, hlen⟩ := bytesOf_ok hs' s1
        subst hus
        have hx : ∃ a cap, v = .slice a s.length cap ∧ s.length ≤ 2 ^ 48 := by
          unfold srcA at hes
          split at hes
          · cases hes; simp only [VRel] at hv; subst hv; simp at hlen; subst hlen; exact ⟨_, _, rfl, by simp⟩
          · split at hes
            · cases hes; obtain ⟨a, cap, rfl, _, _, h3, _⟩ := imm_all hv; rw [hlen]; exact ⟨_, _, rfl, h3⟩
            · cases hes
          · rename_i r ver off len
            split at hes
            · rename_i sz xs hr
              split at hes
              · rename_i hq
                cases hes
                obtain ⟨g1, g2, o', rfl, g4⟩ := own_row hv (rowAt_some hr)
                simp at hlen
                have e1 : s.length = len := by omega
                rw [e1]
                exact ⟨_, _, rfl, g2⟩
              · cases hes
            · cases hes
          · rename_i s0; exact absurd rfl (hn2 s0)
          · cases hes
        obtain ⟨a, cap, rfl, hle⟩ := hx
        have h5 := s5 w rfl
        rw [← hlen] at h5
        refine ⟨ρ, w, .string ⟨s.toArray⟩, ?_, ⟨_, rfl, by simp, ?_⟩, .refl hs hc⟩
        · simp only [convert, Sem.run_bind, run_und hu1, run_und hu2, run_und hue, Result.andThen_ok]
          exact run_bytesToString h5
        · have : (2 : Nat) ^ 48 ≤ 2 ^ 62 := by decide
          omega
      · cases h
    · cases h
  · cases h
end
end Go.Abs
