/-
  AN ABSTRACT SEMANTICS, 31: operations over open lists, for what is owed.
-/
import Derived.Test.YtdjbnaleoohafaaGreatDoorAbs30
namespace Go.Abs
open Go Go.RowKit

section
variable {C : Ctx} {σ : Heap} {env : Env} {o : Oper}

theorem bytesOf_byteAVs : ∀ (s : List UInt8), bytesOf (byteAVs s) = some s
  | [] => rfl
  | c :: s => by
    have ih := bytesOf_byteAVs s
    unfold byteAVs at ih ⊢
    rw [List.map_cons]
    simp only [bytesOf, ih, Option.map_some]
    simp
theorem unif_byteAVs (s : List UInt8) : unif 1 (byteAVs s) = true := by
  unfold unif byteAVs
  rw [List.all_eq_true]
  intro x hx
  obtain ⟨c, _, rfl⟩ := List.mem_map.1 hx
  rfl

/-- Bytes turned into a text. -/
theorem opA_bytes {S D e : TypeId} {x : Operand} {s : List UInt8} {sp : List AV} {f : Bool} (ho : o.op = .convert S D x) (hx : evA C env x = .imm (byteAVs s) sp f) (hS : C.P.underlying S = some (.slice e)) (he : C.P.underlying e = some (.int .u8)) (hD : C.P.underlying D = some .string) :
    opA C 0 env σ o = some (.str s, σ) := by
  unfold opA
  rw [ho]
  simp only [hx, convA, hS, hD, he, srcA, unif_byteAVs, if_true, bytesOf_byteAVs, Option.map_some]

/-- The address of an element of a slice that stays. -/
theorem opA_index {T e : TypeId} {x i : Operand} {k : IntKind} {n : Int} {xs sp : List AV} {f : Bool} {y : AV} (ho : o.op = .indexAddr T x i) (hx : evA C env x = .imm xs sp f) (hi : evA C env i = .int k n) (hT : C.P.underlying T = some (.slice e)) (hn : 0 ≤ n)
    (hy : xs[n.toNat]? = some y) (hs : C.P.cellsOf e = y.ncells) (hp : 0 < y.ncells) : opA C 0 env σ o = some (.pimm y.cl, σ) := by
  unfold opA
  rw [ho]
  have hinf : ∃ inf, C.P.info? e = some inf ∧ inf.size = y.ncells := by
    unfold Program.cellsOf at hs
    cases h : C.P.info? e with
    | none => rw [h] at hs; simp at hs; omega
    | some inf => rw [h] at hs; exact ⟨inf, rfl, by simpa using hs⟩
  obtain ⟨inf, h1, h2⟩ := hinf
  simp only [hx, hi, indexAddrA, hT, if_pos hn, hy, h1, h2, if_true, Option.map_some]
end

theorem wrap_i64 {n : Int} (h : -9223372036854775808 ≤ n) (h' : n ≤ 9223372036854775807) : IntKind.i64.wrap n = n := by
  simp only [IntKind.wrap, IntKind.bits, IntKind.signed]; simp; split <;> omega
theorem wrap_succ {i : Nat} (h : i < 2 ^ 62) : IntKind.i64.wrap ((i : Int) + 1) = ((i + 1 : Nat) : Int) := by
  rw [wrap_i64 (by omega) (by omega)]; omega
end Go.Abs
