/-
  THE WALKS OF DatumNumbers: the numbers of zigzag, there and back, by the abstract semantics (the texts Abs1 to Abs28 beside this one); and, given that the layer's own example runs as it says, that the law answers true for every number and every bits.
-/
import Derived.Test.YtflbjpocblepbaaGreatDoorAbs28
import Derived.Test.YtflbjpocblepbaaGreatDoorProg
import Derived.KernelRfl
namespace Go.Proofs.YtflbjpocblepbaaGreatDoor.Numbers
open Go Go.Abs
noncomputable def CC : Ctx := ⟨Go.Proofs.Tryz.prog, fun _ => none⟩
theorem fol : CC.P.follows .mixedOrders = true := by kernel_rfl
theorem allok : allOK CC.P = true := by kernel_rfl
theorem f4_get : CC.P.funcs[4]? = some Go.Proofs.Tryz.f4 := by kernel_rfl
theorem f5_get : CC.P.funcs[5]? = some Go.Proofs.Tryz.f5 := by kernel_rfl
theorem f6_get : CC.P.funcs[6]? = some Go.Proofs.Tryz.f6 := by kernel_rfl
theorem f7_get : CC.P.funcs[7]? = some Go.Proofs.Tryz.f7 := by kernel_rfl
def zig (n : Int) : Int := if n < 0 then -2 * n - 1 else 2 * n
def zag (x : Int) : Int := if x % 2 = 1 then -(x / 2) - 1 else x / 2
set_option maxRecDepth 100000
theorem ret_int {k : IntKind} {a b : Int} (h : a = b) {σ : Heap} : some (AV.int k a) = some (AV.int k b) ∧ σ = σ := ⟨by rw [h], rfl⟩
theorem wrap_u (n : Int) : IntKind.u64.wrap n = n % 18446744073709551616 := by simp [IntKind.wrap, IntKind.bits, IntKind.signed]
theorem wrap_i (n : Int) (h : -9223372036854775808 ≤ n) (h' : n ≤ 9223372036854775807) : IntKind.i64.wrap n = n := by
  simp only [IntKind.wrap, IntKind.bits, IntKind.signed]; simp; split <;> omega
theorem not_u (m : Int) (h : 0 ≤ m) (h' : m < 18446744073709551616) : ((BitVec.ofInt 64 18446744073709551615 ^^^ BitVec.ofInt 64 m).toNat : Int) = 18446744073709551615 - m := by
  have e : BitVec.ofInt 64 18446744073709551615 = BitVec.allOnes 64 := by decide
  rw [e, BitVec.allOnes_xor, BitVec.toNat_not]
  have : (BitVec.ofInt 64 m).toNat = m.toNat := by
    rw [BitVec.toNat_ofInt]; rw [Int.emod_eq_of_lt h (by simpa using h')]
  rw [this]; omega
theorem and_u (m : Int) (h : 0 ≤ m) (h' : m < 18446744073709551616) : ((BitVec.ofInt 64 m &&& BitVec.ofInt 64 1).toNat : Int) = m % 2 := by
  have : (BitVec.ofInt 64 m).toNat = m.toNat := by
    rw [BitVec.toNat_ofInt]; rw [Int.emod_eq_of_lt h (by simpa using h')]
  have h1 : (BitVec.ofInt 64 1).toNat = 1 := by decide
  rw [BitVec.toNat_and, this, h1, Nat.and_one_is_mod]; omega
theorem zig_ok (n : Int) (h1 : -9223372036854775808 ≤ n) (h2 : n ≤ 9223372036854775807) : PureOK CC 4 [.int .i64 n] (.int .u64 (zig n)) := by
  refine fn_wpX fol allok f4_get rfl (Nat.le_of_ble_eq_true rfl) (by decide) rfl ?_
  conv => whnf
  refine ⟨fun hb => ?_, fun hb => ?_⟩
  · conv => whnf
    have hn : n < 0 := of_decide_eq_true hb
    refine ret_int (a := IntKind.u64.wrap (((BitVec.ofInt 64 18446744073709551615 ^^^ BitVec.ofInt 64 (IntKind.u64.wrap (IntKind.u64.wrap n * 2 ^ 1))).toNat : Nat) : Int)) ?_
    rw [not_u _ (by rw [wrap_u]; omega) (by rw [wrap_u]; omega)]
    simp only [wrap_u, zig, if_pos hn]; omega
  · conv => whnf
    have hn : ¬ n < 0 := of_decide_eq_false hb
    refine ret_int (a := IntKind.u64.wrap (IntKind.u64.wrap n * 2 ^ 1)) ?_
    simp only [wrap_u, zig, if_neg hn]; omega
theorem zig2_ok (n : Int) (h1 : -9223372036854775808 ≤ n) (h2 : n ≤ 9223372036854775807) : PureOK CC 5 [.int .i64 n] (.int .u64 (zig n)) := by
  refine fn_wpX fol allok f5_get rfl (Nat.le_of_ble_eq_true rfl) (by decide) rfl ?_
  conv => whnf
  refine ⟨fun hb => ?_, fun hb => ?_⟩
  · conv => whnf
    have hn : 0 ≤ n := of_decide_eq_true hb
    refine ret_int (a := IntKind.u64.wrap (2 * IntKind.u64.wrap n)) ?_
    simp only [wrap_u, zig, if_neg (show ¬ n < 0 by omega)]; omega
  · conv => whnf
    have hn : ¬ 0 ≤ n := of_decide_eq_false hb
    refine ret_int (a := IntKind.u64.wrap (IntKind.u64.wrap (2 * IntKind.u64.wrap (IntKind.i64.wrap (0 - IntKind.i64.wrap (n + 1)))) + 1)) ?_
    rw [wrap_i (n + 1) (by omega) (by omega), wrap_i _ (by omega) (by omega)]
    simp only [wrap_u, zig, if_pos (show n < 0 by omega)]; omega
theorem wrap_s (n : Int) : IntKind.i64.wrap n = (n + 9223372036854775808) % 18446744073709551616 - 9223372036854775808 := by
  simp only [IntKind.wrap, IntKind.bits, IntKind.signed]; simp; split <;> omega
theorem zag_ok (x : Int) (h1 : 0 ≤ x) (h2 : x ≤ 18446744073709551615) : PureOK CC 6 [.int .u64 x] (.int .i64 (zag x)) := by
  refine fn_wpX fol allok f6_get rfl (Nat.le_of_ble_eq_true rfl) (by decide) rfl ?_
  conv => whnf
  refine ⟨fun hb => ?_, fun hb => ?_⟩
  · conv => whnf
    have hn : IntKind.u64.wrap ((BitVec.ofInt 64 x &&& BitVec.ofInt 64 1).toNat : Nat) = 1 := of_decide_eq_true hb
    rw [and_u _ h1 (by omega), wrap_u] at hn
    refine ret_int (a := IntKind.i64.wrap (IntKind.u64.wrap (((BitVec.ofInt 64 18446744073709551615 ^^^ BitVec.ofInt 64 (x.fdiv (2 ^ 1))).toNat : Nat) : Int))) ?_
    rw [Int.fdiv_eq_ediv_of_nonneg _ (by omega)]
    rw [not_u _ (by omega) (by omega), wrap_u, wrap_s]
    unfold zag
    rw [if_pos (by omega)]; omega
  · conv => whnf
    have hn : ¬ IntKind.u64.wrap ((BitVec.ofInt 64 x &&& BitVec.ofInt 64 1).toNat : Nat) = 1 := of_decide_eq_false hb
    rw [and_u _ h1 (by omega), wrap_u] at hn
    refine ret_int (a := IntKind.i64.wrap (x.fdiv (2 ^ 1))) ?_
    rw [Int.fdiv_eq_ediv_of_nonneg _ (by omega), wrap_s]
    unfold zag
    rw [if_neg (by omega)]; omega
theorem zag2_ok (x : Int) (h1 : 0 ≤ x) (h2 : x ≤ 18446744073709551615) : PureOK CC 7 [.int .u64 x] (.int .i64 (zag x)) := by
  refine fn_wpX fol allok f7_get rfl (Nat.le_of_ble_eq_true rfl) (by decide) rfl ?_
  conv => whnf
  refine ⟨fun hb => ?_, fun hb => ?_⟩
  · conv => whnf
    have hn : x.tmod 2 = 0 := of_decide_eq_true hb
    rw [Int.tmod_eq_emod_of_nonneg h1] at hn
    refine ret_int (a := IntKind.i64.wrap (IntKind.u64.wrap (x.tdiv 2))) ?_
    rw [Int.tdiv_eq_ediv_of_nonneg h1, wrap_u, wrap_s]
    unfold zag
    rw [if_neg (by omega)]; omega
  · conv => whnf
    have hn : ¬ x.tmod 2 = 0 := of_decide_eq_false hb
    rw [Int.tmod_eq_emod_of_nonneg h1] at hn
    refine ret_int (a := IntKind.i64.wrap (IntKind.i64.wrap (0 - IntKind.i64.wrap (IntKind.u64.wrap (x.tdiv 2))) - 1)) ?_
    rw [Int.tdiv_eq_ediv_of_nonneg h1, wrap_u, wrap_s, wrap_s, wrap_s]
    unfold zag
    rw [if_pos (by omega)]; omega
theorem zag_zig (n : Int) : zag (zig n) = n := by unfold zag zig; split <;> split <;> omega
theorem zig_zag (x : Int) (h : 0 ≤ x) : zig (zag x) = x := by unfold zag zig; split <;> split <;> omega
theorem zig_range (n : Int) (h1 : -9223372036854775808 ≤ n) (h2 : n ≤ 9223372036854775807) : 0 ≤ zig n ∧ zig n ≤ 18446744073709551615 := by unfold zig; split <;> omega
theorem zag_range (x : Int) (h1 : 0 ≤ x) (h2 : x ≤ 18446744073709551615) : -9223372036854775808 ≤ zag x ∧ zag x ≤ 9223372036854775807 := by unfold zag; split <;> omega
theorem pg : PlainG CC := fun g cs h => by cases h
theorem f3_get : CC.P.funcs[3]? = some Go.Proofs.Tryz.f3 := by kernel_rfl
theorem numbers_ok (hw : PureOK CC 8 [] (.bool true)) (n x : Int) (h1 : -9223372036854775808 ≤ n) (h2 : n ≤ 9223372036854775807) (h3 : 0 ≤ x) (h4 : x ≤ 18446744073709551615) :
    PureOK CC 3 [.int .i64 n, .int .u64 x] (.bool true) := by
  have c4 := fun (n : Int) h1 h2 => call_of_pure pg (by rfl) (by kernel_rfl) (zig_ok n h1 h2) 0 []
  have c5 := fun (n : Int) h1 h2 => call_of_pure pg (by rfl) (by kernel_rfl) (zig2_ok n h1 h2) 0 []
  have c6 := fun (n : Int) h1 h2 => call_of_pure pg (by rfl) (by kernel_rfl) (zag_ok n h1 h2) 0 []
  have c7 := fun (n : Int) h1 h2 => call_of_pure pg (by rfl) (by kernel_rfl) (zag2_ok n h1 h2) 0 []
  have c8 := call_of_pure pg (by rfl) (by kernel_rfl) hw 0 []
  have z1 := c6 (zig n) (zig_range n h1 h2).1 (zig_range n h1 h2).2
  rw [zag_zig] at z1
  have z2 := c4 (zag x) (zag_range x h3 h4).1 (zag_range x h3 h4).2
  rw [zig_zag x h3] at z2
  refine fn_wpX fol allok f3_get rfl (Nat.le_of_ble_eq_true rfl) (by decide) rfl ?_
  conv => whnf
  refine ⟨_, _, c4 n h1 h2, ?_⟩
  conv => whnf
  refine ⟨_, _, c5 n h1 h2, ?_⟩
  conv => whnf
  rw [beq_self_eq_true]
  conv => whnf
  refine ⟨_, _, c6 x h3 h4, ?_⟩
  conv => whnf
  refine ⟨_, _, c7 x h3 h4, ?_⟩
  conv => whnf
  rw [beq_self_eq_true]
  conv => whnf
  refine ⟨_, _, c4 n h1 h2, ?_⟩
  conv => whnf
  refine ⟨_, _, z1, ?_⟩
  conv => whnf
  rw [beq_self_eq_true]
  conv => whnf
  refine ⟨_, _, c6 x h3 h4, ?_⟩
  conv => whnf
  refine ⟨_, _, z2, ?_⟩
  conv => whnf
  rw [beq_self_eq_true]
  conv => whnf
  refine ⟨_, _, c8, ?_⟩
  conv => whnf
  exact ⟨rfl, rfl⟩
end Go.Proofs.YtflbjpocblepbaaGreatDoor.Numbers
