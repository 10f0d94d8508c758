/-
  AN ABSTRACT SEMANTICS, 22b: values put into normal form before they go on: nothing is changed, the kernel has less to carry.
-/
import Derived.Test.YtdjbnaleoohafaaGreatDoorAbs22
namespace Go.Abs
open Go Go.RowKit
noncomputable section

/-- A number, a text, a value: looked at to the ground, then handed on. -/
def fNat {β : Type} (n : Nat) (k : Nat → β) : β := Nat.rec (motive := fun _ => β) (k 0) (fun m _ => k (Nat.succ m)) n
def fInt {β : Type} (n : Int) (k : Int → β) : β := Int.rec (motive := fun _ => β) (fun m => fNat m fun m => k (.ofNat m)) (fun m => fNat m fun m => k (.negSucc m)) n
def fByte {β : Type} (c : UInt8) (k : UInt8 → β) : β := fNat c.toNat fun m => k (UInt8.ofNat m)
def fStr {β : Type} (s : List UInt8) : (List UInt8 → β) → β :=
  List.rec (motive := fun _ => (List UInt8 → β) → β) (fun k => k []) (fun c _ ih k => ih fun r => fByte c fun c => k (c :: r)) s

theorem fNat_eq {β : Type} (n : Nat) (k : Nat → β) : fNat n k = k n := by cases n <;> rfl
theorem fInt_eq {β : Type} (n : Int) (k : Int → β) : fInt n k = k n := by
  cases n with
  | ofNat m => exact fNat_eq m fun m => k (.ofNat m)
  | negSucc m => exact fNat_eq m fun m => k (.negSucc m)
theorem fByte_eq {β : Type} (c : UInt8) (k : UInt8 → β) : fByte c k = k c := by
  rw [fByte, fNat_eq]; simp
theorem fStr_eq {β : Type} : ∀ (s : List UInt8) (k : List UInt8 → β), fStr s k = k s
  | [], _ => rfl
  | c :: s, k => by
    show fStr s (fun r => fByte c fun c => k (c :: r)) = _
    rw [fStr_eq s, fByte_eq]

mutual
def fAV {β : Type} : AV → (AV → β) → β
  | .undef, k => k .undef
  | .bool b, k => Bool.rec (motive := fun _ => β) (k (.bool false)) (k (.bool true)) b
  | .int t n, k => fInt n fun n => k (.int t n)
  | .float t n, k => fNat n fun n => k (.float t n)
  | .str s, k => fStr s fun s => k (.str s)
  | .nilptr, k => k .nilptr
  | .ptr o n, k => fNat o fun o => fNat n fun n => k (.ptr o n)
  | .pimm cs, k => fAVs cs fun cs => k (.pimm cs)
  | .prow a b c d, k => fNat a fun a => fNat b fun b => fNat c fun c => fNat d fun d => k (.prow a b c d)
  | .nils, k => k .nils
  | .imm xs sp f, k => fAVs xs fun xs => fAVs sp fun sp => Bool.rec (motive := fun _ => β) (k (.imm xs sp false)) (k (.imm xs sp true)) f
  | .own a b c d, k => fNat a fun a => fNat b fun b => fNat c fun c => fNat d fun d => k (.own a b c d)
  | .nilmap, k => k .nilmap
  | .map m, k => fNat m fun m => k (.map m)
  | .func f a b, k => fAVs a fun a => fAVs b fun b => k (.func f a b)
  | .nilfunc, k => k .nilfunc
  | .iface t v, k => fAV v fun v => k (.iface t v)
  | .niliface, k => k .niliface
  | .agg cs, k => fAVs cs fun cs => k (.agg cs)
  | .tuple cs, k => fAVs cs fun cs => k (.tuple cs)
def fAVs {β : Type} : List AV → (List AV → β) → β
  | [], k => k []
  | c :: cs, k => fAV c fun c => fAVs cs fun cs => k (c :: cs)
end

mutual
theorem fAV_eq {β : Type} : ∀ (v : AV) (k : AV → β), fAV v k = k v
  | .undef, _ | .nilptr, _ | .nils, _ | .nilmap, _ | .nilfunc, _ | .niliface, _ => rfl
  | .bool b, k => by simp only [fAV]; cases b <;> rfl
  | .int t n, k => by simp only [fAV, fInt_eq]
  | .float t n, k => by simp only [fAV, fNat_eq]
  | .str s, k => by simp only [fAV, fStr_eq]
  | .ptr o n, k => by simp only [fAV, fNat_eq]
  | .pimm cs, k => by simp only [fAV, fAVs_eq cs]
  | .prow a b c d, k => by simp only [fAV, fNat_eq]
  | .imm xs sp f, k => by simp only [fAV, fAVs_eq xs, fAVs_eq sp]; cases f <;> rfl
  | .own a b c d, k => by simp only [fAV, fNat_eq]
  | .map m, k => by simp only [fAV, fNat_eq]
  | .func f a b, k => by simp only [fAV, fAVs_eq a, fAVs_eq b]
  | .iface t v, k => by simp only [fAV, fAV_eq v]
  | .agg cs, k => by simp only [fAV, fAVs_eq cs]
  | .tuple cs, k => by simp only [fAV, fAVs_eq cs]
theorem fAVs_eq {β : Type} : ∀ (vs : List AV) (k : List AV → β), fAVs vs k = k vs
  | [], _ => rfl
  | c :: cs, k => by simp only [fAVs, fAV_eq c, fAVs_eq cs]
end

def fPairs {β : Type} : List (AV × AV) → (List (AV × AV) → β) → β
  | [], k => k []
  | c :: cs, k => fAV c.1 fun a => fAV c.2 fun b => fPairs cs fun cs => k ((a, b) :: cs)
theorem fPairs_eq {β : Type} : ∀ (vs : List (AV × AV)) (k : List (AV × AV) → β), fPairs vs k = k vs
  | [], _ => rfl
  | c :: cs, k => by simp only [fPairs, fAV_eq, fPairs_eq cs]

def fObj {β : Type} : AObj → (AObj → β) → β
  | .box cs, k => fAVs cs fun cs => k (.box cs)
  | .row v s xs, k => fNat v fun v => fNat s fun s => fAVs xs fun xs => k (.row v s xs)
  | .map es, k => fPairs es fun es => k (.map es)
  | .iter s p, k => fStr s fun s => fNat p fun p => k (.iter s p)
  | .dead, k => k .dead
theorem fObj_eq {β : Type} (o : AObj) (k : AObj → β) : fObj o k = k o := by
  cases o <;> simp only [fObj, fAVs_eq, fNat_eq, fPairs_eq, fStr_eq]

def fHeap {β : Type} : Heap → (Heap → β) → β
  | [], k => k []
  | c :: cs, k => fObj c fun c => fHeap cs fun cs => k (c :: cs)
theorem fHeap_eq {β : Type} : ∀ (vs : Heap) (k : Heap → β), fHeap vs k = k vs
  | [], _ => rfl
  | c :: cs, k => by simp only [fHeap, fObj_eq, fHeap_eq cs]
end
end Go.Abs
