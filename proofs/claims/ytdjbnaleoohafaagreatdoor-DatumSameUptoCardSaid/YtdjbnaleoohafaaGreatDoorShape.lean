/-
  A DATUM'S SHAPE: what is read at its type is a datum.
-/
import Derived.Test.YtdjbnaleoohafaaGreatDoorDat
namespace Go.Proofs.YtdjbnaleoohafaaGreatDoor.Same
open Go Go.Abs
set_option maxRecDepth 100000

def fieldsOf (P : Program) (t : TypeId) : List TypeId := match P.underlying t with
  | some (.struct fs) => fs.toList.map (·.type)
  | _ => []
theorem f37 : fieldsOf CC.P 37 = [32, 4, 2, 33, 22, 34, 35] := by kernel_rfl
theorem u32 : CC.P.underlying 32 = some (.int .i64) := by kernel_rfl
theorem u4 : CC.P.underlying 4 = some .bool := by kernel_rfl
theorem u2 : CC.P.underlying 2 = some (.int .i64) := by kernel_rfl
theorem u33 : CC.P.underlying 33 = some (.int .u64) := by kernel_rfl

theorem typ_int {n : Nat} {t : TypeId} {k : IntKind} {v : AV} (hu : CC.P.underlying t = some (.int k)) (h : Typ CC.P n t v) : ∃ m, v = .int k m ∧ k.min ≤ m ∧ m ≤ k.max := by
  cases n with
  | zero => exact h.elim
  | succ n => unfold Typ at h; rw [hu] at h; exact h
theorem typ_bool {n : Nat} {t : TypeId} {v : AV} (hu : CC.P.underlying t = some .bool) (h : Typ CC.P n t v) : ∃ b, v = .bool b := by
  cases n with
  | zero => exact h.elim
  | succ n => unfold Typ at h; rw [hu] at h; exact h
theorem typ_str {n : Nat} {t : TypeId} {v : AV} (hu : CC.P.underlying t = some .string) (h : Typ CC.P n t v) : ∃ s, v = .str s ∧ s.length ≤ 2 ^ 48 := by
  cases n with
  | zero => exact h.elim
  | succ n => unfold Typ at h; rw [hu] at h; exact h
theorem typ_slice {n : Nat} {t e : TypeId} {v : AV} (hu : CC.P.underlying t = some (.slice e)) (h : Typ CC.P (n + 1) t v) : ∃ xs sp, v = .imm xs sp false ∧ xs.length + sp.length ≤ 2 ^ 48 ∧ (∀ x ∈ xs, Typ CC.P n e x) ∧ ∀ x ∈ sp, Typ CC.P n e x := by
  unfold Typ at h; rw [hu] at h; exact h

theorem bytes_of {n : Nat} : ∀ {xs : List AV}, (∀ x ∈ xs, Typ CC.P n 5 x) → ∃ s, xs = byteAVs s
  | [], _ => ⟨[], rfl⟩
  | x :: xs, h => by
    obtain ⟨s, rfl⟩ := bytes_of (xs := xs) fun y hy => h y (by simp [hy])
    obtain ⟨m, rfl, h1, h2⟩ := typ_int u5 (h x (by simp))
    have g1 : (0 : Int) ≤ m := by simpa [IntKind.min, IntKind.signed] using h1
    have g2 : m < 256 := by
      have h2 : m ≤ 255 := by simpa [IntKind.max, IntKind.signed, IntKind.bits] using h2
      omega
    refine ⟨UInt8.ofNat m.toNat :: s, ?_⟩
    simp [byteAVs]; omega
theorem strs_of {n : Nat} : ∀ {xs : List AV}, (∀ x ∈ xs, Typ CC.P n 9 x) → ∃ s : List (List UInt8), xs = s.map .str
  | [], _ => ⟨[], rfl⟩
  | x :: xs, h => by
    obtain ⟨s, rfl⟩ := strs_of (xs := xs) fun y hy => h y (by simp [hy])
    obtain ⟨m, rfl, _⟩ := typ_str u9 (h x (by simp))
    exact ⟨m :: s, rfl⟩
theorem dats_of {Q : AV → Prop} (hQ : ∀ x, Q x → ∃ d : Dat, d.ok ∧ d.av = x) : ∀ {xs : List AV}, (∀ x ∈ xs, Q x) → ∃ l, oks l ∧ xs = avs l
  | [], _ => ⟨[], trivial, rfl⟩
  | x :: xs, h => by
    obtain ⟨s, h1, rfl⟩ := dats_of hQ (xs := xs) fun y hy => h y (by simp [hy])
    obtain ⟨d, h2, rfl⟩ := hQ x (h x (by simp))
    exact ⟨d :: s, ⟨h2, h1⟩, rfl⟩
theorem refs_all {n : Nat} {e : TypeId} : ∀ {l : List AV}, (∀ x ∈ l, Typ CC.P n e x) → refsBL 0 l = true
  | [], _ => rfl
  | a :: l, h => by simp [refsBL, typ_refs n e a (h a (by simp)), refs_all (l := l) fun x hx => h x (by simp [hx])]

theorem dat_of : ∀ (n : Nat) (x : AV), Typ CC.P n 37 x → ∃ d : Dat, d.ok ∧ d.av = x
  | 0, _, h => h.elim
  | n + 1, x, h => by
    unfold Typ at h
    have hf := f37
    unfold fieldsOf at hf
    split at h
    case h_5 fs hu =>
      rw [hu] at hf
      dsimp only at hf
      obtain ⟨ps, rfl, h⟩ := h
      rw [hf] at h
      match ps, h with
      | [p1, p2, p3, p4, p5, p6, p7], ⟨h1, h2, h3, h4, h5, h6, h7, _⟩ =>
        cases n with
        | zero => exact h1.elim
        | succ n =>
        obtain ⟨k, rfl, _⟩ := typ_int u32 h1
        obtain ⟨b, rfl⟩ := typ_bool u4 h2
        obtain ⟨i, rfl, _⟩ := typ_int u2 h3
        obtain ⟨u, rfl, _⟩ := typ_int u33 h4
        obtain ⟨xs5, sp5, rfl, _, a5, b5⟩ := typ_slice u22 h5
        obtain ⟨s, rfl⟩ := bytes_of a5
        obtain ⟨xs6, sp6, rfl, l6, a6, b6⟩ := typ_slice u34 h6
        obtain ⟨ts, rfl⟩ := strs_of a6
        obtain ⟨xs7, sp7, rfl, l7, a7, b7⟩ := typ_slice u35 h7
        obtain ⟨ls, g1, rfl⟩ := dats_of (dat_of n) a7
        rw [List.length_map] at l6
        rw [avs_len] at l7
        exact ⟨.mk k b i u s sp5 ts sp6 ls sp7, ⟨by omega, by omega, refs_all b5, refs_all b6, refs_all b7, g1⟩, rfl⟩
    all_goals (first | (rename_i hu; rw [hu] at hf; simp at hf; done) | (simp_all; done) | skip)
end Go.Proofs.YtdjbnaleoohafaaGreatDoor.Same
