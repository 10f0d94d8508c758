/-
  A DATUM, as a tree: what is read of one, and when two are the same.
-/
import Derived.Test.YtdjbnaleoohafaaGreatDoorSym
namespace Go.Proofs.YtdjbnaleoohafaaGreatDoor.Same
open Go Go.Abs
set_option maxRecDepth 100000

inductive Dat where
  | mk (k : Int) (b : Bool) (i u : Int) (s : List UInt8) (sp : List AV) (ts : List (List UInt8)) (tp : List AV) (ls : List Dat) (lp : List AV)

mutual
def Dat.av : Dat → AV
  | .mk k b i u s sp ts tp ls lp => .agg [.int .i64 k, .bool b, .int .i64 i, .int .u64 u, .imm (byteAVs s) sp false, .imm (ts.map .str) tp false, .imm (avs ls) lp false]
def avs : List Dat → List AV
  | [] => []
  | d :: l => d.av :: avs l
end
mutual
/-- Are two the same, part by part? -/
def same : Dat → Dat → Bool
  | .mk k b i u s _ ts _ ls _, .mk k' b' i' u' s' _ ts' _ ls' _ => decide (k = k') && decide (b = b') && decide (i = i') && decide (u = u') && decide (s = s') && decide (ts = ts') && sames ls ls'
def sames : List Dat → List Dat → Bool
  | [], [] => true
  | a :: l, b :: l' => same a b && sames l l'
  | _, _ => false
end
mutual
def Dat.ok : Dat → Prop
  | .mk _ _ _ _ _ sp ts tp ls lp => ts.length ≤ 2 ^ 48 ∧ ls.length ≤ 2 ^ 48 ∧ refsBL 0 sp = true ∧ refsBL 0 tp = true ∧ refsBL 0 lp = true ∧ oks ls
def oks : List Dat → Prop
  | [] => True
  | d :: l => d.ok ∧ oks l
end

theorem avs_len : ∀ l : List Dat, (avs l).length = l.length
  | [] => rfl
  | _ :: l => by simp [avs, avs_len l]
theorem avs_get : ∀ (l : List Dat) (i : Nat) (h : i < l.length), (avs l)[i]? = some (l[i].av)
  | d :: l, 0, _ => by simp [avs]
  | d :: l, i + 1, h => by simp only [avs, List.getElem?_cons_succ, List.getElem_cons_succ]; exact avs_get l i _
theorem oks_mem : ∀ {l : List Dat}, oks l → ∀ d ∈ l, d.ok
  | [], _, d, h => by simp at h
  | x :: l, h, d, hd => by
    unfold oks at h
    rcases List.mem_cons.1 hd with rfl | hd
    · exact h.1
    · exact oks_mem h.2 d hd
theorem refsBL_strs : ∀ l : List (List UInt8), refsBL 0 (l.map .str) = true
  | [] => rfl
  | _ :: l => by simp [refsBL, AV.refsB, refsBL_strs l]
theorem refsBL_bytes : ∀ l : List UInt8, refsBL 0 (byteAVs l) = true
  | [] => rfl
  | _ :: l => by
    have := refsBL_bytes l
    unfold byteAVs at this ⊢
    simp [refsBL, AV.refsB, this]
mutual
theorem refsB_dat : ∀ d : Dat, d.ok → d.av.refsB 0 = true
  | .mk k b i u s sp ts tp ls lp, h => by
    unfold Dat.ok at h
    have := refsB_dats ls h.2.2.2.2.2
    unfold Dat.av
    simp [AV.refsB, refsBL, refsBL_strs, refsBL_bytes, h.2.2.1, h.2.2.2.1, h.2.2.2.2.1, this]
theorem refsB_dats : ∀ l : List Dat, oks l → refsBL 0 (avs l) = true
  | [], _ => rfl
  | d :: l, h => by
    unfold oks at h
    simp [avs, refsBL, refsB_dat d h.1, refsB_dats l h.2]
end
mutual
theorem same_comm : ∀ a b : Dat, same a b = same b a
  | .mk k b i u s sp ts tp ls lp, .mk k' b' i' u' s' sp' ts' tp' ls' lp' => by
    unfold same
    rw [sames_comm ls ls']
    simp only [eq_comm]
theorem sames_comm : ∀ a b : List Dat, sames a b = sames b a
  | [], [] => rfl
  | [], _ :: _ => rfl
  | _ :: _, [] => rfl
  | a :: l, b :: l' => by
    unfold sames
    rw [same_comm a b, sames_comm l l']
end
mutual
theorem same_self : ∀ a : Dat, same a a = true
  | .mk k b i u s sp ts tp ls lp => by
    unfold same
    rw [sames_self ls]
    simp
theorem sames_self : ∀ a : List Dat, sames a a = true
  | [] => rfl
  | a :: l => by
    unfold sames
    rw [same_self a, sames_self l]; rfl
end
theorem sames_len : ∀ {a b : List Dat}, a.length ≠ b.length → sames a b = false
  | [], [], h => absurd rfl h
  | [], _ :: _, _ => rfl
  | _ :: _, [], _ => rfl
  | a :: l, b :: l', h => by
    unfold sames
    rw [sames_len (a := l) (b := l') (by simpa using h)]
    simp

/-- What is read of a datum is one. -/
theorem typ_refs {P : Program} {m : Nat} : ∀ (n : Nat) (t : TypeId) (v : AV), Typ P n t v → v.refsB m = true := by
  have lst : ∀ {Q : AV → Prop} (h : ∀ x, Q x → x.refsB m = true) (l : List AV), (∀ x ∈ l, Q x) → refsBL m l = true := by
    intro Q h l
    induction l with
    | nil => intro _; rfl
    | cons a l ih => intro hl; simp [refsBL, h a (hl a (by simp)), ih fun x hx => hl x (by simp [hx])]
  intro n
  induction n with
  | zero => intro t v h; exact h.elim
  | succ n ih =>
    intro t v h
    unfold Typ at h
    split at h
    · obtain ⟨b, rfl⟩ := h; rfl
    · obtain ⟨b, rfl, _⟩ := h; rfl
    · obtain ⟨b, rfl, _⟩ := h; rfl
    · rename_i e _
      obtain ⟨xs, sp, rfl, _, h1, h2⟩ := h
      simp [AV.refsB, lst (ih e) xs h1, lst (ih e) sp h2]
    · rename_i fs _
      obtain ⟨ps, rfl, h⟩ := h
      unfold AV.refsB
      generalize fs.toList.map (·.type) = ts at h
      induction ps generalizing ts with
      | nil => rfl
      | cons p ps ihp =>
        cases ts with
        | nil => exact h.elim
        | cons t ts =>
          rw [flat_cons]
          have h1 := ih t p h.1
          have h2 := ihp ts h.2
          have : refsBL m p.cl = true := by
            cases p <;> simp_all [AV.cl, AV.refsB, refsBL]
          rw [refsBL_append, this, h2]; rfl
    · exact h.elim
end Go.Proofs.YtdjbnaleoohafaaGreatDoor.Same
