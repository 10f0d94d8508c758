/-
  DatumSame, THE SECOND FORM's CARD: whatever the two data, up to the card's bulk, the law answers true, and its arguments read as they did.
-/
import Derived.Test.YtdjbnaleoohafaaGreatDoorCards
import Derived.Test.YtdjbnaleoohafaaGreatDoorTie
import Derived.Test.YtdjbnaleoohafaaGreatDoorLaw
import Derived.Test.YtdjbnaleoohafaaGreatDoorShape
import Derived.WalkKit
import Derived.ProofKit
import Derived.OpenShut
import Derived.LaidMore
import Derived.Lay
import Derived.Carry
import Derived.JoinedCond
import Derived.SevenTiedAt
import Derived.Stop.Joined
namespace Go.Proofs.YtdjbnaleoohafaaGreatDoor.Same
open Go Go.Abs Go.ChangeShapes Go.WideShapes Go.ChangeAt Go.RowKit

section
variable {H : Type} {enc : TypeId × Value → H} {P : Program}
/-- The row's last step, where all that is known of the world is that it went on above what there was. -/
theorem post_above {f : Func} {s : ChangeSpec} {apart fresh handsOn again : Bool} {W W' : World} {args : Array Value} {v : Value} {ds gs : List (DataW H)} {before pa pv : List MemPlace}
    (hW : DataW.Whole enc P f.params.toList s.vars apart W args.toList ds gs before)
    (hres : ∀ (b : Nat) (sp : Nat → Bool) (hd : Bool), DataW.TrodAll enc P W' b sp hd f.resultTypes.toList (v.resultList f.resultTypes.size) (s.fn H (ds ++ gs)).results [])
    (hargs : ∀ sp : Nat → Bool, (∀ p ∈ before, sp p.block = true) → DataW.TrodAll enc P W' 0 sp true f.params.toList args.toList (s.fn H (ds ++ gs)).args pa)
    (hvars : ∀ sp : Nat → Bool, (∀ p ∈ before, sp p.block = true) → DataW.TrodVars enc P W' sp s.vars (s.fn H (ds ++ gs)).vars pv)
    (hps : before = pa ++ pv) (hb : Below W.heap.size W W')
    (hok : ∀ (j : Nat) (t : TypeId) (r : Value), f.resultTypes[j]? = some t → (v.resultList f.resultTypes.size)[j]? = some r → Value.okWide P W' .any 0 t r) :
    s.post enc P f apart fresh handsOn again W args v W' := by
  have low : ∀ p ∈ before, p.block < W.heap.size := fun p hp => hW.lt p hp
  have old : ∀ p ∈ before, (fun b => decide (b < W.heap.size)) p.block = true := fun p hp => decide_eq_true (low p hp)
  refine ⟨ds, gs, before, [], pa, pv, hW, hres _ _ _, hargs _ old, hvars _ old, World.keptBut_mono (fun p hp => ⟨hp, .inr (List.mem_append.1 (hps ▸ hp))⟩) (hb.frame (· ∈ before)), fun _ => ?_⟩
  obtain ⟨_, _, _, _, _, hz, hn⟩ := hW
  refine ⟨hok, _, _, ([] ++ pa) ++ pv, ⟨[] ++ pa, pv, trodAll_append (hargs _ fun _ _ => rfl) (hres _ _ _), hvars _ fun _ _ => rfl, rfl, fun b off hp => ?_, fun ha => ?_⟩, fun p hp _ => by rw [hps]; simpa using hp⟩
  · have hin : MemPlace.cell b off ∈ before := by rw [hps]; simpa using hp
    rw [hb.frozen (low _ hin)]
    exact hz b off hin
  · have := hn ha
    rw [hps] at this
    simpa using this
end

/-- What a contract that touches nothing owned says of a world. -/
theorem pure_calls {C : Ctx} {f : FuncId} {args : List AV} {b : Bool} (h : PureOK C f args (.bool b)) (hG : ∀ g, C.G g = none) {W : World} {vs : List Value} (hl : LRel ⟨fun _ => ⟨0, 0, 0⟩, fun _ => False⟩ [] W args vs) :
    Calls C.P f vs.toArray W fun e W' => e = .returned (.bool b) ∧ Below W.heap.size W W' := by
  refine (h ⟨fun _ => ⟨0, 0, 0⟩, fun _ => False⟩ W vs ⟨fun r o h => by simp at h, fun r r' o o' h => by simp at h, fun b hb => hb.elim⟩ (fun g cs hg => by rw [hG g] at hg; cases hg) hl).mono fun e W' hp => ?_
  obtain ⟨ρ', v, rfl, hv, hst⟩ := post_iff.1 hp
  have hv : v = .bool b := hv
  subst hv
  exact ⟨rfl, hst.ext.os, hst.ext.tape, hst.ext.output, hst.ext.size, fun k hk => hst.ext.block k hk (fun ⟨r, o, h1, _⟩ => by simp at h1)⟩

mutual
theorem bulk_eq {H : Type} : ∀ d : DataW H, Rows.uptoBulk d = dbulk d
  | .lit (.string bytes) => rfl
  | .lit (.int ..) => rfl
  | .lit (.bool ..) => rfl
  | .lit (.float ..) => rfl
  | .lit .nil => rfl
  | .nil => rfl
  | .ptr d => by simp only [Rows.uptoBulk, dbulk, bulk_eq d]
  | .slice elems spare => by simp only [Rows.uptoBulk, dbulk, bulks_eq elems, bulks_eq spare]
  | .agg parts => by simp only [Rows.uptoBulk, dbulk, bulks_eq parts]
  | .iface _ d => by simp only [Rows.uptoBulk, dbulk, bulk_eq d]
  | .map entries => by simp only [Rows.uptoBulk, dbulk, bulkE_eq entries]
  | .held _ => rfl
theorem bulks_eq {H : Type} : ∀ l : List (DataW H), Rows.uptoBulkAll l = dbulks l
  | [] => rfl
  | d :: l => by simp only [Rows.uptoBulkAll, dbulks, bulk_eq d, bulks_eq l]
theorem bulkE_eq {H : Type} : ∀ l : List (Lit × DataW H), Rows.uptoBulkEntries l = dbulkE l
  | [] => rfl
  | d :: l => by simp only [Rows.uptoBulkEntries, dbulkE, bulk1_eq d, bulkE_eq l]
theorem bulk1_eq {H : Type} : ∀ x : Lit × DataW H, Rows.uptoBulkEntry x = dbulk1 x
  | (l, d) => by cases l <;> simp only [Rows.uptoBulkEntry, dbulk1, bulk_eq d]
end

theorem own : ownKnob Tryz.prog.godebug = none := by kernel_rfl
theorem okS : okTys CC.P [37, 32, 4, 2, 33, 22, 5, 34, 9, 35] = true := by kernel_rfl
theorem laidP : laidOutB Tryz.prog = true := by kernel_rfl
theorem rec37 : Tryz.prog.readableRec 37 = true := by kernel_rfl
theorem row37 : 37 < Tryz.prog.types.size := of_decide_eq_true (by kernel_rfl)

def zeroD : Value := .agg #[.int .i64 0, .bool false, .int .i64 0, .int .u64 0, .slice none 0 0, .slice none 0 0, .slice none 0 0]
/-- Is the reading as the row wants it? -/
def readsOK {H : Type} (P : Program) (f : Func) (conds : List PathCond) : Option (List (DataW H) × List (DataW H) × List MemPlace) → Bool
  | some x => conds.all (PathCond.test P ⟨f.params.toList, x.1, (Rows.OpenSpec.upto Rows.datumSameSpec).bare.plain.varTypes P, x.2.1⟩) && Rows.uptoSmall H (x.1 ++ x.2.1)
  | none => false

set_option maxRecDepth 100000 in
theorem witnessed (os : Os) (H : Type) (enc : TypeId × Value → H) :
    ∃ (w : World) (tape : Tape) (i : Input), w.os = os ∧ (w.forCall tape i).Shaped Tryz.prog ∧ i.vars = [] ∧ Input.okWide Tryz.prog (w.forCall tape i) .any w.heap.size 7 i ∧
      (((Rows.OpenSpec.upto Rows.datumSameSpec).pre enc Tryz.prog Tryz.f7 Rows.datumSameUptoRow.domain false (w.forCall tape i).memory i.args ∧ laidMetH Tryz.prog Rows.datumSameUptoRow.laid (w.forCall tape i).memory) ∧ sizedMet enc Tryz.prog Tryz.f7 (Rows.OpenSpec.upto Rows.datumSameSpec) false (w.forCall tape i).memory i.args) ∧
      ({} : Assume).holds Tryz.prog (lone (Frame.enter Tryz.prog 7 i.args .normal) [] (w.forCall tape i)) := by
  have hread : readsOK Tryz.prog Tryz.f7 Rows.datumSameUptoRow.domain (DataW.whole enc Tryz.prog ((World.laidAll Tryz.prog os Rows.datumSameUptoRow.laid).forCall (fun _ _ => 0) ⟨#[], #[zeroD, zeroD], []⟩).memory Tryz.f7.params.toList [] false [zeroD, zeroD] 8) = true := by kernel_rfl
  have hok : Input.okWideB Tryz.prog ((World.laidAll Tryz.prog os Rows.datumSameUptoRow.laid).forCall (fun _ _ => 0) ⟨#[], #[zeroD, zeroD], []⟩) 7 ⟨#[], #[zeroD, zeroD], []⟩ = true := by kernel_rfl
  have hsz : Rows.datumSameSpec.sizedB enc Tryz.prog Tryz.f7 false ((World.laidAll Tryz.prog os Rows.datumSameUptoRow.laid).forCall (fun _ _ => 0) ⟨#[], #[zeroD, zeroD], []⟩).memory #[zeroD, zeroD] 8 = true := by kernel_rfl
  refine ⟨World.laidAll Tryz.prog os Rows.datumSameUptoRow.laid, fun _ _ => 0, ⟨#[], #[zeroD, zeroD], []⟩, World.laidAll_os _ _ _, World.shaped_of_ZipB (by kernel_rfl) (by kernel_rfl), (Input.okWide_of_okWideB (base := 0) hok).1, (Input.okWide_of_okWideB hok).2,
    ⟨⟨(OpenSpec.pre_some rfl _ _ _ _).2 ?_, ?_⟩, sizedMet_of_sizedB hsz⟩, ?_⟩
  · unfold readsOK at hread
    split at hread
    · rename_i x hx
      simp only [Bool.and_eq_true] at hread
      exact ⟨x.1, x.2.1, x.2.2, DataW.Whole_of_whole hx, hread.1, hread.2⟩
    · cases hread
  · rw [MakeChecks.laidMetH_plain _ _ _ (by kernel_rfl)]; exact laidMet_laidAll _ (by kernel_rfl) (by kernel_rfl)
  · simp only [Assume.holds]
    exact ⟨by simp, by simp, by simp, by simp, by simp⟩

set_option maxRecDepth 100000 in
theorem lifted (os : Os) (started : os.Started) (H : Type) (enc : TypeId × Value → H) (F : Stop.Interp) :
    ReturnsInHanded {} Tryz.checked os 7 .any (fun w args => ((Rows.OpenSpec.upto Rows.datumSameSpec).pre enc Tryz.prog Tryz.f7 Rows.datumSameUptoRow.domain false w args ∧ laidMetH Tryz.prog Rows.datumSameUptoRow.laid w) ∧ sizedMet enc Tryz.prog Tryz.f7 (Rows.OpenSpec.upto Rows.datumSameSpec) false w args)
      (((Rows.OpenSpec.upto Rows.datumSameSpec).at F).post enc Tryz.prog Tryz.f7 false true false false) := by
  refine returnsInHanded_of_calls own started (by kernel_rfl) (witnessed os H enc) ?_
  intro w tape i _ _ _ hok hpre _
  obtain ⟨_, _, _, fn', hfn', _, _, _, _, hval0⟩ := hok
  have e : fn' = Tryz.f7 := Option.some.inj (hfn'.symm.trans Tryz.func7)
  subst e
  obtain ⟨ds, gs, before, hw0, _, hk⟩ := (OpenSpec.pre_some rfl _ _ _ _).1 hpre.1.1
  have hW : DataW.Whole enc Tryz.prog Tryz.f7.params.toList [] false (w.forCall tape i) i.args.toList ds gs before := DataW.Whole.of_heap (w' := w.forCall tape i) (by rfl) hw0
  have hval : ∀ (j : Nat) t v, Tryz.f7.params[j]? = some t → i.args[j]? = some v → Value.okWide Tryz.prog (w.forCall tape i) .any w.heap.size t v := hval0
  generalize w.forCall tape i = W at hW hval ⊢
  generalize w.heap.size = base at hval
  generalize i.args = args at hW hval ⊢
  have hW' := hW
  obtain ⟨p, q, hA0, hV, rfl, _, _⟩ := hW
  have hlt : ∀ x ∈ p ++ q, x.block < W.heap.size := fun x hx => hW'.lt x hx
  obtain ⟨rfl, rfl⟩ := trodVars_none hV
  have hA : DataW.TrodAll enc Tryz.prog W 0 (fun _ => true) true Tryz.f7.params.toList args.toList ds p := hA0
  rw [Tryz.params7] at hA hval
  have hbulk : dbulks ds ≤ 2 ^ 48 := by
    have : Rows.uptoBulkAll (ds ++ []) ≤ 1048576 := of_decide_eq_true hk
    rw [List.append_nil, bulks_eq] at this
    omega
  obtain ⟨xs, hT, hL⟩ := trodAll_typ (P := CC.P) (ρ := ⟨fun _ => ⟨0, 0, 0⟩, fun _ => False⟩) okS (fun _ => rfl) (fun _ h => h) [37, 37] args.toList ds p (by simp) hA hbulk (fun j t v h1 h2 => hval j t v (by simpa using h1) (by simpa using h2))
  match xs, hT, hL with
  | [x, y], ⟨⟨n, hx⟩, ⟨m, hy⟩, _⟩, hL =>
  obtain ⟨d, hd, rfl⟩ := dat_of n x hx
  obtain ⟨d', hd', rfl⟩ := dat_of m y hy
  have fin := pure_calls (law7 d d' hd hd') (fun _ => rfl) hL
  obtain ⟨v0, vs0, d0, ds0, p0, q0, hargs, rfl, rfl, h0, r0⟩ := trodAll_cons hA
  obtain ⟨v1, vs1, d1, ds1, p1, q1, hargs1, rfl, rfl, h1, r1⟩ := trodAll_cons r0
  obtain ⟨rfl, rfl, rfl⟩ := trodAll_nil r1
  subst hargs1
  obtain rfl : args = #[v0, v1] := by cases args; simp_all
  refine fin.mono fun e W' ⟨he, hb⟩ => ?_
  subst he
  simp only [List.append_nil] at hW' hlt
  refine ChangeSpec.post_blind (post_above (s := Rows.datumSameSpec) (pa := p0 ++ p1) (pv := []) hW' (fun _ _ _ => trodAll_mk1 (shut_bool Tryz.underlying4 _)) (fun sp hs => ?_) (fun _ _ => rfl) (by simp) hb (ok_one (by kernel_rfl) rfl (okWide_bool_mk Tryz.underlying4 _)))
  have l0 : ∀ x ∈ p0, x.block < W.heap.size := fun x hx => hlt x (by simp [hx])
  have l1 : ∀ x ∈ p1, x.block < W.heap.size := fun x hx => hlt x (by simp [hx])
  have t0 := WideElems.Trod_stays laidP rec37 row37 h0 (fun x hx => hb.same (l0 x hx)) (sp' := sp) (fun x hx => hs x (by simp [hx]))
  have t1 := WideElems.Trod_stays laidP rec37 row37 h1 (fun x hx => hb.same (l1 x hx)) (sp' := sp) (fun x hx => hs x (by simp [hx]))
  have := trodAll_cons_mk t0 (trodAll_cons_mk t1 trodAll_mk0)
  rw [List.append_nil] at this
  exact this

end Go.Proofs.YtdjbnaleoohafaaGreatDoor.Same
