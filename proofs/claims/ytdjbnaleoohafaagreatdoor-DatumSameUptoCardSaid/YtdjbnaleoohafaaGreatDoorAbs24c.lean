/-
  AN ABSTRACT SEMANTICS, 24c: the interpreter in stages: what a text says is worked out once.
-/
import Derived.Test.YtdjbnaleoohafaaGreatDoorAbs24b
import Derived.Test.YtdjbnaleoohafaaGreatDoorAbs22b
namespace Go.Abs
open Go Go.RowKit
noncomputable section

structure Arg where
  get : TM → AV
def argS (C : Ctx) : Operand → Arg
  | .tmp t => ⟨fun env => env.get t⟩
  | .const v => ⟨fun _ => ofConst v⟩
  | .global g => ⟨fun _ => evA C (fun _ => .undef) (.global g)⟩
  | .func f => ⟨fun _ => .func (.func f) [] []⟩
theorem argS_eq (C : Ctx) (x : Operand) (env : TM) : (argS C x).get env = evA C env.get x := by cases x <;> rfl

def argsS (C : Ctx) : List Operand → List Arg
  | [] => []
  | x :: l => argS C x :: argsS C l
def getArgs (l : List Arg) (env : TM) : List AV := List.rec (motive := fun _ => List AV) [] (fun a _ ih => a.get env :: ih) l
theorem getArgs_eq (C : Ctx) (env : TM) : ∀ (l : List Operand), getArgs (argsS C l) env = l.map (evA C env.get)
  | [] => rfl
  | x :: l => by
    show (argS C x).get env :: getArgs (argsS C l) env = _
    rw [argS_eq, getArgs_eq C env l]; rfl

def AV.toI : AV → Option (IntKind × Int)
  | .int k n => some (k, n)
  | _ => none

structure IntS where
  run : IntKind → Int → Int → Option AV
def intS : BinOp → IntS
  | .add => ⟨fun k a b => some (.int k (k.wrap (a + b)))⟩
  | .sub => ⟨fun k a b => some (.int k (k.wrap (a - b)))⟩
  | .eql => ⟨fun _ a b => some (.bool (a == b))⟩
  | .neq => ⟨fun _ a b => some (.bool (a != b))⟩
  | .lss => ⟨fun _ a b => some (.bool (decide (a < b)))⟩
  | .leq => ⟨fun _ a b => some (.bool (decide (a ≤ b)))⟩
  | .gtr => ⟨fun _ a b => some (.bool (decide (a > b)))⟩
  | .geq => ⟨fun _ a b => some (.bool (decide (a ≥ b)))⟩
  | op => ⟨fun k a b => intA op k a b⟩
theorem intS_eq (op : BinOp) (k : IntKind) (a b : Int) : (intS op).run k a b = intA op k a b := by cases op <;> rfl

structure BinS where
  run : AV → AV → Option AV
def intRun (s : IntS) (P : Program) (op : BinOp) (T : TypeId) (con : Bool) (x y : AV) : Option AV :=
  match x.toI, y.toI with
  | some (k, a), some (k', b) => if k = k' then s.run k a b else none
  | _, _ => binA P op T con x y
def binS (P : Program) (op : BinOp) (T : TypeId) (con : Bool) : BinS :=
  match op with
  | .shl => ⟨binA P .shl T con⟩
  | .shr => ⟨binA P .shr T con⟩
  | op => ⟨intRun (intS op) P op T con⟩
theorem toI_some {x : AV} {k : IntKind} {n : Int} (h : x.toI = some (k, n)) : x = .int k n := by
  cases x <;> simp [AV.toI] at h
  rw [h.1, h.2]
theorem intRun_eq {P : Program} {op : BinOp} {T : TypeId} {con : Bool} (h1 : op ≠ .shl) (h2 : op ≠ .shr) (x y : AV) : intRun (intS op) P op T con x y = binA P op T con x y := by
  unfold intRun
  split
  · rename_i k a k' b hx hy
    rw [toI_some hx, toI_some hy, intS_eq]
    cases op <;> first | exact absurd rfl h1 | exact absurd rfl h2 | rfl
  · rfl
theorem binS_eq (P : Program) (op : BinOp) (T : TypeId) (con : Bool) (x y : AV) : (binS P op T con).run x y = binA P op T con x y := by
  unfold binS
  split
  · rfl
  · rfl
  · rename_i h1 h2; exact intRun_eq h1 h2 x y

structure Stage where
  run : TM → Heap → Option (AV × Heap)
def keepH (σ : Heap) : Option AV → Option (AV × Heap) := Option.rec none fun v => some (v, σ)
theorem keepH_eq (σ : Heap) (x : Option AV) : keepH σ x = x.map (·, σ) := by cases x <;> rfl

def AV.toBool? : AV → Option Bool
  | .bool b => some b
  | _ => none
theorem toBool_some {v : AV} {b : Bool} (h : v.toBool? = some b) : v = .bool b := by
  cases v <;> simp [AV.toBool?] at h
  rw [h]
theorem toBool_none {v : AV} (h : v.toBool? = none) : ∀ b, v ≠ .bool b := by
  intro b e; subst e; simp [AV.toBool?] at h

def pickS (a b : AV) (σ : Heap) (c : AV) : Option (AV × Heap) :=
  match c.toBool? with
  | some true => some (a, σ)
  | some false => some (b, σ)
  | none => none
theorem pickS_eq (a b : AV) (σ : Heap) (c : AV) : pickS a b σ c = match c with
    | .bool true => some (a, σ)
    | .bool false => some (b, σ)
    | _ => none := by
  cases c with
  | bool b => cases b <;> rfl
  | _ => rfl

def stage (C : Ctx) (o : Oper) : Stage :=
  match o.op with
  | .move x => ⟨fun env σ => some ((argS C x).get env, σ)⟩
  | .assign x => ⟨fun env σ => some ((argS C x).get env, σ)⟩
  | .pick c a b => ⟨fun env σ => pickS ((argS C a).get env) ((argS C b).get env) σ ((argS C c).get env)⟩
  | .load T x => ⟨fun env σ => keepH σ (loadA C.P σ T ((argS C x).get env))⟩
  | .nilCheck x => ⟨fun env σ => keepH σ (nilCheckA σ ((argS C x).get env))⟩
  | .binOp _ _ _ (.const (.slice none 0 0)) _ => ⟨fun env σ => opA C 0 env.get σ o⟩
  | .binOp op T x y _ => ⟨fun env σ => keepH σ ((binS C.P op T (isConst x || isConst y)).run ((argS C x).get env) ((argS C y).get env))⟩
  | .unOp op _ x => ⟨fun env σ => keepH σ (unA op ((argS C x).get env))⟩
  | .convert s d x => ⟨fun env σ => keepH σ (convA C.P σ s d ((argS C x).get env))⟩
  | .fieldAddr T x f => ⟨fun env σ => keepH σ (fieldAddrA C.P σ T ((argS C x).get env) f)⟩
  | .field T x f => ⟨fun env σ => keepH σ (fieldA C.P T ((argS C x).get env) f)⟩
  | .indexAddr T x i => ⟨fun env σ => keepH σ (indexAddrA C.P σ T ((argS C x).get env) ((argS C i).get env))⟩
  | .index T x i => ⟨fun env σ => keepH σ (indexA C.P T ((argS C x).get env) ((argS C i).get env))⟩
  | .extract t i => ⟨fun env σ => keepH σ (extractA ((argS C t).get env) i)⟩
  | .call { callee := .builtin .len, args, argTypes } => match args.toList, argTypes[0]? with
    | [x], some T => ⟨fun env σ => keepH σ (lenA C.P σ T ((argS C x).get env))⟩
    | _, _ => ⟨fun env σ => opA C 0 env.get σ o⟩
  | .call { callee := .builtin b, args, argTypes } => ⟨fun env σ => builtinA C 0 σ b argTypes (getArgs (argsS C args.toList) env)⟩
  | _ => ⟨fun env σ => opA C 0 env.get σ o⟩

theorem stage_eq (C : Ctx) (o : Oper) (env : TM) (σ : Heap) : (stage C o).run env σ = opA C 0 env.get σ o := by
  unfold stage
  split
  case h_15 args ta hop =>
    split
    · rename_i x T hx hT
      unfold opA
      rw [hop]
      simp only [builtinA, hx, hT, List.map_cons, List.map_nil, argS_eq, keepH_eq]
    · rfl
  case h_7 op T x y yt hn hop =>
    unfold opA
    rw [hop]
    have hy : y ≠ .const (.slice none 0 0) := fun e => hn e
    simp only [ownNil_none hy, argS_eq, keepH_eq, binS_eq]
  all_goals (try rfl)
  all_goals
    rename_i hop
    unfold opA
    rw [hop]
    simp only [argS_eq, keepH_eq, getArgs_eq, pickS_eq]
  all_goals rfl

inductive Inst where
  | op (s : Stage) (d : Option Tmp)
  | gop (t : Tmp) (want : Bool) (s : Stage) (d : Option Tmp)
  | call (f : FuncId) (args : List Arg) (d : Option Tmp)
  | slow (o : Oper)
  | pair (o o' : Oper)

def prep1 (C : Ctx) (ops : Array Oper) (o : Oper) : Inst :=
  match o.guard with
  | some (j, want) => match (ops[j]?).bind (·.dst), o.op with
    | some t, .call { callee := .builtin _, .. } => .gop t want (stage C o) o.dst
    | _, .call _ => .slow o
    | _, .panic _ => .slow o
    | some t, _ => .gop t want (stage C o) o.dst
    | none, _ => .slow o
  | none => match o.op with
    | .call { callee := .value (.func f), args, .. } => .call f (argsS C args.toList) o.dst
    | .call { callee := .builtin _, .. } => .op (stage C o) o.dst
    | .call _ => .slow o
    | .panic _ => .slow o
    | _ => .op (stage C o) o.dst

def litShape (o o' : Oper) : Bool :=
  match o.op, o.dst, o.guard, o'.op, o'.guard with
  | .buildSlice T _ _, some d, none, .convert S D (.tmp t), none => decide (t = d ∧ S = T ∧ D = T)
  | _, _, _, _, _ => false

def prepL (C : Ctx) (ops : Array Oper) : List Oper → List Inst
  | [] => []
  | [o] => [prep1 C ops o]
  | o :: o' :: r => if litShape o o' = true then .pair o o' :: prepL C ops r else prep1 C ops o :: prepL C ops (o' :: r)

def goOn (d : Option Tmp) (env : TM) (k : TM → Heap → CRes) : Option (AV × Heap) → CRes :=
  Option.rec none fun p => Prod.rec (fun v σ' => fAV v fun v => k (env.putO d v) σ') p
/-- Behind a call. -/
def goCall (d : Option Tmp) (env : TM) (k : TM → Heap → CRes) : Option (AV × Heap) → CRes :=
  Option.rec none fun p => Prod.rec (fun v σ' => fAV v fun v => fHeap σ' fun σ' => Option.rec (motive := fun _ => CRes) (k (env.putO d v) σ') (fun q => some (.pan q, env, σ')) (panOf v)) p
def goOR (d : Option Tmp) (env : TM) (k : TM → Heap → CRes) (r : Option OR) : CRes := match r with
  | some (.val v σ') => k (env.putO d v) σ'
  | some (.pan q σ') => some (.pan q, env, σ')
  | none => none
theorem goOn_eq (d : Option Tmp) (env : TM) (k : TM → Heap → CRes) (x : Option (AV × Heap)) : goOn d env k x = goOR d env k (ofOp x) := by
  cases x with
  | none => rfl
  | some p =>
    obtain ⟨v, σ'⟩ := p
    show fAV v (fun v => k (env.putO d v) σ') = _
    rw [fAV_eq]; rfl
theorem goCall_eq (d : Option Tmp) (env : TM) (k : TM → Heap → CRes) (x : Option (AV × Heap)) : goCall d env k x = goOR d env k (ofCall x) := by
  cases x with
  | none => rfl
  | some p =>
    obtain ⟨v, σ'⟩ := p
    show fAV v (fun v => fHeap σ' fun σ' => Option.rec (motive := fun _ => CRes) (k (env.putO d v) σ') (fun q => some (.pan q, env, σ')) (panOf v)) = _
    rw [fAV_eq, fHeap_eq]
    unfold ofCall goOR
    simp only
    cases panOf v <;> rfl

def runSlow (C : Ctx) (callee : Callee) (ops : Array Oper) (o : Oper) (k : TM → Heap → CRes) (env : TM) (σ : Heap) : CRes :=
  match wantA ops o env.get with
  | some true => goOR o.dst env k (runOp C callee o env.get σ)
  | some false => k (env.putO o.dst (.tuple [])) σ
  | none => none
def runPair (C : Ctx) (o o' : Oper) (k : TM → Heap → CRes) (env : TM) (σ : Heap) : CRes :=
  match litA C env.get σ o o' with
  | some (d, x) => k ((env.put d x).putO o'.dst x) σ
  | none => none

/-- yes, no, not looked at, else. -/
def AV.toG : AV → Option (Option Bool)
  | .bool b => some (some b)
  | .tuple _ => some none
  | _ => none
theorem toG_bool {v : AV} {b : Bool} (h : v.toG = some (some b)) : v = .bool b := by
  cases v <;> simp [AV.toG] at h
  rw [h]
theorem toG_tuple {v : AV} (h : v.toG = some none) : ∃ l, v = .tuple l := by
  cases v <;> simp [AV.toG] at h
  exact ⟨_, rfl⟩

def runGop (want : Bool) (s : Stage) (d : Option Tmp) (k : TM → Heap → CRes) (env : TM) (σ : Heap) (v : AV) : CRes :=
  match v.toG with
  | some (some b) => Bool.rec (motive := fun _ => CRes) (k (env.putO d (.tuple [])) σ) (goOn d env k (s.run env σ)) (b == want)
  | some none => k (env.putO d (.tuple [])) σ
  | none => none

def runI1 (C : Ctx) (callee : Callee) (ops : Array Oper) (i : Inst) (k : TM → Heap → CRes) (env : TM) (σ : Heap) : CRes :=
  Inst.rec (motive := fun _ => CRes) (fun s d => goOn d env k (s.run env σ)) (fun t want s d => runGop want s d k env σ (env.get t)) (fun f args d => goCall d env k (callee f (getArgs args env) σ))
    (fun o => runSlow C callee ops o k env σ) (fun o o' => runPair C o o' k env σ) i

def runI (C : Ctx) (callee : Callee) (ops : Array Oper) (l : List Inst) : TM → Heap → CRes :=
  List.rec (motive := fun _ => TM → Heap → CRes) (fun env σ => some (.normal, env, σ)) (fun i _ ih env σ => runI1 C callee ops i ih env σ) l

section
variable {C : Ctx} {callee : Callee} {ops : Array Oper}

theorem litA_none {env : Env} {σ : Heap} {o o' : Oper} (h : ¬ litShape o o' = true) : litA C env σ o o' = none := by
  unfold litShape at h
  unfold litA
  split
  · rename_i h1 h2 h3 h4 h5
    simp only [h1, h2, h3, h4, h5] at h
    rw [if_neg (by simpa using h)]
  · rfl

/-- What an operation comes to, its guard ahead. -/
def opGo (C : Ctx) (callee : Callee) (ops : Array Oper) (o : Oper) (k : TM → Heap → CRes) (env : TM) (σ : Heap) (r : AExit × TM × Heap) : Prop :=
  (wantA ops o env.get = some true ∧ goOR o.dst env k (runOp C callee o env.get σ) = some r) ∨ (wantA ops o env.get = some false ∧ k (env.putO o.dst (.tuple [])) σ = some r)

/-- One instruction that is no pair does what its operation does. -/
theorem prep1_ok {o : Oper} {k : TM → Heap → CRes} {env : TM} {σ : Heap} {r : AExit × TM × Heap} (h : runI1 C callee ops (prep1 C ops o) k env σ = some r) : opGo C callee ops o k env σ r := by
  have slow : runSlow C callee ops o k env σ = some r → opGo C callee ops o k env σ r := by
    intro hs
    unfold runSlow at hs
    split at hs
    · rename_i hw; exact .inl ⟨hw, hs⟩
    · rename_i hw; exact .inr ⟨hw, hs⟩
    · cases hs
  have gop : ∀ {j : Nat} {want : Bool} {t : Tmp}, o.guard = some (j, want) → (ops[j]?).bind (·.dst) = some t → runOp C callee o env.get σ = ofOp (opA C 0 env.get σ o) → runGop want (stage C o) o.dst k env σ (env.get t) = some r → opGo C callee ops o k env σ r := by
    intro j want t hg hd hop hs
    unfold runGop at hs
    split at hs
    · rename_i b hb
      have hb := toG_bool hb
      have hwa : wantA ops o env.get = some (b == want) := by unfold wantA; simp only [hg, hd, hb]
      unfold opGo
      rw [hwa]
      cases hbw : (b == want) with
      | true =>
        rw [hbw] at hs
        have hs' : goOn o.dst env k ((stage C o).run env σ) = some r := hs
        rw [stage_eq, goOn_eq] at hs'
        exact .inl ⟨rfl, by rw [hop]; exact hs'⟩
      | false => rw [hbw] at hs; exact .inr ⟨rfl, hs⟩
    · rename_i hb
      obtain ⟨l, hb⟩ := toG_tuple hb
      have hwa : wantA ops o env.get = some false := by unfold wantA; simp only [hg, hd, hb]
      exact .inr ⟨hwa, hs⟩
    · cases hs
  unfold prep1 at h
  split at h
  · rename_i j want hg
    split at h
    · rename_i t b args ta hd hop
      exact gop hg hd (by unfold runOp; rw [hop]) h
    · exact slow h
    · exact slow h
    · rename_i t hd h1 h2 h3
      refine gop hg hd ?_ h
      unfold runOp
      split
      · rename_i hop; exact absurd hop (h2 _)
      · rename_i hop; exact absurd hop (h2 _)
      · rename_i hop; exact absurd hop (h3 _)
      · rfl
    · exact slow h
  · rename_i hg
    have hw : wantA ops o env.get = some true := by unfold wantA; rw [hg]
    split at h
    · rename_i f args ta hop
      have h' : goCall o.dst env k (callee f (getArgs (argsS C args.toList) env) σ) = some r := h
      rw [goCall_eq, getArgs_eq] at h'
      refine .inl ⟨hw, ?_⟩
      unfold runOp
      rw [hop]
      simp only [evA, List.nil_append, List.append_nil]
      exact h'
    · rename_i b args ta hop
      have h' : goOn o.dst env k ((stage C o).run env σ) = some r := h
      rw [stage_eq, goOn_eq] at h'
      refine .inl ⟨hw, ?_⟩
      unfold runOp
      rw [hop]
      simp only
      exact h'
    · exact slow h
    · exact slow h
    · rename_i h1 h2 h3 h4
      have h' : goOn o.dst env k ((stage C o).run env σ) = some r := h
      rw [stage_eq, goOn_eq] at h'
      refine .inl ⟨hw, ?_⟩
      unfold runOp
      split
      · rename_i hop; exact absurd hop (h3 _)
      · rename_i hop; exact absurd hop (h3 _)
      · rename_i hop; exact absurd hop (h4 _)
      · exact h'

theorem runI_ok : ∀ (n : Nat) (l : List Oper), l.length ≤ n → ∀ (env : TM) (σ : Heap) (r : AExit × TM × Heap), runI C callee ops (prepL C ops l) env σ = some r → runOpsL C callee ops l env σ = some r
  | n, [], _, env, σ, r, h => h
  | n, [o], _, env, σ, r, h => by
    rcases prep1_ok (k := runI C callee ops []) h with ⟨hw, h1⟩ | ⟨hw, h2⟩
    · simp only [runOpsL, runOps, hw]
      unfold goOR at h1
      split at h1
      · rename_i h3; rw [h3]; exact h1
      · rename_i h3; rw [h3]; exact h1
      · cases h1
    · simp only [runOpsL, runOps, hw]; exact h2
  | 0, o :: o' :: rest, hn, _, _, _, _ => by simp at hn
  | n + 1, o :: o' :: rest, hn, env, σ, r, h => by
    simp only [List.length_cons] at hn
    unfold prepL at h
    unfold runOpsL
    split at h
    · have h' : runPair C o o' (runI C callee ops (prepL C ops rest)) env σ = some r := h
      unfold runPair at h'
      split at h'
      · rename_i d x hl
        rw [hl]
        exact runI_ok n rest (by omega) _ _ _ h'
      · cases h'
    · rename_i hl
      rw [litA_none hl]
      rcases prep1_ok (k := runI C callee ops (prepL C ops (o' :: rest))) h with ⟨hw, h1⟩ | ⟨hw, h2⟩
      · simp only [hw]
        unfold goOR at h1
        split at h1
        · rename_i h3; rw [h3]; exact runI_ok n (o' :: rest) (by simp only [List.length_cons]; omega) _ _ _ h1
        · rename_i h3; rw [h3]; exact h1
        · cases h1
      · simp only [hw]; exact runI_ok n (o' :: rest) (by simp only [List.length_cons]; omega) _ _ _ h2
end
end
end Go.Abs
