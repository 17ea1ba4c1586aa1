/- A part of an evaluator of the model and of the proof that what it answers the model does; no condition. -/
import Derived.Test.YtcjmogljihkfnaaEvC
import Derived.ProofKit
import Derived.ChangeSame
import Derived.WideKeyArgs
set_option linter.unusedVariables false
set_option linter.unusedSimpArgs false
namespace Go.Ev
set_option linter.unusedSectionVars false
variable [Atoms]
open Go.RowKit (Below) 
open Go.ChangeShapes Go.WideShapes

section
variable {H : Type} {enc : TypeId × Value → H} {P : Program}

theorem trodAll_stays (hl : laidOutB P = true) {W W' : World} {sp' : Nat → Bool} : ∀ {ts : List TypeId} {vs : List Value} {ds : List (DataW H)} {ps : List MemPlace}, (∀ t ∈ ts, P.readableRec t = true ∧ t < P.types.size) →
    DataW.TrodAll enc P W 0 (fun _ => true) true ts vs ds ps → (∀ p ∈ ps, W.sameAt W' p) → (∀ p ∈ ps, sp' p.block = true) → DataW.TrodAll enc P W' 0 sp' true ts vs ds ps
  | [], _, _, _, _, h, _, _ => by
    obtain ⟨rfl, rfl, rfl⟩ := trodAll_nil h
    exact trodAll_mk0
  | t :: ts, _, _, _, hr, h, hs, hk => by
    obtain ⟨v, vs', d, ds', p, q, rfl, rfl, rfl, h1, h2⟩ := trodAll_cons h
    obtain ⟨r1, r2⟩ := hr t List.mem_cons_self
    exact ⟨p, q, WideElems.Trod_stays hl r1 r2 h1 (fun x hx => hs x (List.mem_append_left _ hx)) (fun x hx => hk x (List.mem_append_left _ hx)),
      trodAll_stays hl (fun t ht => hr t (List.mem_cons_of_mem _ ht)) h2 (fun x hx => hs x (List.mem_append_right _ hx)) (fun x hx => hk x (List.mem_append_right _ hx)), rfl⟩

/-- a law that answers true and leaves what was there as it was -/
theorem post_true {f : Func} {s : ChangeSpec} {apart fresh handsOn again : Bool} {W W' : World} {args : Array Value} {ds gs : List (DataW H)} {before : List MemPlace} {tb : TypeId}
    (hl : laidOutB P = true) (hrd : ∀ t ∈ f.params.toList, P.readableRec t = true ∧ t < P.types.size) (hr : f.resultTypes = #[tb]) (htb : P.underlying tb = some .bool) (hv : s.vars = [])
    (hs : s.fn H (ds ++ gs) = { results := [.lit (.bool true)], args := ds })
    (hW : DataW.Whole enc P f.params.toList s.vars apart W args.toList ds gs before) (hb : Below W.heap.size W W') :
    s.post enc P f apart fresh handsOn again W args (.bool true) W' := by
  have hlt : ∀ p ∈ before, p.block < W.heap.size := fun p hp => hW.lt p hp
  have hW0 := hW
  obtain ⟨p, q, h1, h2, rfl, h3, h4⟩ := hW0
  rw [hv] at h2
  obtain ⟨rfl, rfl⟩ := trodVars_none h2
  have hall : ∀ sp' : Nat → Bool, (∀ x ∈ p, sp' x.block = true) → DataW.TrodAll enc P W' 0 sp' true f.params.toList args.toList ds p := fun sp' hsp =>
    trodAll_stays hl hrd h1 (fun x hx => hb.same (hlt x (List.mem_append_left _ hx))) hsp
  have hres : ∀ (b : Nat) (sp : Nat → Bool) (hd : Bool), DataW.TrodAll enc P W' b sp hd f.resultTypes.toList ((Value.bool true).resultList f.resultTypes.size) (s.fn H (ds ++ [])).results [] := by
    intro b sp hd
    rw [hs, hr]
    exact trodAll_mk1 (Go.RowKit.shut_bool htb true)
  have hvars : ∀ sp : Nat → Bool, DataW.TrodVars enc P W' sp s.vars (s.fn H (ds ++ [])).vars [] := by
    intro sp
    rw [hs, hv]
    rfl
  refine ⟨ds, [], p ++ [], [], p, [], hW, hres _ _ _, ?_, hvars _, hb.frame _, fun _ => ⟨Go.RowKit.ok_one hr rfl (Go.RowKit.okWide_bool_mk htb true), ?_⟩⟩
  · rw [hs]
    exact hall _ fun x hx => by simpa using hlt x (List.mem_append_left _ hx)
  · refine ⟨_, _, ([] ++ p) ++ [], ⟨[] ++ p, [], trodAll_append (hall _ fun _ _ => rfl) (hres _ _ _), hvars _, rfl, ?_, ?_⟩, ?_⟩
    · intro b off hp
      have hp' : MemPlace.cell b off ∈ p := by simpa using hp
      rw [hb.frozen (p := ⟨b, off, Option.none⟩) (hlt _ (List.mem_append_left _ hp'))]
      exact h3 b off (List.mem_append_left _ hp')
    · intro ha
      simpa using h4 ha
    · intro x hx _
      simpa using hx

theorem Rel.start (W : World) : Rel (upTo W.heap.size) W (fun _ => none) ⟨.leaf, 0⟩ W where
  below := Kept.refl _ _
  base := fun _ h => h
  dom o l h := by cases h
  obj o l h := by cases h
  sep o1 o2 l1 l2 _ h := by cases h

/-- a call that the evaluator answers with true -/
theorem Calls.of_true {W : World} {f : FuncId} {args args' : List Value} {g : List Value → Mem → Ret} (hc : CallOk P (upTo W.heap.size) W f g) {μ : Mu} {m m' : Mem} (hr : Rel (upTo W.heap.size) W μ m W) (ha : LRel μ args args')
    (hg : g args m = some (.bool true, m')) (hne : ∀ v w, (callFunc f ⟨args'⟩).run P W ≠ .ok (.value v) w) : Calls P f ⟨args'⟩ W fun e W' => e = .returned (.bool true) ∧ Below W.heap.size W W' := by
  rcases hc args m _ m' hg μ W args' hr ha with ⟨_, h2⟩ | ⟨v', w', h1, _⟩
  · refine h2.mono fun e W' ⟨v', he, μ', h3, h4, _⟩ => ?_
    cases h3
    exact ⟨he, h4.below.toBelow fun _ h => h⟩
  · exact absurd h1 (hne _ _)

end
end Go.Ev

namespace Go.Ev

/-! the evaluator, run by hand where a branch hangs on what is not known -/

section
variable {C : Ctx} {call : CallF} {fid : Nat}

def RunP (C : Ctx) (call : CallF) (fid : Nat) (c : Code) (s : Slots) (m : Mem) (Q : Ex → Slots → Mem → Prop) : Prop := ∃ e s' m', runCode C call fid c s m = some (e, s', m') ∧ Q e s' m'

def OpsP (C : Ctx) (call : CallF) (ops : Array Oper) (l : List Oper) (s : Slots) (m : Mem) (Q : Slots → Mem → Prop) : Prop := ∃ s' m', runOps C call ops l s m = some (s', m') ∧ Q s' m'

theorem RunP.seq {a b : Code} {s : Slots} {m : Mem} {Q : Ex → Slots → Mem → Prop}
    (h : RunP C call fid a s m fun e s m => match e with | .normal => RunP C call fid b s m Q | e => Q e s m) : RunP C call fid (.seq a b) s m Q := by
  obtain ⟨e, s1, m1, h1, h2⟩ := h
  cases e with
  | normal =>
    obtain ⟨e2, s2, m2, h3, h4⟩ := h2
    exact ⟨e2, s2, m2, by simp only [runCode, h1, Option.bind_some]; exact h3, h4⟩
  | exit id => exact ⟨_, s1, m1, by simp only [runCode, h1, Option.bind_some], h2⟩
  | ret => exact ⟨_, s1, m1, by simp only [runCode, h1, Option.bind_some], h2⟩

theorem RunP.region {id : Nat} {ops : Array Oper} {s : Slots} {m : Mem} {Q : Ex → Slots → Mem → Prop} (h : OpsP C call ops ops.toList s m fun s m => Q .normal s m) : RunP C call fid (.region id ops false) s m Q := by
  obtain ⟨s1, m1, h1, h2⟩ := h
  exact ⟨.normal, s1, m1, by simp only [runCode, cond_false, h1, Option.bind_some], h2⟩

theorem RunP.cond {x : Operand} {a b : Code} {s : Slots} {m : Mem} {Q : Ex → Slots → Mem → Prop} {t : Bool} (hx : s.eval x = .bool t) (h1 : t = true → RunP C call fid a s m Q) (h2 : t = false → RunP C call fid b s m Q) :
    RunP C call fid (.cond x a b) s m Q := by
  cases t with
  | true =>
    obtain ⟨e, s', m', k1, k2⟩ := h1 rfl
    exact ⟨e, s', m', by simp only [runCode, hx, cond_true]; exact k1, k2⟩
  | false =>
    obtain ⟨e, s', m', k1, k2⟩ := h2 rfl
    exact ⟨e, s', m', by simp only [runCode, hx, cond_false]; exact k1, k2⟩

theorem RunP.mono {c : Code} {s : Slots} {m : Mem} {Q Q' : Ex → Slots → Mem → Prop} (h : RunP C call fid c s m Q) (hq : ∀ e s m, Q e s m → Q' e s m) : RunP C call fid c s m Q' :=
  let ⟨e, s', m', h1, h2⟩ := h; ⟨e, s', m', h1, hq _ _ _ h2⟩

def outIs (f : Ex → Slots → Mem → Bool) (r : Out) : Bool := match r with
  | some (e, s, m) => f e s m
  | none => false

/-- the kernel runs it -/
theorem RunP.all {c : Code} {s : Slots} {m : Mem} {f : Ex → Slots → Mem → Bool} (h : outIs f (runCode C call fid c s m) = true) : RunP C call fid c s m fun e s m => f e s m = true := by
  cases hr : runCode C call fid c s m with
  | none => rw [hr] at h; cases h
  | some r =>
    obtain ⟨e, s', m'⟩ := r
    rw [hr] at h
    exact ⟨e, s', m', hr, h⟩

theorem OpsP.nil {ops : Array Oper} {s : Slots} {m : Mem} {Q : Slots → Mem → Prop} (h : Q s m) : OpsP C call ops [] s m Q := ⟨s, m, rfl, h⟩

theorem OpsP.step {ops : Array Oper} {o : Oper} {r : List Oper} {s s1 : Slots} {m m1 : Mem} {Q : Slots → Mem → Prop} (hs : stepOp C call ops o s m = some (s1, m1)) (h : OpsP C call ops r s1 m1 Q) : OpsP C call ops (o :: r) s m Q := by
  obtain ⟨s', m', h1, h2⟩ := h
  exact ⟨s', m', by simp only [runOps, hs, Option.bind_some]; exact h1, h2⟩

/-- some are run by the kernel -/
theorem OpsP.run {ops : Array Oper} : ∀ {l r : List Oper} {s s1 : Slots} {m m1 : Mem} {Q : Slots → Mem → Prop}, runOps C call ops l s m = some (s1, m1) → OpsP C call ops r s1 m1 Q → OpsP C call ops (l ++ r) s m Q
  | [], r, s, s1, m, m1, Q, h, k => by
    simp only [runOps, Option.some.injEq, Prod.mk.injEq] at h
    obtain ⟨rfl, rfl⟩ := h
    exact k
  | o :: l, r, s, s1, m, m1, Q, h, k => by
    simp only [runOps] at h
    obtain ⟨sm, h1, h⟩ := Option.bind_eq_some_iff.1 h
    obtain ⟨s2, m2⟩ := sm
    exact OpsP.step h1 (OpsP.run h k)

def Out.get (r : Option (Slots × Mem)) : Slots × Mem := match r with | some x => x | none => (⟨.leaf⟩, ⟨.leaf, 0⟩)

theorem OpsP.take {ops : Array Oper} (n : Nat) {l : List Oper} {s : Slots} {m : Mem} {Q : Slots → Mem → Prop} (h : (runOps C call ops (l.take n) s m).isSome = true)
    (k : OpsP C call ops (l.drop n) (Out.get (runOps C call ops (l.take n) s m)).1 (Out.get (runOps C call ops (l.take n) s m)).2 Q) : OpsP C call ops l s m Q := by
  rw [← List.take_append_drop n l]
  cases hr : runOps C call ops (l.take n) s m with
  | none => rw [hr] at h; cases h
  | some x =>
    rw [hr] at k
    exact OpsP.run hr k

def boolAt (d : Nat) (r : Option (Slots × Mem)) : Bool := match r with
  | some (s, _) => (match s.get d with | .bool b => b | _ => false)
  | none => false

/-- an operation that answers a Bool that is not known -/
theorem OpsP.bool {ops : Array Oper} {o : Oper} {r : List Oper} {s : Slots} {m : Mem} {Q : Slots → Mem → Prop} (d : Nat)
    (hs : stepOp C call ops o s m = some (s.put (some d) (.bool (boolAt d (stepOp C call ops o s m))), m)) (h : ∀ b, boolAt d (stepOp C call ops o s m) = b → OpsP C call ops r (s.put (some d) (.bool b)) m Q) : OpsP C call ops (o :: r) s m Q :=
  OpsP.step hs (h _ rfl)

/-- the same, the operation by its place -/
theorem OpsP.boolAt {ops : Array Oper} {l : List Oper} {s : Slots} {m : Mem} {Q : Slots → Mem → Prop} (d : Nat) {o : Oper} {r : List Oper} (hl : l = o :: r)
    (hs : stepOp C call ops o s m = some (s.put (some d) (.bool (Ev.boolAt d (stepOp C call ops o s m))), m)) (h : ∀ b, Ev.boolAt d (stepOp C call ops o s m) = b → OpsP C call ops r (s.put (some d) (.bool b)) m Q) : OpsP C call ops l s m Q := by
  subst hl
  exact OpsP.bool d hs h

/-- all that is left of a region -/
theorem OpsP.rest {ops : Array Oper} {l : List Oper} {s : Slots} {m : Mem} {Q : Slots → Mem → Prop} (h : (runOps C call ops l s m).isSome = true) (k : Q (Out.get (runOps C call ops l s m)).1 (Out.get (runOps C call ops l s m)).2) : OpsP C call ops l s m Q := by
  cases hr : runOps C call ops l s m with
  | none => rw [hr] at h; cases h
  | some x =>
    rw [hr] at k
    exact ⟨x.1, x.2, hr, k⟩

def sA : Code → Code
  | .seq a _ => a
  | c => c
def sB : Code → Code
  | .seq _ b => b
  | c => c
def ifX : Code → Operand
  | .cond x _ _ => x
  | _ => .tmp 0
def ifA : Code → Code
  | .cond _ a _ => a
  | c => c
def ifB : Code → Code
  | .cond _ _ b => b
  | c => c
def rOps : Code → Array Oper
  | .region _ ops _ => ops
  | _ => #[]
def rId : Code → Nat
  | .region id _ _ => id
  | _ => 0
def bodyOf (fn : Func) : Code := match fn.body with | some c => c | none => .skip

/-- it ends, and answers true -/
def saysTrue (C : Ctx) (rs : List ResultVar) (e : Ex) (s : Slots) (m : Mem) : Bool := match e, resV C s m rs with
  | .ret, some [.bool true] => true
  | _, _ => false

theorem saysTrue_spec {rs : List ResultVar} {e : Ex} {s : Slots} {m : Mem} (h : saysTrue C rs e s m = true) : (∀ id, e ≠ .exit id) ∧ ∃ l, resV C s m rs = some l ∧ mkRes l = .bool true := by
  unfold saysTrue at h
  split at h
  · rename_i hr
    exact ⟨fun id => (by intro q; cases q), _, hr, rfl⟩
  · cases h

/-- a whole function -/
theorem runFn_of {fn : Func} {c : Code} {args : List Value} {m : Mem} (hb : fn.body = some c) (hl : Nat.ble args.length fn.ntmps = true) {R : Value → Mem → Prop}
    (h : RunP C call fid c (initSlots args) m fun e s m => (∀ id, e ≠ .exit id) ∧ ∃ l, resV C s m fn.results.toList = some l ∧ R (mkRes l) m) : ∃ v m', runFn C call fid fn args m = some (v, m') ∧ R v m' := by
  obtain ⟨e, s, m', h1, h2, l, h3, h4⟩ := h
  refine ⟨mkRes l, m', ?_, h4⟩
  simp only [runFn, hb, hl, cond_true, h1, Option.bind_some]
  cases e with
  | exit id => exact absurd rfl (h2 id)
  | normal => simp only [h3, Option.bind_some]
  | ret => simp only [h3, Option.bind_some]

end
end Go.Ev

namespace Go.Ev
set_option linter.unusedSectionVars false
variable [Atoms]
open Go.RowKit (Below)

/-! calls that read nothing are told; what is known of values -/

section
variable {B : Nat → Prop} {w0 : World} {μ : Mu} {m : Mem} {w : World} {P : Program}

/-- what has a name is as it was where nothing old turned -/
theorem Rel.stays (h : Rel B w0 μ m w) {w' : World} (hb : Below w.heap.size w w') : Rel B w0 μ m w' where
  below := h.below.trans (Kept.of_below hb h.base)
  base := fun k hk => Nat.lt_of_lt_of_le (h.base k hk) hb.size
  dom o l e := ⟨(h.dom o l e).1, Nat.lt_of_lt_of_le (h.dom o l e).2 hb.size⟩
  obj o l e := (h.obj o l e).mono (Mu.le_refl μ) (hb.block _ (h.dom o l e).2)
  sep := h.sep

def flat1 : Value → Bool
  | .bool _ | .int _ _ | .string _ => true
  | _ => false

theorem flat1_rel {ν : Mu} {v v' : Value} (h : flat1 v = true) (hv : VRel μ v v') : VRel ν v v' := by
  cases hv with
  | bool b => exact .bool b
  | int k n => exact .int k n
  | string s => exact .string s
  | _ => cases h

/-- a function without arguments that answers v and leaves all as it is -/
def told0 (v : Value) : List Value → Mem → Ret := fun bs m => match bs with
  | [] => some (v, m)
  | _ => none

theorem CallOk.closed {f : FuncId} {g : List Value → Mem → Ret} {v : Value} {m1 : Mem} (hc : ∀ B w0, CallOk P B w0 f g) (hg : g [] ⟨.leaf, 0⟩ = some (v, m1)) (hv : flat1 v = true) (B : Nat → Prop) (w0 : World) :
    CallOk P B w0 f (told0 v) := by
  intro args m v' m' h μ w args' hr ha
  cases args with
  | cons a l => cases h
  | nil =>
    simp only [told0, Option.some.injEq, Prod.mk.injEq] at h
    obtain ⟨rfl, rfl⟩ := h
    have e := ha.nil_left
    subst e
    rcases hc (upTo w.heap.size) w [] _ _ _ hg (fun _ => none) w [] (Rel.start w) LRel.nil with ⟨h1, h2⟩ | ⟨v2, w2, h1, ν, h3, h4, _⟩
    · exact .inl ⟨h1, h2.mono fun e w' ⟨v2, he, ν, h3, h4, _⟩ => ⟨v2, he, μ, flat1_rel hv h3, hr.stays (h4.below.toBelow fun _ h => h), Ext.refl _ _⟩⟩
    · exact .inr ⟨v2, w2, h1, μ, flat1_rel hv h3, hr.stays (h4.below.toBelow fun _ h => h), Ext.refl _ _⟩

/-- the tables, and what is known of values -/
def Ctx.knows (C : Ctx) (fact : BinOp → Value → Value → Option Value) (len : Nat → Option Value) (kind : Nat → Option Bool) : Ctx := { C with fact := fact, len := len, kind := kind }

theorem Ctx.Ok.knows {C : Ctx} (h : C.Ok P) {fact : BinOp → Value → Value → Option Value} {len : Nat → Option Value} {kind : Nat → Option Bool}
    (hf : ∀ op x y v, fact op x y = some v → ∃ x1 y1, Res x x1 ∧ Res y y1 ∧ ((∃ k m n, x1 = .int k m ∧ y1 = .int k n ∧ intOp op k m n = some v) ∨ ∃ s t, x1 = .string s ∧ y1 = .string t ∧ strOp op s t = some v))
    (hl : ∀ j v, len j = some v → ∃ s : ByteArray, Atoms.val j = .string s ∧ ∀ μ, VRel μ v (.int .i64 s.data.size))
    (hk : ∀ j b, kind j = some b → (b = true → ∃ s, Atoms.val j = .string s) ∧ (b = false → ∃ k n, Atoms.val j = .int k n)) : (C.knows fact len kind).Ok P where
  facts := hf
  kinds := hk
  lens := hl
  types := h.types
  zero := h.zero

theorem Ctx.EqOk.knows {C : Ctx} (h : C.EqOk P) (fact : BinOp → Value → Value → Option Value) (len : Nat → Option Value) (kind : Nat → Option Bool) : (C.knows fact len kind).EqOk P := ⟨h.stood, h.guard⟩

theorem selfOk_knows (C : Ctx) (fact : BinOp → Value → Value → Option Value) (len : Nat → Option Value) (kind : Nat → Option Bool) (ops : Array Oper) (q : Nat) : selfOk (C.knows fact len kind) ops q = selfOk C ops q := rfl
theorem okFloats_knows (C : Ctx) (fact : BinOp → Value → Value → Option Value) (len : Nat → Option Value) (kind : Nat → Option Bool) (ops : Array Oper) (bef : Nat → Nat) (M : Nat) : ∀ (l D : List Nat), okFloats (C.knows fact len kind) ops bef M D l = okFloats C ops bef M D l
  | [], _ => rfl
  | q :: r, D => by simp only [okFloats, selfOk_knows, okFloats_knows C fact len kind ops bef M r]
theorem okReads_knows (C : Ctx) (fact : BinOp → Value → Value → Option Value) (len : Nat → Option Value) (kind : Nat → Option Bool) (ops : Array Oper) (M : Nat) (ag D : List Nat) : okReads (C.knows fact len kind) ops M ag D = okReads C ops M ag D := rfl
theorem okRest_knows (C : Ctx) (fact : BinOp → Value → Value → Option Value) (len : Nat → Option Value) (kind : Nat → Option Bool) (ops : Array Oper) (bef : Nat → Nat) : ∀ (l : List Phase) (D : List Nat), okRest (C.knows fact len kind) ops bef D l = okRest C ops bef D l
  | [], _ => rfl
  | q :: r, D => by simp only [okRest, okFloats_knows, okReads_knows, okRest_knows C fact len kind ops bef r]
theorem okPlan_knows (C : Ctx) (fact : BinOp → Value → Value → Option Value) (len : Nat → Option Value) (kind : Nat → Option Bool) (nt : Nat) (ops : Array Oper) (T : Tree Nat) (pl : Plan) : okPlan (C.knows fact len kind) nt ops T pl = okPlan C nt ops T pl := by
  simp only [okPlan, okFloats_knows, okReads_knows, okRest_knows]

theorem codeOk_knows (C : Ctx) (fact : BinOp → Value → Value → Option Value) (len : Nat → Option Value) (kind : Nat → Option Bool) (M : Nat → Nat → Tree Nat) (nt fid : Nat) : ∀ c : Code, codeOk (C.knows fact len kind) M nt fid c = codeOk C M nt fid c := by
  intro c
  induction c with
  | seq a b iha ihb => simp only [codeOk, iha, ihb]
  | cond x a b iha ihb => simp only [codeOk, iha, ihb]
  | block i b ih => simp only [codeOk, ih]
  | loop b ih => simp only [codeOk, ih]
  | region id ops d =>
    simp only [codeOk]
    have : (C.knows fact len kind).plans = C.plans := rfl
    rw [this]
    cases d with
    | false => rfl
    | true =>
      simp only [cond_true]
      cases C.plans fid id with
      | none => rfl
      | some pl => exact okPlan_knows C fact len kind nt ops (M fid id) pl
  | _ => rfl

theorem FunsOk.knows {C : Ctx} {M : Nat → Nat → Tree Nat} (h : FunsOk C M P) (fact : BinOp → Value → Value → Option Value) (len : Nat → Option Value) (kind : Nat → Option Bool) : FunsOk (C.knows fact len kind) M P where
  at_ f fn hf := by
    obtain ⟨h1, h2, h3⟩ := h.at_ f fn hf
    exact ⟨h1, h2, fun c hc => by rw [codeOk_knows]; exact h3 c hc⟩

theorem Res.atom (j : Nat) : Res (Ev.atom j) (Atoms.val j) := by
  intro μ x' h
  cases h
  rfl
theorem Res.int (k : IntKind) (n : Int) : Res (.int k n) (.int k n) := by
  intro μ x' h
  cases h
  rfl
theorem Res.string (s : ByteArray) : Res (.string s) (.string s) := by
  intro μ x' h
  cases h
  rfl

def isTrue : Ret → Bool
  | some (.bool true, _) => true
  | _ => false
theorem isTrue_spec {r : Ret} (h : isTrue r = true) : ∃ m', r = some (.bool true, m') := by
  unfold isTrue at h
  split at h
  · exact ⟨_, rfl⟩
  · cases h

def isAtom (j : Nat) : Value → Bool
  | .pointer (some ⟨i, o, some k⟩) => Nat.beq i j && (Nat.beq o 0 && Nat.beq k 0)
  | _ => false
theorem isAtom_spec {j : Nat} {v : Value} (h : isAtom j v = true) : v = Ev.atom j := by
  unfold isAtom at h
  split at h
  · rename_i i o k
    simp only [Bool.and_eq_true, Nat.beq_eq] at h
    obtain ⟨rfl, rfl, rfl⟩ := h
    rfl
  · cases h
def isNilS : Value → Bool
  | .string s => (match s.data.toList with | [] => true | _ => false)
  | _ => false
theorem isNilS_spec {v : Value} (h : isNilS v = true) : v = .string ⟨⟨[]⟩⟩ := by
  unfold isNilS at h
  split at h
  · rename_i s
    split at h
    · rename_i hs
      obtain ⟨⟨l⟩⟩ := s
      simp only at hs
      rw [hs]
    · cases h
  · cases h
def isInt (n : Int) : Value → Bool
  | .int .i64 m => decide (m = n)
  | _ => false
theorem isInt_spec {n : Int} {v : Value} (h : isInt n v = true) : v = .int .i64 n := by
  unfold isInt at h
  split at h
  · rw [of_decide_eq_true h]
  · cases h

/-- how a comparison of strings ends -/
def cmpS (op : BinOp) (lt eq : Bool) : Option Value :=
  match op with
  | .eql => some (.bool eq)
  | .neq => some (.bool !eq)
  | .lss => some (.bool lt)
  | .leq => some (.bool (lt || eq))
  | .gtr => some (.bool (!(lt || eq)))
  | .geq => some (.bool !lt)
  | _ => none

theorem cmpS_sound {op : BinOp} {s t : ByteArray} {v : Value} {lt eq : Bool} (h1 : strLess s.data.toList t.data.toList = lt) (h2 : strEq s.data.toList t.data.toList = eq) (h3 : strLess t.data.toList s.data.toList = !(lt || eq)) (h : cmpS op lt eq = some v) : strOp op s t = some v := by
  cases op <;> first
    | (cases h; done)
    | (simp only [cmpS, Option.some.injEq] at h; subst h; simp only [strOp, h1, h2, h3, Bool.not_not])

theorem strEq_same : ∀ l : List UInt8, strEq l l = true
  | [] => rfl
  | a :: r => by simp [strEq, strEq_same r]
theorem strLess_same : ∀ l : List UInt8, strLess l l = false
  | [] => rfl
  | a :: r => by
    have : Nat.blt a.toNat a.toNat = false := by
      cases h : Nat.blt a.toNat a.toNat with
      | false => rfl
      | true => exact absurd (Nat.le_of_ble_eq_true h) (by omega)
    simp [strLess, strLess_same r, this]

end
end Go.Ev

namespace Go.Ev
set_option linter.unusedSectionVars false
variable [Atoms]
open Go.RowKit (Below)

/-! a loop whose number of rounds is not known, checked round by round -/

def seqs : List Code → Code → Code
  | [], c => c
  | a :: l, c => .seq a (seqs l c)

def runL (C : Ctx) (call : CallF) (fid : Nat) : List Code → Slots → Mem → Option (Slots × Mem)
  | [], s, m => some (s, m)
  | c :: l, s, m => match runCode C call fid c s m with
    | some (.normal, s, m) => runL C call fid l s m
    | _ => none

/-- what a piece of code does at the evaluator the program does -/
def Sound (P : Program) (B : Nat → Prop) (w0 : World) (nt : Nat) (C : Ctx) (call : CallF) (fid : Nat) (c : Code) : Prop :=
  ∀ {μ : Mu} {m m' : Mem} {w : World} {s s' : Slots} {a : Act} {e : Ex} {Q : Exit → Act → World → Prop}, Rel B w0 μ m w → SRel μ nt s a →
    runCode C call fid c s m = some (e, s', m') → (∀ a' w' μ', SRel μ' nt s' a' → Rel B w0 μ' m' w' → Q (exOf e) a' w') → c.wp P Q a w

section
variable {B : Nat → Prop} {w0 : World} {P : Program} {nt fid : Nat}

theorem sound_of {C : Ctx} (hC : C.Ok P) (hE : C.EqOk P) (hm : P.follows .mixedOrders = true) {M : Nat → Nat → Tree Nat} {call : CallF} (hcall : ∀ f, CallOk P B w0 f (call f)) {c : Code} (hc : codeOk C M nt fid c = true) :
    Sound P B w0 nt C call fid c := fun hr hs h hQ => code_sound hC hE hm hcall c hc hr hs h fun a' w' μ' q1 q2 _ => hQ a' w' μ' q1 q2

theorem wp_seqs {C : Ctx} {call : CallF} : ∀ {l : List Code} {c : Code} {μ : Mu} {m m' : Mem} {w : World} {s s' : Slots} {a : Act} {Q : Exit → Act → World → Prop}, (∀ x ∈ l, Sound P B w0 nt C call fid x) → Rel B w0 μ m w → SRel μ nt s a →
    runL C call fid l s m = some (s', m') → (∀ a' w' μ', SRel μ' nt s' a' → Rel B w0 μ' m' w' → c.wp P Q a' w') → (seqs l c).wp P Q a w
  | [], c, μ, m, m', w, s, s', a, Q, _, hr, hs, h, k => by
    simp only [runL, Option.some.injEq, Prod.mk.injEq] at h
    obtain ⟨rfl, rfl⟩ := h
    exact k a w μ hs hr
  | x :: l, c, μ, m, m', w, s, s', a, Q, hl, hr, hs, h, k => by
    simp only [runL] at h
    split at h
    · rename_i s1 m1 hx
      exact wp_seq (hl x List.mem_cons_self hr hs hx fun a1 w1 μ1 q1 q2 => wp_seqs (fun y hy => hl y (List.mem_cons_of_mem _ hy)) q2 q1 h k)
    · cases h

section
variable (ctxE ctxL : Nat → Ctx) (callE callL : Nat → CallF) (fid' : Nat) (body : Code) (lid : Nat) (tailOk : Nat → Slots → Mem → Bool)

/-- the loop may end in round i, and what is behind it is right; or it goes on -/
def chkEnd (i : Nat) (r : Out) : Bool := match r with
  | some (.exit j, s', m') => Nat.beq j lid && tailOk i s' m'
  | _ => false

def chk : Nat → Nat → Slots → Mem → Bool
  | 0, i, s, m => chkEnd lid tailOk i (runCode (ctxE i) (callE i) fid' body s m)
  | n + 1, i, s, m => chkEnd lid tailOk i (runCode (ctxE i) (callE i) fid' body s m) && (match runCode (ctxL i) (callL i) fid' body s m with
    | some (.normal, s', m') => chk n (i + 1) s' m'
    | _ => false)
end

theorem chkEnd_spec {lid : Nat} {tailOk : Nat → Slots → Mem → Bool} {i : Nat} {r : Out} (h : chkEnd lid tailOk i r = true) : ∃ s' m', r = some (.exit lid, s', m') ∧ tailOk i s' m' = true := by
  unfold chkEnd at h
  split at h
  · rename_i j s' m'
    simp only [Bool.and_eq_true, Nat.beq_eq] at h
    obtain ⟨rfl, h⟩ := h
    exact ⟨s', m', rfl, h⟩
  · cases h

theorem rounds_chk {ctxE ctxL : Nat → Ctx} {callE callL : Nat → CallF} {body : Code} {lid T : Nat} {tailOk : Nat → Slots → Mem → Bool}
    (sE : Sound P B w0 nt (ctxE T) (callE T) fid body) (sL : ∀ i, i < T → Sound P B w0 nt (ctxL i) (callL i) fid body) {Q : Exit → Act → World → Prop}
    (hQ : ∀ {s : Slots} {m : Mem} {μ : Mu} {a : Act} {w : World}, SRel μ nt s a → Rel B w0 μ m w → tailOk T s m = true → Q (.exit lid) a w) :
    ∀ (n i : Nat) (s : Slots) (m : Mem), chk ctxE ctxL callE callL fid body lid tailOk n i s m = true → i ≤ T → T ≤ i + n → ∀ (k : Nat), n < k → ∀ {μ : Mu} {a : Act} {w : World}, SRel μ nt s a → Rel B w0 μ m w → Code.rounds P body Q k a w := by
  have fin : ∀ (i : Nat) (s : Slots) (m : Mem), i = T → chkEnd lid tailOk i (runCode (ctxE i) (callE i) fid body s m) = true → ∀ (k : Nat), 0 < k → ∀ {μ : Mu} {a : Act} {w : World}, SRel μ nt s a → Rel B w0 μ m w → Code.rounds P body Q k a w := by
    intro i s m hi h k hk μ a w hs hr
    subst hi
    obtain ⟨s', m', h1, h2⟩ := chkEnd_spec h
    obtain ⟨k, rfl⟩ : ∃ j, k = j + 1 := ⟨k - 1, by omega⟩
    rw [rounds_succ]
    exact sE hr hs h1 fun a' w' μ' q1 q2 => hQ q1 q2 h2
  intro n
  induction n with
  | zero =>
    intro i s m h h1 h2 k hk μ a w hs hr
    exact fin i s m (by omega) h k hk hs hr
  | succ n ih =>
    intro i s m h h1 h2 k hk μ a w hs hr
    unfold chk at h
    simp only [Bool.and_eq_true] at h
    by_cases hi : i = T
    · exact fin i s m hi h.1 k (by omega) hs hr
    · obtain ⟨k, rfl⟩ : ∃ j, k = j + 1 := ⟨k - 1, by omega⟩
      have h3 := h.2
      split at h3
      · rename_i s' m' hx
        rw [rounds_succ]
        exact sL i (by omega) hr hs hx fun a' w' μ' q1 q2 => ih (i + 1) s' m' h3 (by omega) (by omega) k (by omega) q1 q2
      · cases h3

/-- a function that ends here answers true -/
theorem post_says {C : Ctx} (hC : C.Ok P) {fn : Func} {e : Ex} {s : Slots} {m : Mem} {μ : Mu} {a : Act} {w : World} (q1 : SRel μ nt s a) (q2 : Rel B w0 μ m w) (h : saysTrue C fn.results.toList e s m = true) :
    bodyPost P fn (fun e w' => e = .returned (.bool true) ∧ Kept B w0 w') (exOf e) a w := by
  obtain ⟨he, l, hl, hv⟩ := saysTrue_spec h
  obtain ⟨vs', k1, k2⟩ := res_sound hC q2 q1 hl
  have hk := mkRes_sound k2
  rw [hv] at hk
  have fin : a.defers = [] ∧ ∃ v', (results fn a.tmps).run P w = .ok v' w ∧ (Ending.returned v' = .returned (.bool true) ∧ Kept B w0 w) := by
    refine ⟨q1.defers, if h : vs'.toArray.size = 1 then vs'.toArray[0] else .tuple vs'.toArray, ?_, ?_, q2.below⟩
    · rw [results_eq, ← Array.toArray_toList (xs := fn.results), List.mapM_toArray]
      simp only [Sem.run_bind, Sem.run_map, k1, Result.andThen_ok, Sem.run_pure]
    · generalize (if h : vs'.toArray.size = 1 then vs'.toArray[0] else Value.tuple vs'.toArray) = v at hk
      cases hk
      rfl
  cases e with
  | normal => exact fin
  | exit id => exact absurd rfl (he id)
  | ret => exact fin

end
end Go.Ev

namespace Go.Ev
set_option linter.unusedSectionVars false
variable [Atoms]
open Go.RowKit (Below)

/-! a logic over pieces of code, in which what is no more needed is dropped -/

section
variable {P : Program} {B : Nat → Prop} {w0 : World} {nt : Nat}

def HL (P : Program) (B : Nat → Prop) (w0 : World) (nt : Nat) (c : Code) (s : Slots) (m : Mem) (Q : Ex → Slots → Mem → Prop) : Prop :=
  ∀ (μ : Mu) (w : World) (a : Act) (Q' : Exit → Act → World → Prop), Rel B w0 μ m w → SRel μ nt s a →
    (∀ e s' m' μ' a' w', Q e s' m' → SRel μ' nt s' a' → Rel B w0 μ' m' w' → Q' (exOf e) a' w') → c.wp P Q' a w

def Weak (B : Nat → Prop) (w0 : World) (nt : Nat) (s : Slots) (m : Mem) (s' : Slots) (m' : Mem) : Prop :=
  ∀ (μ : Mu) (w : World) (a : Act), Rel B w0 μ m w → SRel μ nt s a → ∃ μ', Rel B w0 μ' m' w ∧ SRel μ' nt s' a

theorem HL.run {C : Ctx} {call : CallF} {fid : Nat} {c : Code} {s : Slots} {m : Mem} {Q : Ex → Slots → Mem → Prop} (hs : Sound P B w0 nt C call fid c) (h : RunP C call fid c s m Q) : HL P B w0 nt c s m Q := by
  intro μ w a Q' hr hsr k
  obtain ⟨e, s', m', h1, h2⟩ := h
  exact hs hr hsr h1 fun a' w' μ' q1 q2 => k e s' m' μ' a' w' h2 q1 q2

theorem HL.seq {c d : Code} {s : Slots} {m : Mem} {Q : Ex → Slots → Mem → Prop}
    (h : HL P B w0 nt c s m fun e s m => match e with | .normal => HL P B w0 nt d s m Q | e => Q e s m) : HL P B w0 nt (.seq c d) s m Q := by
  intro μ w a Q' hr hs k
  refine wp_seq (h μ w a _ hr hs fun e s' m' μ' a' w' q q1 q2 => ?_)
  cases e with
  | normal => exact q μ' w' a' Q' q2 q1 k
  | exit id => exact k _ s' m' μ' a' w' q q1 q2
  | ret => exact k _ s' m' μ' a' w' q q1 q2

theorem HL.cond {x : Operand} {c d : Code} {s : Slots} {m : Mem} {Q : Ex → Slots → Mem → Prop} {t : Bool} (hx : s.eval x = .bool t) (hok : opndOk x = true) (h1 : t = true → HL P B w0 nt c s m Q) (h2 : t = false → HL P B w0 nt d s m Q) :
    HL P B w0 nt (.cond x c d) s m Q := by
  intro μ w a Q' hr hs k
  have hv := eval_rel hs hok
  rw [hx] at hv
  have hc : a.eval x = .bool t := by
    generalize a.eval x = u at hv
    cases hv
    rfl
  refine wp_cond hc ?_
  cases t with
  | true => exact h1 rfl μ w a Q' hr hs k
  | false => exact h2 rfl μ w a Q' hr hs k

theorem HL.block {id : Nat} {c : Code} {s : Slots} {m : Mem} {Q : Ex → Slots → Mem → Prop}
    (h : HL P B w0 nt c s m fun e s m => match e with | .exit i => if i = id then Q .normal s m else Q (.exit i) s m | e => Q e s m) : HL P B w0 nt (.block id c) s m Q := by
  intro μ w a Q' hr hs k
  refine wp_block (h μ w a _ hr hs fun e s' m' μ' a' w' q q1 q2 => ?_)
  cases e with
  | normal => exact k _ s' m' μ' a' w' q q1 q2
  | ret => exact k _ s' m' μ' a' w' q q1 q2
  | exit i =>
    simp only [exOf, Exit.inBlock]
    simp only at q
    by_cases hi : i = id
    · rw [if_pos hi] at q ⊢
      exact k _ s' m' μ' a' w' q q1 q2
    · rw [if_neg hi] at q ⊢
      exact k _ s' m' μ' a' w' q q1 q2

theorem HL.loop {c : Code} {Q : Ex → Slots → Mem → Prop} (Inv : Nat → Slots → Mem → Prop)
    (h : ∀ n s m, Inv n s m → HL P B w0 nt c s m fun e s' m' => match e with | .normal => ∃ k, k < n ∧ Inv k s' m' | e => Q e s' m') {n : Nat} {s : Slots} {m : Mem} (hi : Inv n s m) : HL P B w0 nt (.loop c) s m Q := by
  intro μ w a Q' hr hs k
  have key : ∀ (N n : Nat) (s : Slots) (m : Mem), n < N → Inv n s m → ∀ (μ : Mu) (w : World) (a : Act), Rel B w0 μ m w → SRel μ nt s a → Code.rounds P c Q' N a w := by
    intro N
    induction N with
    | zero => intro n s m hlt; omega
    | succ N ih =>
      intro n s m hlt hi μ w a hr hs
      rw [rounds_succ]
      refine h n s m hi μ w a _ hr hs fun e s' m' μ' a' w' q q1 q2 => ?_
      cases e with
      | normal =>
        obtain ⟨j, hj, q⟩ := q
        exact ih j s' m' (by omega) q μ' w' a' q2 q1
      | exit id => exact k _ s' m' μ' a' w' q q1 q2
      | ret => exact k _ s' m' μ' a' w' q q1 q2
  exact wp_loop_rounds (n + 1) (key (n + 1) n s m (by omega) hi μ w a hr hs)

theorem HL.weak {c : Code} {s s' : Slots} {m m' : Mem} {Q : Ex → Slots → Mem → Prop} (hw : Weak B w0 nt s m s' m') (h : HL P B w0 nt c s' m' Q) : HL P B w0 nt c s m Q := by
  intro μ w a Q' hr hs k
  obtain ⟨μ', h1, h2⟩ := hw μ w a hr hs
  exact h μ' w a Q' h1 h2 k

theorem HL.post {c : Code} {s : Slots} {m : Mem} {Q Q1 : Ex → Slots → Mem → Prop} (h : HL P B w0 nt c s m Q) (hq : ∀ e s' m', Q e s' m' → ∃ s1 m1, Weak B w0 nt s' m' s1 m1 ∧ Q1 e s1 m1) : HL P B w0 nt c s m Q1 := by
  intro μ w a Q' hr hs k
  refine h μ w a Q' hr hs fun e s' m' μ' a' w' q q1 q2 => ?_
  obtain ⟨s1, m1, h1, h2⟩ := hq e s' m' q
  obtain ⟨μ1, h3, h4⟩ := h1 μ' w' a' q2 q1
  exact k e s1 m1 μ1 a' w' h2 h4 h3

theorem HL.mono {c : Code} {s : Slots} {m : Mem} {Q Q1 : Ex → Slots → Mem → Prop} (h : HL P B w0 nt c s m Q) (hq : ∀ e s' m', Q e s' m' → Q1 e s' m') : HL P B w0 nt c s m Q1 :=
  fun μ w a Q' hr hs k => h μ w a Q' hr hs fun e s' m' μ' a' w' q q1 q2 => k e s' m' μ' a' w' (hq e s' m' q) q1 q2

theorem HL.skip {s : Slots} {m : Mem} {Q : Ex → Slots → Mem → Prop} (h : Q .normal s m) : HL P B w0 nt .skip s m Q := fun μ w a _ hr hs k => wp_skip (k .normal s m μ a w h hs hr)
theorem HL.exit {id : Nat} {s : Slots} {m : Mem} {Q : Ex → Slots → Mem → Prop} (h : Q (.exit id) s m) : HL P B w0 nt (.exit id) s m Q := fun μ w a _ hr hs k => wp_exit (k (.exit id) s m μ a w h hs hr)
theorem HL.ret {s : Slots} {m : Mem} {Q : Ex → Slots → Mem → Prop} (h : Q .ret s m) : HL P B w0 nt .ret s m Q := fun μ w a _ hr hs k => wp_ret (k .ret s m μ a w h hs hr)
theorem HL.reg {C : Ctx} {call : CallF} {fid id : Nat} {ops : Array Oper} {s : Slots} {m : Mem} {Q : Ex → Slots → Mem → Prop} (hs : Sound P B w0 nt C call fid (.region id ops false)) (h : OpsP C call ops ops.toList s m fun s m => Q .normal s m) :
    HL P B w0 nt (.region id ops false) s m Q := HL.run hs (RunP.region h)

/-- what a round of a loop leaves: the next round, or an end -/
def LoopPost (lid : Nat) (Inv : Nat → Slots → Mem → Prop) (n : Nat) (Q : Ex → Slots → Mem → Prop) (e : Ex) (s : Slots) (m : Mem) : Prop := match e with
  | .normal => ∃ k, k < n ∧ Inv k s m
  | .exit i => i = lid ∧ Q .normal s m
  | .ret => Q .ret s m

theorem HL.blockLoop {lid : Nat} {c : Code} {Q : Ex → Slots → Mem → Prop} (Inv : Nat → Slots → Mem → Prop) (h : ∀ n s m, Inv n s m → HL P B w0 nt c s m (LoopPost lid Inv n Q)) {n : Nat} {s : Slots} {m : Mem} (hi : Inv n s m) :
    HL P B w0 nt (.block lid (.loop c)) s m Q := by
  refine HL.block (HL.loop Inv (fun n s m hi => HL.mono (h n s m hi) fun e s' m' q => ?_) hi)
  cases e with
  | normal => exact q
  | ret => exact q
  | exit i =>
    obtain ⟨rfl, q⟩ := q
    show if i = i then Q .normal s' m' else Q (.exit i) s' m'
    rw [if_pos rfl]
    exact q

theorem Slots.get_put (s : Slots) (d : Nat) (v : Value) : (s.put (some d) v).get d = v := by
  unfold Slots.put Slots.set Slots.get
  simp only [Tree.get_set, if_true]

/-! other names -/

/-- the names of the objects below k: i is what σ i was -/
def reMu (σ : Nat → Nat) (k : Nat) (μ : Mu) : Mu := fun i => if i < k then μ (σ i) else none

/-- a value under other names -/
def VRen (σ : Nat → Nat) (k : Nat) (u1 u : Value) : Prop := ∀ (μ : Mu) (v : Value), VRel μ u v → VRel (reMu σ k μ) u1 v

theorem VRen.junk {σ : Nat → Nat} {k : Nat} (u : Value) : VRen σ k junk u := fun _ _ _ => .junk _
theorem VRen.bool {σ : Nat → Nat} {k : Nat} (b : Bool) : VRen σ k (.bool b) (.bool b) := fun _ _ h => by cases h; exact .bool _
theorem VRen.int {σ : Nat → Nat} {k : Nat} (t : IntKind) (n : Int) : VRen σ k (.int t n) (.int t n) := fun _ _ h => by cases h; exact .int _ _
theorem VRen.string {σ : Nat → Nat} {k : Nat} (s : ByteArray) : VRen σ k (.string s) (.string s) := fun _ _ h => by cases h; exact .string _
theorem VRen.pnil {σ : Nat → Nat} {k : Nat} : VRen σ k (.pointer none) (.pointer none) := fun _ _ h => by cases h; exact .pnil
theorem VRen.snil {σ : Nat → Nat} {k : Nat} : VRen σ k (.slice none 0 0) (.slice none 0 0) := fun _ _ h => by cases h; exact .snil
theorem VRen.undef {σ : Nat → Nat} {k : Nat} : VRen σ k (.tuple ⟨[]⟩) (.tuple ⟨[]⟩) := fun _ v h => by
  generalize hu : Value.tuple ⟨[]⟩ = u at h
  cases h <;> cases hu
  rename_i bs h1 h2
  have : bs = [] := by simpa using h1.symm
  subst this
  exact .undef
theorem VRen.ptr {σ : Nat → Nat} {k i o off : Nat} (hi : i < k) (ho : σ i = o) : VRen σ k (Ev.ptr i off) (Ev.ptr o off) := fun μ v h => by
  cases h with
  | ptr hl => exact .ptr (by unfold reMu; rw [if_pos hi, ho]; exact hl)
theorem VRen.slice {σ : Nat → Nat} {k i o off n c : Nat} (hi : i < k) (ho : σ i = o) (hn : (n == 0 && c == UNK) = false) : VRen σ k (.slice (some ⟨i, off, none⟩) n c) (.slice (some ⟨o, off, none⟩) n c) := fun μ v h => by
  cases h with
  | slice hl h1 h2 => exact .slice (by unfold reMu; rw [if_pos hi, ho]; exact hl) h1 h2
  | semp => simp at hn

structure LRen (σ : Nat → Nat) (k : Nat) (as bs : List Value) : Prop where
  len : as.length = bs.length
  ren : ∀ (i : Nat) (u1 u : Value), as[i]? = some u1 → bs[i]? = some u → VRen σ k u1 u

theorem LRen.nil {σ : Nat → Nat} {k : Nat} : LRen σ k [] [] := ⟨rfl, fun i u1 u h => by simp at h⟩
theorem LRen.cons {σ : Nat → Nat} {k : Nat} {u v : Value} {as bs : List Value} (h : VRen σ k u v) (t : LRen σ k as bs) : LRen σ k (u :: as) (v :: bs) :=
  ⟨by simp [t.len], fun i x y hx hy => by
    cases i with
    | zero => simp at hx hy; subst hx; subst hy; exact h
    | succ i => simp at hx hy; exact t.ren i x y hx hy⟩
theorem LRen.same {σ : Nat → Nat} {k : Nat} {l : List Value} (h : ∀ u ∈ l, flat1 u = true) : LRen σ k l l :=
  ⟨rfl, fun i u1 u h1 h2 => by
    rw [h1] at h2; cases h2
    have := h _ (List.mem_of_getElem? h1)
    exact fun μ v hv => flat1_rel this hv⟩
theorem LRen.append {σ : Nat → Nat} {k : Nat} {as bs cs ds : List Value} (h : LRen σ k as bs) (t : LRen σ k cs ds) : LRen σ k (as ++ cs) (bs ++ ds) :=
  ⟨by simp [h.len, t.len], fun i u v hu hv => by
    by_cases hi : i < as.length
    · rw [List.getElem?_append_left hi] at hu
      rw [List.getElem?_append_left (h.len ▸ hi)] at hv
      exact h.ren i u v hu hv
    · rw [List.getElem?_append_right (by omega)] at hu
      rw [List.getElem?_append_right (by have := h.len; omega)] at hv
      rw [← h.len] at hv
      exact t.ren _ u v hu hv⟩
theorem LRen.rel {σ : Nat → Nat} {k : Nat} {as bs cs : List Value} (h : LRen σ k as bs) {μ : Mu} (hr : LRel μ bs cs) : LRel (reMu σ k μ) as cs :=
  ⟨h.len.trans hr.len, fun i u v hu hv => by
    have hi : i < bs.length := by rw [← h.len]; exact (List.getElem?_eq_some_iff.1 hu).1
    exact h.ren i u _ hu (List.getElem?_eq_getElem hi) μ v (hr.rel i _ v (List.getElem?_eq_getElem hi) hv)⟩
theorem VRen.agg {σ : Nat → Nat} {k : Nat} {as bs : List Value} (h : LRen σ k as bs) : VRen σ k (.agg ⟨as⟩) (.agg ⟨bs⟩) := fun μ v hv => by
  cases hv with
  | agg h1 h2 => exact .agg' (h.rel ⟨h1, h2⟩)
theorem VRen.tuple {σ : Nat → Nat} {k : Nat} {as bs : List Value} (h : LRen σ k as bs) : VRen σ k (.tuple ⟨as⟩) (.tuple ⟨bs⟩) := fun μ v hv => by
  cases hv with
  | tuple h1 h2 => exact .tuple' (h.rel ⟨h1, h2⟩)
theorem VRen.flat {σ : Nat → Nat} {k : Nat} {u : Value} (h : flat1 u = true) : VRen σ k u u := fun _ _ hv => flat1_rel h hv

/-- the cells that are kept, under other names -/
structure Keeps (σ : Nat → Nat) (m m1 : Mem) : Prop where
  inj : ∀ i j, i < m1.next → j < m1.next → σ i = σ j → i = j
  obj : ∀ i, i < m1.next → ∃ vs1 vs e st, m1.get i = some (.cells vs1 e st) ∧ m.get (σ i) = some (.cells vs e st) ∧ (st = .ro ∨ st = .sole) ∧ LRen σ m1.next vs1 (vs.take vs1.length)

theorem Rel.ren {μ : Mu} {m m1 : Mem} {w : World} (h : Rel B w0 μ m w) {σ : Nat → Nat} (hk : Keeps σ m m1) : Rel B w0 (reMu σ m1.next μ) m1 w where
  below := h.below
  base := h.base
  dom o l e := by
    unfold reMu at e
    split at e
    · rename_i ho
      exact ⟨ho, (h.dom _ l e).2⟩
    · cases e
  obj o l e := by
    unfold reMu at e
    split at e
    · rename_i ho
      obtain ⟨vs1, vs, sz, st, g1, g2, g3, g4⟩ := hk.obj o ho
      have hob := h.obj _ l e
      rw [g1]
      rw [g2] at hob
      obtain ⟨c, el, fz, h1, h2, h3, h4, h5⟩ := hob.blk
      have hal : m.alive st = true := by rcases g3 with rfl | rfl <;> rfl
      have hlen : vs1.length ≤ vs.length := by have := g4.len; simp at this; omega
      refine ⟨hob.esz, fun g hg => (by rcases g3 with rfl | rfl <;> cases hg), c, el, fz, h1, h2, by omega, h4, fun _ i v hv => ?_⟩
      have hi1 : i < vs1.length := (List.getElem?_eq_some_iff.1 hv).1
      have hi : i < vs.length := by omega
      obtain ⟨v', k1, k2⟩ := h5 hal i _ (List.getElem?_eq_getElem hi)
      exact ⟨v', k1, g4.ren i v _ hv (by rw [List.getElem?_take, if_pos hi1]; exact List.getElem?_eq_getElem hi) μ v' k2⟩
    · cases e
  sep o1 o2 l1 l2 hne e1 e2 hb := by
    unfold reMu at e1 e2
    split at e1
    · rename_i ho1
      split at e2
      · rename_i ho2
        obtain ⟨vs1, us1, sz1, st1, a1, a2, a3, a4⟩ := hk.obj o1 ho1
        obtain ⟨vs2, us2, sz2, st2, b1, b2, b3, b4⟩ := hk.obj o2 ho2
        have hs := h.sep (σ o1) (σ o2) l1 l2 (fun q => hne (hk.inj o1 o2 ho1 ho2 q)) e1 e2 hb
        rw [a2, b2] at hs
        rw [a1, b1]
        intro q1 q2
        rcases hs (by rcases a3 with rfl | rfl <;> rfl) (by rcases b3 with rfl | rfl <;> rfl) with k | ⟨g, k1, _⟩
        · exact .inl k
        · rcases a3 with rfl | rfl <;> cases k1
      · cases e2
    · cases e1

/-- slots of which only some are known -/
def mkS (nt : Nat) (l : List (Nat × Value)) : Slots := ⟨treeL l (buildTree 0 (List.replicate nt junk) .leaf)⟩

theorem mkS_get {nt : Nat} {l : List (Nat × Value)} {t : Nat} : (t, (mkS nt l).get t) ∈ l ∨ (mkS nt l).get t = junk ∨ (nt ≤ t ∧ (mkS nt l).get t = .tuple ⟨[]⟩) := by
  unfold mkS Slots.get
  simp only
  cases h : (treeL l (buildTree 0 (List.replicate nt junk) .leaf)).get t with
  | some v =>
    rcases treeL_get _ _ _ _ h with h | h
    · exact .inl h
    · rw [Tree.get_build] at h
      by_cases ht : t < nt
      · rw [if_pos (by simp; omega)] at h
        simp [List.getElem?_replicate, ht] at h
        exact .inr (.inl h.symm)
      · rw [if_neg (by simp; omega), leaf_get] at h
        cases h
  | none =>
    refine .inr (.inr ⟨?_, rfl⟩)
    by_cases ht : t < nt
    · exfalso
      have key : ∀ (l : List (Nat × Value)) (T : Tree Value), (∃ v, T.get t = some v) → ∃ v, (treeL l T).get t = some v := by
        intro l
        induction l with
        | nil => intro T h; exact h
        | cons x r ih =>
          intro T ⟨v, hv⟩
          refine ih _ ?_
          rw [Tree.get_set]
          by_cases hx : t = x.1
          · rw [if_pos hx]; exact ⟨_, rfl⟩
          · rw [if_neg hx]; exact ⟨v, hv⟩
      obtain ⟨v, hv⟩ := key l (buildTree 0 (List.replicate nt junk) .leaf) ⟨junk, by
        rw [Tree.get_build, if_pos (by simp; omega)]
        simp [List.getElem?_replicate, ht]⟩
      rw [h] at hv
      cases hv
    · omega

theorem Weak.ren {s : Slots} {m m1 : Mem} {σ : Nat → Nat} (hk : Keeps σ m m1) {l : List (Nat × Value)} (hl : AllOf (fun x : Nat × Value => VRen σ m1.next x.2 (s.get x.1)) l) : Weak B w0 nt s m (mkS nt l) m1 := by
  intro μ w a hr hs
  refine ⟨_, hr.ren hk, hs.size, fun t => ?_, hs.defers⟩
  rcases mkS_get (nt := nt) (l := l) (t := t) with h | h | ⟨h1, h2⟩
  · exact hl.mem _ h μ _ (hs.rel t)
  · rw [h]; exact .junk _
  · rw [h2]
    have : a.tmps.getD t undef = undef := by
      rw [Array.getD_eq_getD_getElem?, Array.getElem?_eq_none (by rw [hs.size]; exact h1)]
      rfl
    rw [this]
    exact .undef

end
end Go.Ev

namespace Go.Ev
set_option linter.unusedSectionVars false
variable [Atoms]
open Go.RowKit (Below)

/-! functions that only read are told by what they answer -/

section
variable {P : Program} {B : Nat → Prop} {w0 : World} {C : Ctx}

/-- a value that names nothing -/
def Free (v : Value) : Prop := ∀ (μ ν : Mu) (v' : Value), VRel μ v v' → VRel ν v v'

theorem Free.flat {v : Value} (h : flat1 v = true) : Free v := fun _ _ _ hv => flat1_rel h hv
theorem Free.list {l : List Value} (h : ∀ u ∈ l, Free u) {μ ν : Mu} {l' : List Value} (hr : LRel μ l l') : LRel ν l l' :=
  ⟨hr.len, fun i u v hu hv => h u (List.mem_of_getElem? hu) μ ν v (hr.rel i u v hu hv)⟩
theorem Free.agg {l : List Value} (h : ∀ u ∈ l, Free u) : Free (.agg ⟨l⟩) := fun μ ν v' hv => by
  cases hv with
  | agg h1 h2 => exact .agg' (Free.list h ⟨h1, h2⟩)
theorem Free.tuple {l : List Value} (h : ∀ u ∈ l, Free u) : Free (.tuple ⟨l⟩) := fun μ ν v' hv => by
  cases hv with
  | tuple h1 h2 => exact .tuple' (Free.list h ⟨h1, h2⟩)

/-- the cells that are read, under other names -/
def Reads (σ : Nat → Nat) (m m1 : Mem) : Prop :=
  ∀ i, i < m1.next → ∃ vs1 vs e st, m1.get i = some (.cells vs1 e .ro) ∧ m.get (σ i) = some (.cells vs e st) ∧ m.alive st = true ∧ LRen σ m1.next vs1 (vs.take vs1.length)

theorem Rel.ro {μ : Mu} {m m1 : Mem} {w : World} (h : Rel B w0 μ m w) {σ : Nat → Nat} (hk : Reads σ m m1) : Rel (upTo w.heap.size) w (reMu σ m1.next μ) m1 w where
  below := Kept.refl _ _
  base := fun _ h => h
  dom o l e := by
    unfold reMu at e
    split at e
    · rename_i ho
      exact ⟨ho, (h.dom _ l e).2⟩
    · cases e
  obj o l e := by
    unfold reMu at e
    split at e
    · rename_i ho
      obtain ⟨vs1, vs, sz, st, g1, g2, hal, g4⟩ := hk o ho
      have hob := h.obj _ l e
      rw [g1]
      rw [g2] at hob
      obtain ⟨c, el, fz, h1, h2, h3, h4, h5⟩ := hob.blk
      have hlen : vs1.length ≤ vs.length := by have := g4.len; simp at this; omega
      refine ⟨hob.esz, fun g hg => (by cases hg), c, el, fz, h1, h2, by omega, fun q => absurd rfl q, fun _ i v hv => ?_⟩
      have hi1 : i < vs1.length := (List.getElem?_eq_some_iff.1 hv).1
      have hi : i < vs.length := by omega
      obtain ⟨v', k1, k2⟩ := h5 hal i _ (List.getElem?_eq_getElem hi)
      exact ⟨v', k1, g4.ren i v _ hv (by rw [List.getElem?_take, if_pos hi1]; exact List.getElem?_eq_getElem hi) μ v' k2⟩
    · cases e
  sep o1 o2 l1 l2 hne e1 e2 hb := by
    unfold reMu at e1 e2
    split at e1
    · rename_i ho1
      split at e2
      · rename_i ho2
        obtain ⟨vs1, us1, sz1, st1, a1, a2, a3, a4⟩ := hk o1 ho1
        obtain ⟨vs2, us2, sz2, st2, b1, b2, b3, b4⟩ := hk o2 ho2
        rw [a1, b1]
        exact fun _ _ => .inl ⟨rfl, rfl⟩
      · cases e2
    · cases e1

/-- a function's end -/
def Ends (C : Ctx) (fn : Func) (R : Value → Mem → Prop) (e : Ex) (s : Slots) (m : Mem) : Prop := (∀ id, e ≠ .exit id) ∧ ∃ l, resV C s m fn.results.toList = some l ∧ R (mkRes l) m

theorem Ends.ret {fn : Func} {R : Value → Mem → Prop} {s : Slots} {m : Mem} {l : List Value} (h : resV C s m fn.results.toList = some l) (hr : R (mkRes l) m) : Ends C fn R .ret s m := ⟨fun id q => (by cases q), l, h, hr⟩
/-- one result, in a slot -/
theorem Ends.ret1 {fn : Func} {R : Value → Mem → Prop} {s : Slots} {m : Mem} {t : Nat} {v : Value} (hf : fn.results.toList = [.tmp t]) (h : s.get t = v) (hr : R v m) : Ends C fn R .ret s m :=
  Ends.ret (l := [v]) (by rw [hf]; simp only [resV, Option.bind_some, h]) hr

/-- what a function answers -/
def HF (P : Program) (C : Ctx) (fn : Func) (args : List Value) (m : Mem) (R : Value → Mem → Prop) : Prop :=
  ∀ (B : Nat → Prop) (w0 : World), HL P B w0 fn.ntmps (bodyOf fn) (initSlots args) m (Ends C fn R)

theorem calls_of_HF (hC : C.Ok P) {f : FuncId} {fn : Func} (hf : P.funcs[f]? = some fn) (hb : fn.body = some (bodyOf fn)) {args args' : List Value} {m : Mem} {R : Value → Mem → Prop} (h : HF P C fn args m R)
    (hl : args.length ≤ fn.ntmps) {μ : Mu} {w : World} (hr : Rel B w0 μ m w) (ha : LRel μ args args') {E : Ending → World → Prop}
    (hE : ∀ v v' μ' m' w', R v m' → VRel μ' v v' → Rel B w0 μ' m' w' → E (.returned v') w') : Calls P f ⟨args'⟩ w E := by
  refine calls_of_wp hf hb ?_
  refine h B w0 μ w _ _ hr (init_rel ha hl) fun e s' m' μ' a' w' q q1 q2 => ?_
  obtain ⟨he, l, hl, hR⟩ := q
  obtain ⟨vs', k1, k2⟩ := res_sound hC q2 q1 hl
  have fin : a'.defers = [] ∧ ∃ v', (results fn a'.tmps).run P w' = .ok v' w' ∧ E (.returned v') w' := by
    refine ⟨q1.defers, if h : vs'.toArray.size = 1 then vs'.toArray[0] else .tuple vs'.toArray, ?_, hE _ _ μ' m' w' hR (mkRes_sound k2) q2⟩
    rw [results_eq, ← Array.toArray_toList (xs := fn.results), List.mapM_toArray]
    simp only [Sem.run_bind, Sem.run_map, k1, Result.andThen_ok, Sem.run_pure]
  cases e with
  | normal => exact fin
  | exit id => exact absurd rfl (he id)
  | ret => exact fin

/-- told by T -/
def toldR (T : List Value → Mem → Option Value) : List Value → Mem → Ret := fun args m => (T args m).bind fun v => some (v, m)

theorem CallOk.reads (hC : C.Ok P) {f : FuncId} {fn : Func} (hf : P.funcs[f]? = some fn) (hname : (fn.name == "runtime.NumGoroutine") = false) (hb : fn.body = some (bodyOf fn)) {T : List Value → Mem → Option Value}
    (h : ∀ args m v, T args m = some v → Free v ∧ ∃ σ m1 args1, Reads σ m m1 ∧ LRen σ m1.next args1 args ∧ args1.length ≤ fn.ntmps ∧ HF P C fn args1 m1 fun u _ => u = v) : CallOk P B w0 f (toldR T) := by
  intro args m v m' hg μ w args' hr ha
  unfold toldR at hg
  obtain ⟨u, hT, hg⟩ := Option.bind_eq_some_iff.1 hg
  simp only [Option.some.injEq, Prod.mk.injEq] at hg
  obtain ⟨rfl, rfl⟩ := hg
  obtain ⟨hv, σ, m1, args1, h1, h2, h3, h4⟩ := h _ _ _ hT
  refine .inl ⟨enter_call hf hname hb _ w, ?_⟩
  refine calls_of_HF (B := upTo w.heap.size) (w0 := w) hC hf hb h4 h3 (hr.ro h1) (h2.rel ha) fun v v' μ' m' w' hR q1 q2 => ?_
  subst hR
  exact ⟨v', rfl, μ, hv _ _ _ q1, hr.stays (q2.below.toBelow fun _ h => h), Ext.refl _ _⟩

end
end Go.Ev

namespace Go.Ev
set_option linter.unusedSectionVars false

/-! operations on rows of a length that is not known -/

def loopOf : Code → Code
  | .loop b => b
  | c => c
def blockOf : Code → Code
  | .block _ b => b
  | c => c

section
variable {C : Ctx} {call : CallF} {ops : Array Oper} {s : Slots} {m : Mem}

theorem step_indexAddr {o : Oper} {t e : TypeId} {x i : Operand} {b off n c z j : Nat} {k : IntKind} {iv : Int} (hw : wanted ops s o = some true) (ho : o.op = .indexAddr t x i) (ht : C.under t = some (.slice e)) (hz : C.size e = some z)
    (hx : s.eval x = .slice (some ⟨b, off, none⟩) n c) (hi : s.eval i = .int k iv) (hj : iv = (j : Int)) (hlt : j < n) : stepOp C call ops o s m = some (s.put o.dst (ptr b (off + j * z)), m) := by
  subst hj
  obtain ⟨dst, op, type, pos, after, guard⟩ := o
  simp only at ho
  subst ho
  have h1 : asN (.int k (j : Int)) = some j := by simp [asN]
  have h2 : Nat.blt j n = true := Nat.ble_eq_true_of_le hlt
  unfold stepOp
  simp only [hw, Option.bind_some, cond_true, oper, prim, hi, h1, ht, hx, h2, hz]

theorem step_load {o : Oper} {t : TypeId} {a : Operand} {b off : Nat} {ti : TI} {cs : List Value} {v : Value} (hw : wanted ops s o = some true) (ho : o.op = .load t a) (ha : s.eval a = ptr b off) (ht : tinfo C t = some ti)
    (hm : m.loadN b off (bif ti.agg then ti.size else 1) = some cs) (hv : mkVal ti.agg cs = some v) : stepOp C call ops o s m = some (s.put o.dst v, m) := by
  obtain ⟨dst, op, type, pos, after, guard⟩ := o
  simp only at ho
  subst ho
  unfold stepOp
  simp only [hw, Option.bind_some, cond_true, oper, prim, ha, aload, ptr, ht, hm, hv, pure1]

theorem step_store {o : Oper} {t : TypeId} {a x : Operand} {b off : Nat} {i : TypeInfo} {m' : Mem} {u : Value} (hw : wanted ops s o = some true) (ho : o.op = .store t a x) (ha : s.eval a = ptr b off) (hx : s.eval x = u) (hi : C.info t = some i)
    (hj : isJ u = false) (hc : Nat.beq (Val.cells u).length i.size = true) (hm : m.storeN b off (Val.cells u) = some m') : stepOp C call ops o s m = some (s.put o.dst (.tuple ⟨[]⟩), m') := by
  obtain ⟨dst, op, type, pos, after, guard⟩ := o
  simp only at ho
  subst ho
  unfold stepOp
  simp only [hw, Option.bind_some, cond_true, oper, prim, ha, hx, astore, ptr, hi, hj, hc, Bool.not_false, Bool.and_true, hm, unit1]

theorem OpsP.stepAt {l : List Oper} {o : Oper} {r : List Oper} {s1 : Slots} {m1 : Mem} {Q : Slots → Mem → Prop} (hl : l = o :: r) (hs : stepOp C call ops o s m = some (s1, m1)) (h : OpsP C call ops r s1 m1 Q) : OpsP C call ops l s m Q := by
  subst hl
  exact OpsP.step hs h

theorem wrapF_small {n : Int} (h0 : -9223372036854775808 ≤ n) (h1 : n ≤ 9223372036854775807) : wrapF .i64 n = n := by
  unfold wrapF inK
  have e1 : decide (kLo .i64 ≤ n) = true := decide_eq_true h0
  have e2 : decide (n ≤ kHi .i64) = true := decide_eq_true h1
  rw [e1, e2]
  rfl

end
end Go.Ev

namespace Go.Ev
set_option linter.unusedSectionVars false

/-! regions that draw, run by hand -/

section
variable {C : Ctx} {call : CallF} {fid : Nat} {ops : Array Oper}

def opsAt (ops : Array Oper) (l : List Nat) : List Oper := l.map fun i => ops[i]?.getD default

theorem runIdx_at : ∀ (l : List Nat) (s : Slots) (m : Mem), l.all (fun i => Nat.blt i ops.size) = true → runIdx C call ops l s m = runOps C call ops (opsAt ops l) s m
  | [], s, m, _ => rfl
  | i :: r, s, m, h => by
    simp only [List.all_cons, Bool.and_eq_true] at h
    have hi : i < ops.size := Nat.le_of_ble_eq_true h.1
    have ho : ops[i]? = some ops[i] := Array.getElem?_eq_getElem hi
    simp only [runIdx, opsAt, List.map_cons, ho, Option.getD_some, runOps]
    congr 1
    funext x
    exact runIdx_at r x.1 x.2 h.2

def RestP (C : Ctx) (call : CallF) (ops : Array Oper) : List Phase → Slots → Mem → (Slots → Mem → Prop) → Prop
  | [], s, m, Q => Q s m
  | p :: r, s, m, Q => OpsP C call ops (opsAt ops (p.eff :: p.ops)) s m fun s m => again C ops s m p.again = true ∧ RestP C call ops r s m Q

theorem RestP.run : ∀ {l : List Phase} {s : Slots} {m : Mem} {Q : Slots → Mem → Prop}, l.all (fun p => (p.eff :: p.ops).all fun i => Nat.blt i ops.size) = true → RestP C call ops l s m Q → ∃ s' m', runRest C call ops l s m = some (s', m') ∧ Q s' m'
  | [], s, m, Q, _, h => ⟨s, m, rfl, h⟩
  | p :: r, s, m, Q, hl, h => by
    simp only [List.all_cons, Bool.and_eq_true] at hl
    obtain ⟨s1, m1, h1, h2, h3⟩ := h
    obtain ⟨s2, m2, h4, h5⟩ := RestP.run hl.2 h3
    have e1 : runIdx C call ops [p.eff] s m = runOps C call ops (opsAt ops [p.eff]) s m := runIdx_at _ _ _ (by simp only [List.all_cons, List.all_nil, Bool.and_true]; exact hl.1.1)
    simp only [opsAt, List.map_cons, runOps] at h1
    obtain ⟨x, hx, h1⟩ := Option.bind_eq_some_iff.1 h1
    have e2 : runIdx C call ops p.ops x.1 x.2 = some (s1, m1) := by rw [runIdx_at _ _ _ hl.1.2]; exact h1
    refine ⟨s2, m2, ?_, h5⟩
    simp only [runRest, e1, opsAt, List.map_cons, List.map_nil, runOps, hx, Option.bind_some, e2, h2, cond_true]
    exact h4

theorem RunP.plan {id : Nat} {first ag : List Nat} {rest : List Phase} {s : Slots} {m : Mem} {Q : Ex → Slots → Mem → Prop} (hp : C.plans fid id = some ⟨first, ag, rest⟩) (hf : first.all (fun i => Nat.blt i ops.size) = true)
    (hr : rest.all (fun p => (p.eff :: p.ops).all fun i => Nat.blt i ops.size) = true) (h : OpsP C call ops (opsAt ops first) s m fun s m => again C ops s m ag = true ∧ RestP C call ops rest s m fun s m => Q .normal s m) :
    RunP C call fid (.region id ops true) s m Q := by
  obtain ⟨s1, m1, h1, h2, h3⟩ := h
  obtain ⟨s2, m2, h4, h5⟩ := RestP.run hr h3
  refine ⟨.normal, s2, m2, ?_, h5⟩
  simp only [runCode, cond_true, hp, runPlan, runIdx_at _ _ _ hf, h1, Option.bind_some, h2, h4]

theorem again_nil {s : Slots} {m : Mem} : again C ops s m [] = true := rfl
def opAt (ops : Array Oper) (i : Nat) : Oper := ops[i]?.getD default
theorem opAt_get {i : Nat} (h : Nat.blt i ops.size = true) : ops[i]? = some (opAt ops i) := by
  have hi : i < ops.size := Nat.le_of_ble_eq_true h
  unfold opAt
  rw [Array.getElem?_eq_getElem hi]; rfl
theorem again_cons {s : Slots} {m m2 : Mem} {i : Nat} {r : List Nat} {v : Value} {d : Nat} (hi : Nat.blt i ops.size = true) (hw : wanted ops s (opAt ops i) = some true) (hp : prim C s.eval (opAt ops i).op m = some (v, m2)) (hd : (opAt ops i).dst = some d) (hv : s.get d = v) (hq : veq v v = true)
    (h : again C ops s m r = true) : again C ops s m (i :: r) = true := by
  simp only [again, opAt_get hi, hw, hp, hd, hv, hq, h, Bool.and_self]
def fstOf (r : Ret) : Option Value := match r with
  | some (v, _) => some v
  | none => none
theorem again_k {s : Slots} {m : Mem} {i : Nat} {r : List Nat} {v : Value} {d : Nat} (hi : Nat.blt i ops.size = true) (hw : wanted ops s (opAt ops i) = some true) (hp : fstOf (prim C s.eval (opAt ops i).op m) = some v) (hd : (opAt ops i).dst = some d) (hv : s.get d = v) (hq : veq v v = true)
    (h : again C ops s m r = true) : again C ops s m (i :: r) = true := by
  cases hr : prim C s.eval (opAt ops i).op m with
  | none => rw [hr] at hp; cases hp
  | some x =>
    rw [hr] at hp
    have e : x.1 = v := by simpa [fstOf] using hp
    exact again_cons (m2 := x.2) hi hw (by rw [hr, ← e]) hd hv hq h
theorem again_skip {s : Slots} {m : Mem} {i : Nat} {r : List Nat} (hi : Nat.blt i ops.size = true) (hw : wanted ops s (opAt ops i) = some false) (h : again C ops s m r = true) : again C ops s m (i :: r) = true := by
  simp only [again, opAt_get hi, hw, h, Bool.and_self]

theorem strEqS : ∀ l : List UInt8, strEq l l = true
  | [] => rfl
  | a :: r => by simp [strEq, strEqS r]
theorem veq1_flat {v : Value} (h : flat1 v = true) : veq1 v v = true := by
  unfold flat1 at h
  split at h
  · simp [veq1]
  · simp [veq1]
  · rename_i s
    show strEq s.data.toList s.data.toList = true
    exact strEqS _
  · cases h
theorem veqL_flat : ∀ {l : List Value}, (∀ v ∈ l, flat1 v = true) → veqL l l = true
  | [], _ => rfl
  | v :: r, h => by
    simp only [veqL, Bool.and_eq_true]
    exact ⟨veq1_flat (h v List.mem_cons_self), veqL_flat fun u hu => h u (List.mem_cons_of_mem _ hu)⟩
theorem veq_int (k : IntKind) (n : Int) : veq (.int k n) (.int k n) = true := veq1_flat (v := .int k n) rfl
theorem veq_string (s : ByteArray) : veq (.string s) (.string s) = true := veq1_flat (v := .string s) rfl
theorem veq_bool (b : Bool) : veq (.bool b) (.bool b) = true := veq1_flat (v := .bool b) rfl
theorem veq_agg {l : List Value} (h : ∀ v ∈ l, flat1 v = true) : veq (.agg ⟨l⟩) (.agg ⟨l⟩) = true := veqL_flat h
theorem veq_slice {a : Addr} {n c : Nat} (h : sameAddr (some a) (some a) = true) : veq (.slice (some a) n c) (.slice (some a) n c) = true := by
  show (sameAddr (some a) (some a) && Nat.beq n n && Nat.beq c c) = true
  rw [h]; simp

theorem prim_load {s : Slots} {m : Mem} {o : Oper} {t : TypeId} {a : Operand} {b off : Nat} {ti : TI} {cs : List Value} {v : Value} (ho : o.op = .load t a) (ha : s.eval a = ptr b off) (ht : tinfo C t = some ti)
    (hm : m.loadN b off (bif ti.agg then ti.size else 1) = some cs) (hv : mkVal ti.agg cs = some v) : prim C s.eval o.op m = some (v, m) := by
  rw [ho]
  simp only [prim, ha, aload, ptr, ht, Option.bind_some, hm, hv, pure1]

theorem step_eqv {s : Slots} {m : Mem} {o : Oper} {t : TypeId} {x y : Operand} {p : Bool} {q : TypeId} {xs ys : Array Value} {b : Bool} (hw : wanted ops s o = some true) (ho : o.op = .binOp (bif p then .eql else .neq) t x y q) (hx : s.eval x = .agg xs) (hy : s.eval y = .agg ys)
    (he : eqv C 20 t (.agg xs) (.agg ys) = some b) : stepOp C call ops o s m = some (s.put o.dst (.bool (bif p then b else !b)), m) := by
  obtain ⟨dst, op, type, pos, after, guard⟩ := o
  simp only at ho
  subst ho
  unfold stepOp
  simp only [hw, Option.bind_some, cond_true, oper, prim, hx, hy, binV]
  cases p <;> simp only [cond_true, cond_false, eqB, he, Option.bind_some, pure1]

end
end Go.Ev

namespace Go.Ev
set_option linter.unusedSectionVars false

/-! append, copy, slices and capacities by hand -/

section
variable [Atoms] {C : Ctx} {call : CallF} {ops : Array Oper} {s : Slots} {m : Mem}

theorem OpsP.restM {l : List Oper} {m1 : Mem} {Q : Slots → Mem → Prop} (h : (runOps C call ops l s m).isSome = true) (hm : (Out.get (runOps C call ops l s m)).2 = m1) (k : Q (Out.get (runOps C call ops l s m)).1 m1) : OpsP C call ops l s m Q := by
  subst hm
  exact OpsP.rest h k
theorem OpsP.takeM (n : Nat) {l : List Oper} {m1 : Mem} {Q : Slots → Mem → Prop} (h : (runOps C call ops (l.take n) s m).isSome = true) (hm : (Out.get (runOps C call ops (l.take n) s m)).2 = m1)
    (k : OpsP C call ops (l.drop n) (Out.get (runOps C call ops (l.take n) s m)).1 m1 Q) : OpsP C call ops l s m Q := by
  subst hm
  exact OpsP.take n h k
theorem RunP.skip {fid : Nat} {Q : Ex → Slots → Mem → Prop} (h : Q .normal s m) : RunP C call fid .skip s m Q := ⟨_, _, _, rfl, h⟩
theorem RunP.ret {fid : Nat} {Q : Ex → Slots → Mem → Prop} (h : Q .ret s m) : RunP C call fid .ret s m Q := ⟨_, _, _, rfl, h⟩
theorem asN_nat (k : IntKind) (n : Nat) : asN (.int k (n : Int)) = some n := by simp [asN]

theorem step_append {o : Oper} {st xt : TypeId} {x y : Operand} {u v w : Value} {m' : Mem} (hw : wanted ops s o = some true) (ho : o.op = .call { callee := .builtin .append, args := #[x, y], argTypes := #[st, xt] }) (hx : s.eval x = u) (hy : s.eval y = v)
    (ha : aappend C st xt u v m = some (w, m')) : stepOp C call ops o s m = some (s.put o.dst w, m') := by
  obtain ⟨dst, op, type, pos, after, guard⟩ := o
  simp only at ho
  subst ho
  unfold stepOp
  simp only [hw, Option.bind_some, cond_true, oper, prim, builtinA, List.map_cons, List.map_nil, hx, hy, ha]

theorem step_copy {o : Oper} {st xt : TypeId} {x y : Operand} {u v w : Value} {m' : Mem} (hw : wanted ops s o = some true) (ho : o.op = .call { callee := .builtin .copy, args := #[x, y], argTypes := #[st, xt] }) (hx : s.eval x = u) (hy : s.eval y = v)
    (ha : acopy C st u v m = some (w, m')) : stepOp C call ops o s m = some (s.put o.dst w, m') := by
  obtain ⟨dst, op, type, pos, after, guard⟩ := o
  simp only at ho
  subst ho
  unfold stepOp
  simp only [hw, Option.bind_some, cond_true, oper, prim, builtinA, List.map_cons, List.map_nil, hx, hy, ha]

theorem step_cap {o : Oper} {st : TypeId} {x : Operand} {a : Option Addr} {n c : Nat} (hw : wanted ops s o = some true) (ho : o.op = .call { callee := .builtin .cap, args := #[x], argTypes := #[st] }) (hx : s.eval x = .slice a n c)
    {e : TypeId} (ht : C.under st = some (.slice e)) (hc : c < UNK) : stepOp C call ops o s m = some (s.put o.dst (.int .i64 c), m) := by
  obtain ⟨dst, op, type, pos, after, guard⟩ := o
  simp only at ho
  subst ho
  have hb : Nat.ble UNK c = false := ble_false hc
  unfold stepOp
  simp only [hw, Option.bind_some, cond_true, oper, prim, builtinA, List.map_cons, List.map_nil, hx, capA, ht, hb, cond_false, pure1]

theorem step_slice {o : Oper} {t : TypeId} {x : Operand} {lo hi mx : Option Operand} {u v : Value} {l h k : Option Value} (hw : wanted ops s o = some true) (ho : o.op = .slice t x lo hi mx) (hx : s.eval x = u) (hl : lo.map s.eval = l) (hh : hi.map s.eval = h) (hk : mx.map s.eval = k)
    (hv : sliceV C t u l h k = some v) : stepOp C call ops o s m = some (s.put o.dst v, m) := by
  obtain ⟨dst, op, type, pos, after, guard⟩ := o
  simp only at ho
  subst ho
  unfold stepOp
  simp only [hw, Option.bind_some, cond_true, oper, prim, hx, hl, hh, hk, hv, pure1]

theorem sliceV_known {t e : TypeId} {i : TypeInfo} {b off n c l h : Nat} {lo hi : Option Value} (ht : C.under t = some (.slice e)) (hi2 : C.info e = some i) (hc : c < UNK) (hl : optN 0 lo = some l) (hh : optN n hi = some h) (h1 : l ≤ h) (h2 : h ≤ c) :
    sliceV C t (.slice (some ⟨b, off, none⟩) n c) lo hi none = some (.slice (some ⟨b, bif Nat.beq c l then off else off + l * i.size, none⟩) (h - l) (c - l)) := by
  have hb : Nat.ble UNK c = false := ble_false hc
  unfold sliceV
  simp only [ht, hi2, Option.bind_some, optCap, hh, hl, capOf, hb, cond_false, sliceIn]
  rw [show Nat.ble l h = true from Nat.ble_eq_true_of_le h1, show Nat.ble h c = true from Nat.ble_eq_true_of_le h2, show Nat.ble c UNK = true from Nat.ble_eq_true_of_le (Nat.le_of_lt hc)]
  cases Nat.beq c l <;> simp [moved]

/-- a part of a slice of an unknown capacity, within its length -/
theorem sliceV_unk {t e : TypeId} {i : TypeInfo} {b off n c l h : Nat} {lo hi : Option Value} (ht : C.under t = some (.slice e)) (hi2 : C.info e = some i) (hc : UNK ≤ c) (hs : szOf c = i.size) (hp : 1 ≤ i.size) (hl : optN 0 lo = some l) (hh : optN n hi = some h) (h1 : l ≤ h) (h2 : h ≤ n) (h3 : l < n) :
    ∃ c', sliceV C t (.slice (some ⟨b, off, none⟩) n c) lo hi none = some (.slice (some ⟨b, off + l * i.size, none⟩) (h - l) c') := by
  have hb : Nat.ble UNK c = true := Nat.ble_eq_true_of_le hc
  have hne : Nat.beq c UNK = false := by
    cases hq : Nat.beq c UNK with
    | false => rfl
    | true =>
      have := Nat.eq_of_beq_eq_true hq
      rw [this] at hs
      have e0 : szOf UNK = 0 := by decide
      omega
  have hcap : n ≤ capOf n c := by
    unfold capOf
    rw [hb]
    simp only [cond_true]
    cases hq : Nat.ble n (lbOf c) with
    | true => exact Nat.le_of_ble_eq_true hq
    | false => exact Nat.le_refl _
  unfold sliceV
  simp only [ht, hi2, Option.bind_some, optCap, hh, hl]
  rw [show Nat.ble l h = true from Nat.ble_eq_true_of_le h1, show Nat.ble h (capOf n c) = true from Nat.ble_eq_true_of_le (by omega), hs, Nat.beq_refl]
  simp only [Bool.or_true, Bool.and_true, Option.isNone_none, Bool.true_or, cond_true, sliceIn, hb, hne, cond_false]
  cases h0 : Nat.beq l 0 with
  | true =>
    have := Nat.eq_of_beq_eq_true h0
    subst this
    exact ⟨c, by simp⟩
  | false =>
    rw [show Nat.blt l (capOf n c) = true from Nat.ble_eq_true_of_le (by omega)]
    exact ⟨_, rfl⟩

theorem storeN_sole {o off e : Nat} {vs new : List Value} (hm : m.get o = some (.cells vs e .sole)) (hle : off + new.length ≤ vs.length) (hc : new.all isCell = true) : m.storeN o off new = some (m.put o (.cells (splice vs off new) e .sole)) := by
  unfold Mem.storeN
  rw [hm]
  simp only [show Nat.ble (off + new.length) vs.length = true from Nat.ble_eq_true_of_le hle, hc, Bool.and_self, cond_true]

theorem loadN_get {o off n e : Nat} {vs : List Value} {st : Stat} (hm : m.get o = some (.cells vs e st)) (hal : m.alive st = true) (hle : off + n ≤ vs.length) : m.loadN o off n = some ((vs.drop off).take n) := by
  unfold Mem.loadN Mem.cells
  rw [hm]
  simp only [hal, cond_true, Option.bind_some]
  rw [show Nat.ble (off + n) vs.length = true from Nat.ble_eq_true_of_le hle]
  rfl

end
end Go.Ev

namespace Go.Ev
set_option linter.unusedSectionVars false
variable [Atoms]
open Go.RowKit (Below)

/-! a function that writes, run on a memory of its own; what it leaves goes back under the caller's names -/

section
variable {P : Program} {B : Nat → Prop} {w0 : World}

def isSole : Option AObj → Bool
  | some (.cells _ _ .sole) => true
  | _ => false

/-- the blocks that the function does not write -/
def ownB (μ : Mu) (σ : Nat → Nat) (mA : Mem) (w : World) (b : Nat) : Prop := b < w.heap.size ∧ ∀ i l, i < mA.next → isSole (mA.get i) = true → μ (σ i) = some l → b ≠ l.blk

theorem Rel.own {μ : Mu} {m mA : Mem} {w : World} (h : Rel B w0 μ m w) {σ : Nat → Nat} (hk : Keeps σ m mA) : Rel (ownB μ σ mA w) w (reMu σ mA.next μ) mA w where
  below := Kept.refl _ _
  base := fun _ h => h.1
  dom o l e := (h.ren hk).dom o l e
  obj o l e := by
    have hob := (h.ren hk).obj o l e
    obtain ⟨vs1, vs, sz, st, g1, g2, g3, g4⟩ := hk.obj o ((h.ren hk).dom o l e).1
    rw [g1] at hob ⊢
    obtain ⟨c, el, fz, h1, h2, h3, h4, h5⟩ := hob.blk
    refine ⟨hob.esz, hob.grp, c, el, fz, h1, h2, h3, fun hro => ⟨fun q => ?_, (h4 hro).2⟩, h5⟩
    rcases g3 with rfl | rfl
    · exact hro rfl
    · have ho := ((h.ren hk).dom o l e).1
      unfold reMu at e
      rw [if_pos ho] at e
      exact q.2 o l ho (by rw [g1]; rfl) e rfl
  sep := (h.ren hk).sep

/-- what is left of the caller's objects and what is new: as they were, exported, or out of use -/
structure GivesBack (σ : Nat → Nat) (μ : Mu) (m mA : Mem) (μ1 : Mu) (m1 : Mem) (μ' : Mu) (m' : Mem) : Prop where
  next : m.next ≤ m'.next
  old : ∀ o, o < m.next → μ' o = μ o
  dom : ∀ o l, μ' o = some l → o < m'.next
  alive : ∀ st : Stat, (∀ g, st.grp = some g → g < m.next) → m'.alive st = m.alive st
  /-- the objects that were written are cells still -/
  cells : ∀ i, i < mA.next → isSole (mA.get i) = true → ∃ us e st, m1.get i = some (.cells us e st) ∧ st ≠ .ro ∧ e ≠ 1
  cls : ∀ o l, μ' o = some l →
    (o < m.next ∧ (∀ i, i < mA.next → isSole (mA.get i) = true → o ≠ σ i) ∧ m'.get o = m.get o) ∨
    ((m.next ≤ o ∨ ∃ i, i < mA.next ∧ isSole (mA.get i) = true ∧ o = σ i) ∧ ∃ j vs us e, μ1 j = some l ∧ m'.get o = some (.cells vs e .sole) ∧ m1.get j = some (.cells us e .sole) ∧ vs.length ≤ us.length ∧ ∀ (i : Nat) (u u1 v : Value), vs[i]? = some u → us[i]? = some u1 → VRel μ1 u1 v → VRel μ' u v) ∨
    (o < m.next ∧ (∃ i, i < mA.next ∧ isSole (mA.get i) = true ∧ o = σ i) ∧ ∃ vs e g, m.get o = some (.cells vs e .sole) ∧ m'.get o = some (.cells vs e (.old g)) ∧ m'.get g = some (.group false) ∧ g < m'.next)
  /-- two that are exported are two -/
  two : ∀ o1 o2 l1 l2, o1 ≠ o2 → μ' o1 = some l1 → μ' o2 = some l2 → isSole (m'.get o1) = true → isSole (m'.get o2) = true → (m.next ≤ o1 ∨ ∃ i, i < mA.next ∧ isSole (mA.get i) = true ∧ o1 = σ i) → (m.next ≤ o2 ∨ ∃ i, i < mA.next ∧ isSole (mA.get i) = true ∧ o2 = σ i) → l1.blk ≠ l2.blk

theorem sole_of {σ : Nat → Nat} {m mA : Mem} (hk : Keeps σ m mA) {i : Nat} (hi : i < mA.next) (hs : isSole (mA.get i) = true) : ∃ vs e, m.get (σ i) = some (.cells vs e .sole) := by
  obtain ⟨vs1, vs, e, st, g1, g2, _, _⟩ := hk.obj i hi
  rw [g1] at hs
  cases st <;> first | exact ⟨vs, e, g2⟩ | cases hs

theorem Rel.back {μ μ1 μ' : Mu} {m mA m1 m' : Mem} {w w' : World} (h : Rel B w0 μ m w) {σ : Nat → Nat} (hk : Keeps σ m mA) (h1 : Rel (ownB μ σ mA w) w μ1 m1 w') (hx : ∀ i, i < mA.next → μ1 i = μ (σ i)) (hg : GivesBack σ μ m mA μ1 m1 μ' m') : Rel B w0 μ' m' w' := by
  have bB : ∀ b, B b → ownB μ σ mA w b := by
    intro b hb
    refine ⟨h.base b hb, fun i l hi hs hl e => ?_⟩
    obtain ⟨vs, ee, hm⟩ := sole_of hk hi hs
    have hob := h.obj _ l hl
    rw [hm] at hob
    obtain ⟨c, el, fz, _, _, _, h4, _⟩ := hob.blk
    exact (h4 (by simp)).1 (e ▸ hb)
  have hle : Mu.le μ μ' := fun o l e => by rw [hg.old o (h.dom o l e).1]; exact e
  have written : ∀ i l, i < mA.next → isSole (mA.get i) = true → μ (σ i) = some l → ∃ c el, w'.heap[l.blk]? = some (.cells c el (0, 0)) ∧ c.size = l.csz := by
    intro i l hi hs hl
    obtain ⟨us, e, st, q1, q2, q3⟩ := hg.cells i hi hs
    have hob := h1.obj i l (by rw [hx i hi]; exact hl)
    rw [q1] at hob
    obtain ⟨c, el, fz, k1, k2, _, k4, _⟩ := hob.blk
    have hf : fz = (0, 0) := (k4 q2).2.plain.resolve_left q3
    subst hf
    exact ⟨c, el, k1, k2⟩
  have shape : ∀ o l i li vs e st, μ o = some l → m.get o = some (.cells vs e st) → i < mA.next → isSole (mA.get i) = true → μ (σ i) = some li → l.blk = li.blk → st ≠ .ro →
      e = l.esz ∧ (∀ g, st.grp = some g → g < m.next) ∧ ¬ B l.blk ∧ ∃ c el, w'.heap[l.blk]? = some (.cells c el (0, 0)) ∧ c.size = l.csz ∧ l.base + vs.length ≤ c.size := by
    intro o l i li vs e st ho hm hi hs hl hb hro
    obtain ⟨c, el, k1, k2⟩ := written i li hi hs hl
    have hob := h.obj o l ho
    rw [hm] at hob
    obtain ⟨c0, el0, fz0, p1, p2, p3, p4, _⟩ := hob.blk
    obtain ⟨vs2, e2, hm2⟩ := sole_of hk hi hs
    have hob2 := h.obj _ li hl
    rw [hm2] at hob2
    obtain ⟨c1, el1, fz1, r1, r2, _⟩ := hob2.blk
    rw [← hb, p1] at r1
    cases r1
    have hsz : c.size = l.csz := by rw [k2, ← r2, p2]
    exact ⟨hob.esz, hob.grp, (p4 hro).1, c, el, by rw [hb]; exact k1, hsz, by rw [hsz, ← p2]; exact p3⟩
  have other : ∀ o l, μ o = some l → (∀ i, i < mA.next → isSole (mA.get i) = true → o ≠ σ i) → ¬ ownB μ σ mA w l.blk →
      ∃ i li vs e st, i < mA.next ∧ isSole (mA.get i) = true ∧ μ (σ i) = some li ∧ l.blk = li.blk ∧ m.get o = some (.cells vs e st) ∧ m.alive st = false := by
    intro o l ho hne hn
    have : ∃ i li, i < mA.next ∧ isSole (mA.get i) = true ∧ μ (σ i) = some li ∧ l.blk = li.blk := by
      apply Classical.byContradiction
      intro hno
      exact hn ⟨(h.dom o l ho).2, fun i li a b c e => hno ⟨i, li, a, b, c, e⟩⟩
    obtain ⟨i, li, a, b, c, e⟩ := this
    obtain ⟨vs2, e2, hm2⟩ := sole_of hk a b
    obtain ⟨vs, ee, st, p, q⟩ := h.sole_alone c hm2 (hne i a b) ho e
    exact ⟨i, li, vs, ee, st, a, b, c, e, p, q⟩
  refine ⟨h.below.trans (h1.below.mono bB), fun k hk => Nat.lt_of_lt_of_le (h.base k hk) h1.below.size, ?_, ?_, ?_⟩
  · intro o l e
    refine ⟨hg.dom o l e, ?_⟩
    rcases hg.cls o l e with ⟨q, _, _⟩ | ⟨_, j, vs, us, ee, q, _⟩ | ⟨q, _, _⟩
    · rw [hg.old o q] at e
      exact Nat.lt_of_lt_of_le (h.dom o l e).2 h1.below.size
    · exact (h1.dom j l q).2
    · rw [hg.old o q] at e
      exact Nat.lt_of_lt_of_le (h.dom o l e).2 h1.below.size
  · intro o l e
    rcases hg.cls o l e with ⟨q, hne, hget⟩ | ⟨_, j, vs, us, ee, q, q1, q2, q3, q4⟩ | ⟨q, ⟨i, a, b, rfl⟩, vs, ee, g, q1, q2, q3, q4⟩
    · rw [hg.old o q] at e
      rw [hget]
      by_cases hb : ownB μ σ mA w l.blk
      · refine ((h.obj o l e).weaken hg.next fun vs ee st hm hal => ?_).mono hle (h1.below.block _ hb)
        have hob := h.obj o l e
        rw [hm] at hob
        rwa [hg.alive st hob.grp] at hal
      · obtain ⟨i, li, vs, ee, st, a, b, c, hbl, hm, hd⟩ := other o l e hne hb
        have hro : st ≠ .ro := by rintro rfl; cases hd
        obtain ⟨s1, s2, s3, cc, el, s4, s5, s6⟩ := shape o l i li vs ee st e hm a b c hbl hro
        rw [hm]
        refine ⟨s1, fun g hgg => Nat.lt_of_lt_of_le (s2 g hgg) hg.next, cc, el, (0, 0), s4, s5, s6, fun _ => ⟨s3, ⟨fun i _ hh => absurd hh.2 (Nat.not_lt_zero i), .inr rfl⟩⟩, fun hal => ?_⟩
        rw [hg.alive st s2, hd] at hal
        cases hal
    · have hob := h1.obj j l q
      rw [q2] at hob
      rw [q1]
      obtain ⟨c, el, fz, p1, p2, p3, p4, p5⟩ := hob.blk
      refine ⟨hob.esz, fun g hgg => (by cases hgg), c, el, fz, p1, p2, Nat.le_trans (Nat.add_le_add_left q3 _) p3, fun hro => ⟨fun hB => (p4 hro).1 (bB _ hB), (p4 hro).2⟩, fun _ i u hu => ?_⟩
      have hi : i < us.length := Nat.lt_of_lt_of_le (List.getElem?_eq_some_iff.1 hu).1 q3
      obtain ⟨v', r1, r2⟩ := p5 rfl i _ (List.getElem?_eq_getElem hi)
      exact ⟨v', r1, q4 i u _ v' hu (List.getElem?_eq_getElem hi) r2⟩
    · rw [hg.old _ q] at e
      obtain ⟨s1, s2, s3, cc, el, s4, s5, s6⟩ := shape (σ i) l i l vs ee .sole e q1 a b e rfl (by simp)
      rw [q2]
      refine ⟨s1, fun g' hgg => (by cases hgg; exact q4), cc, el, (0, 0), s4, s5, s6, fun _ => ⟨s3, ⟨fun i _ hh => absurd hh.2 (Nat.not_lt_zero i), .inr rfl⟩⟩, fun hal => ?_⟩
      rw [dead_of_grp (g := g) rfl q3] at hal
      cases hal
  · intro o1 o2 l1 l2 hne e1 e2 hb
    have c1 := hg.cls o1 l1 e1
    have c2 := hg.cls o2 l2 e2
    have kd : ∀ (o : Nat) (l l2 : Loc), o < m.next → μ o = some l → (∀ i, i < mA.next → isSole (mA.get i) = true → o ≠ σ i) → m'.get o = m.get o → ¬ ownB μ σ mA w l2.blk → l.blk = l2.blk → ∃ vs e st, m'.get o = some (.cells vs e st) ∧ m'.alive st = false := by
      intro o l l2 ho hl hno hget hn hbl
      obtain ⟨i, li, vs, ee, st, a, b, c, _, hm, hd⟩ := other o l hl hno (by rw [hbl]; exact hn)
      have hob := h.obj o l hl
      rw [hm] at hob
      exact ⟨vs, ee, st, hget.trans hm, by rw [hg.alive st hob.grp]; exact hd⟩
    have ex : ∀ j l us e, μ1 j = some l → m1.get j = some (.cells us e .sole) → ¬ ownB μ σ mA w l.blk := by
      intro j l us e hj hm
      have hob := h1.obj j l hj
      rw [hm] at hob
      obtain ⟨c, el, fz, _, _, _, p4, _⟩ := hob.blk
      exact (p4 (by simp)).1
    rcases c1 with ⟨q, hn1, hget1⟩ | ⟨z1, j, vs, us, ee, q, q1, q2, _⟩ | ⟨q, ⟨i, a, b, rfl⟩, vs, ee, g, q1, q2, q3, q4⟩
    · rw [hg.old o1 q] at e1
      rcases c2 with ⟨p, hn2, hget2⟩ | ⟨z2, j, vs, us, ee, p, p1, p2, _⟩ | ⟨p, _, vs, ee, g, p1, p2, p3, p4⟩
      · rw [hg.old o2 p] at e2
        rw [hget1, hget2]
        refine (h.sep o1 o2 l1 l2 hne e1 e2 hb).weaken fun vs e st hor hal => ?_
        rcases hor with hm | hm
        · have hob := h.obj o1 l1 e1
          rw [hm] at hob
          rwa [hg.alive st hob.grp] at hal
        · have hob := h.obj o2 l2 e2
          rw [hm] at hob
          rwa [hg.alive st hob.grp] at hal
      · obtain ⟨xs, xe, st, k1, k2⟩ := kd o1 l1 l2 q e1 hn1 hget1 (ex j l2 us ee p p2) hb
        rw [k1, p1]
        intro a1 _
        rw [k2] at a1; cases a1
      · have hob := h.obj o1 l1 e1
        rw [← hget1] at hob
        rw [p2]
        cases hx1 : m'.get o1 with
        | none => rw [hx1] at hob; exact hob.elim
        | some x =>
          cases x with
          | cells vs1 e1' st1 =>
            intro _ a2
            rw [dead_of_grp (g := g) rfl p3] at a2; cases a2
          | map es kk =>
            rw [hx1] at hob
            obtain ⟨fs, ck, r1, _⟩ := hob.blk
            exfalso
            rw [hg.old o2 p] at e2
            have hob2 := h.obj o2 l2 e2
            rw [p1] at hob2
            obtain ⟨c, el, fz, t1, _⟩ := hob2.blk
            rw [← hb, r1] at t1
            cases t1
          | group a => rw [hx1] at hob; exact hob.elim
    · rcases c2 with ⟨p, hn2, hget2⟩ | ⟨z2, j2, vs2, us2, ee2, p, p1, p2, _⟩ | ⟨p, _, vs2, ee2, g, p1, p2, p3, p4⟩
      · rw [hg.old o2 p] at e2
        obtain ⟨xs, xe, st, k1, k2⟩ := kd o2 l2 l1 p e2 hn2 hget2 (ex j l1 us ee q q2) hb.symm
        rw [k1, q1]
        intro _ a2
        rw [k2] at a2; cases a2
      · exact absurd hb (hg.two o1 o2 l1 l2 hne e1 e2 (by rw [q1]; rfl) (by rw [p1]; rfl) z1 z2)
      · rw [q1, p2]
        intro _ a2
        rw [dead_of_grp (g := g) rfl p3] at a2; cases a2
    · have hd := dead_of_grp (m := m') (st := .old g) (g := g) rfl q3
      rw [q2]
      have hob2 : ∃ x, m'.get o2 = some x ∧ ∀ es k, x ≠ .map es k := by
        rcases c2 with ⟨p, hn2, hget2⟩ | ⟨z2, j2, vs2, us2, ee2, p, p1, p2, _⟩ | ⟨p, _, vs2, ee2, g2, p1, p2, p3, p4⟩
        · rw [hg.old o2 p] at e2
          have hob := h.obj o2 l2 e2
          rw [hget2]
          cases hx2 : m.get o2 with
          | none => rw [hx2] at hob; exact hob.elim
          | some x =>
            refine ⟨x, rfl, fun es k hxe => ?_⟩
            subst hxe
            rw [hx2] at hob
            obtain ⟨fs, ck, r1, _⟩ := hob.blk
            rw [hg.old _ q] at e1
            have hob1 := h.obj _ l1 e1
            rw [q1] at hob1
            obtain ⟨c, el, fz, t1, _⟩ := hob1.blk
            rw [hb, r1] at t1
            cases t1
        · exact ⟨_, p1, fun es k hh => by cases hh⟩
        · exact ⟨_, p2, fun es k hh => by cases hh⟩
      obtain ⟨x, hx2, hxm⟩ := hob2
      rw [hx2]
      cases x with
      | cells vs2 e2' st2 => intro a1 _; rw [hd] at a1; cases a1
      | map es k => exact absurd rfl (hxm es k)
      | group a =>
        exfalso
        rcases c2 with ⟨p, hn2, hget2⟩ | ⟨z2, j2, vs2, us2, ee2, p, p1, p2, _⟩ | ⟨p, _, vs2, ee2, g2, p1, p2, p3, p4⟩
        · rw [hg.old o2 p] at e2
          have hob := h.obj o2 l2 e2
          rw [← hget2, hx2] at hob
          exact hob.elim
        · rw [p1] at hx2; cases hx2
        · rw [p2] at hx2; cases hx2

/-- a function that writes is told by what it leaves -/
theorem CallOk.writes {f : FuncId} {g T : List Value → Mem → Ret} (hc : ∀ (K : Nat → Prop) (w0 : World), CallOk P K w0 f g)
    (h : ∀ args m v m', T args m = some (v, m') → Free v ∧ ∃ σ mA argsA m1, Keeps σ m mA ∧ LRen σ mA.next argsA args ∧ g argsA mA = some (v, m1) ∧
      ∀ (μ μ1 : Mu) (w w' : World), Rel B w0 μ m w → Rel (ownB μ σ mA w) w μ1 m1 w' → Ext (reMu σ mA.next μ) mA μ1 m1 → ∃ μ', GivesBack σ μ m mA μ1 m1 μ' m' ∧ Ext μ m μ' m') : CallOk P B w0 f T := by
  intro args m v m' hT μ w args' hr ha
  obtain ⟨hv, σ, mA, argsA, m1, hk, hl, hg, hb⟩ := h args m v m' hT
  have key : ∀ v' w', Sim (ownB μ σ mA w) w (reMu σ mA.next μ) mA v m1 v' w' → Sim B w0 μ m v m' v' w' := by
    rintro v' w' ⟨μ1, k1, k2, k3⟩
    obtain ⟨μ', g1, g2⟩ := hb μ μ1 w w' hr k2 k3
    refine ⟨μ', hv _ _ _ k1, hr.back hk k2 (fun i hi => ?_) g1, g2⟩
    rw [k3.mu i hi]
    unfold reMu
    rw [if_pos hi]
  rcases hc (ownB μ σ mA w) w argsA mA v m1 hg (reMu σ mA.next μ) w args' (hr.own hk) (hl.rel ha) with ⟨h1, h2⟩ | ⟨v', w', h1, h2⟩
  · exact .inl ⟨h1, h2.mono fun e w' ⟨v', he, hs⟩ => ⟨v', he, key v' w' hs⟩⟩
  · exact .inr ⟨v', w', h1, key v' w' h2⟩

/-- a cells' object, its contents known otherwise -/
theorem Rel.swap {μ : Mu} {m : Mem} {w : World} (h : Rel B w0 μ m w) {o : Nat} {l : Loc} {vs vs2 : List Value} {e : Nat} {st : Stat} (hl : μ o = some l) (hm : m.get o = some (.cells vs e st)) (hst : st.grp = none)
    (hv : ∀ c el fz, w.heap[l.blk]? = some (.cells c el fz) → c.size = l.csz → l.base + vs2.length ≤ c.size ∧ ∀ (i : Nat) (u : Value), vs2[i]? = some u → ∃ v', c[l.base + i]? = some v' ∧ VRel μ u v') : Rel B w0 μ (m.put o (.cells vs2 e st)) w where
  below := h.below
  base := h.base
  dom k lk ek := ⟨(h.dom k lk ek).1, (h.dom k lk ek).2⟩
  obj k lk ek := by
    have hal : ∀ st' : Stat, (∀ g, st'.grp = some g → g ≠ o) → (m.put o (.cells vs2 e st)).alive st' = m.alive st' := fun st' hg => alive_put_other hg
    rw [Mem.get_put]
    by_cases hk : k = o
    · subst hk
      rw [if_pos rfl]
      rw [hl] at ek; cases ek
      have hob := h.obj k l hl
      rw [hm] at hob
      obtain ⟨c, el, fz, h1, h2, h3, h4, h5⟩ := hob.blk
      obtain ⟨k1, k2⟩ := hv c el fz h1 h2
      exact ⟨hob.esz, hob.grp, c, el, fz, h1, h2, k1, h4, fun _ => k2⟩
    · rw [if_neg hk]
      have hob := h.obj k lk ek
      cases hx : m.get k with
      | none => rw [hx] at hob; exact hob
      | some x =>
        rw [hx] at hob
        cases x with
        | map es q => exact hob
        | group a => exact hob
        | cells vs' e' st' =>
          obtain ⟨c, el, fz, h1, h2, h3, h4, h5⟩ := hob.blk
          refine ⟨hob.esz, hob.grp, c, el, fz, h1, h2, h3, h4, fun ha => h5 ?_⟩
          rwa [hal st' fun g hg he => ?_] at ha
          subst he
          cases hal2 : m.alive st' with
          | true =>
            have := alive_grp hal2 hg
            rw [hm] at this; cases this
          | false =>
            have := alive_grp ha hg
            rw [Mem.get_put, if_pos rfl] at this
            cases this
  sep o1 o2 l1 l2 hne e1 e2 hb := by
    have hs := h.sep o1 o2 l1 l2 hne e1 e2 hb
    have hlive : ∀ st' : Stat, (m.put o (.cells vs2 e st)).alive st' = true → m.alive st' = true := by
      intro st' ha
      cases hg : st'.grp with
      | none => cases st' <;> first | rfl | cases hg
      | some g =>
        by_cases he : g = o
        · subst he
          have := alive_grp ha hg
          rw [Mem.get_put, if_pos rfl] at this
          cases this
        · rwa [alive_put_other (fun g' hg' => by rw [hg] at hg'; cases hg'; exact he)] at ha
    rw [Mem.get_put, Mem.get_put]
    by_cases h1 : o1 = o
    · subst h1
      rw [if_pos rfl, if_neg (fun q => hne q.symm)]
      rw [hm] at hs
      cases hx : m.get o2 with
      | none => rw [hx] at hs; exact hs.elim
      | some x =>
        rw [hx] at hs
        cases x with
        | map es q => exact hs.elim
        | group a => exact hs.elim
        | cells vs' e' st' =>
          intro a1 a2
          rcases hs (hlive _ a1) (hlive _ a2) with k | ⟨g, k1, _⟩
          · exact .inl k
          · rw [hst] at k1; cases k1
    · rw [if_neg h1]
      by_cases h2 : o2 = o
      · subst h2
        rw [if_pos rfl]
        rw [hm] at hs
        cases hx : m.get o1 with
        | none => rw [hx] at hs; exact hs.elim
        | some x =>
          rw [hx] at hs
          cases x with
          | map es q => exact hs.elim
          | group a => exact hs.elim
          | cells vs' e' st' =>
            intro a1 a2
            rcases hs (hlive _ a1) (hlive _ a2) with k | ⟨g, _, k1, _⟩
            · exact .inl k
            · rw [hst] at k1; cases k1
      · rw [if_neg h2]
        exact hs.weaken fun vs' e' st' _ ha => hlive st' ha

/-- a function that writes is told by what it leaves; the memory that it is run on may say more than the caller's (spare cells, capacities) -/
theorem CallOk.writes2 {f : FuncId} {g T : List Value → Mem → Ret} (hc : ∀ (K : Nat → Prop) (w0 : World), CallOk P K w0 f g)
    (h : ∀ args m v m', T args m = some (v, m') → Free v ∧ ∀ (μ : Mu) (w : World) (args' : List Value), Rel B w0 μ m w → LRel μ args args' → ∃ σ mA, Keeps σ m mA ∧ ∃ mB argsB m1, mB.next = mA.next ∧
      Rel (ownB μ σ mA w) w (reMu σ mA.next μ) mB w ∧ LRel (reMu σ mA.next μ) argsB args' ∧ g argsB mB = some (v, m1) ∧
      ∀ (μ1 : Mu) (w' : World), Rel (ownB μ σ mA w) w μ1 m1 w' → Ext (reMu σ mA.next μ) mB μ1 m1 → ∃ μ', GivesBack σ μ m mA μ1 m1 μ' m' ∧ Ext μ m μ' m') : CallOk P B w0 f T := by
  intro args m v m' hT μ w args' hr ha
  obtain ⟨hv, h2⟩ := h args m v m' hT
  obtain ⟨σ, mA, hk, mB, argsB, m1, hn, hB, hl, hg, hb⟩ := h2 μ w args' hr ha
  have key : ∀ v' w', Sim (ownB μ σ mA w) w (reMu σ mA.next μ) mB v m1 v' w' → Sim B w0 μ m v m' v' w' := by
    rintro v' w' ⟨μ1, k1, k2, k3⟩
    obtain ⟨μ', g1, g2⟩ := hb μ1 w' k2 k3
    refine ⟨μ', hv _ _ _ k1, hr.back hk k2 (fun i hi => ?_) g1, g2⟩
    rw [k3.mu i (by rw [hn]; exact hi)]
    unfold reMu
    rw [if_pos hi]
  rcases hc (ownB μ σ mA w) w argsB mB v m1 hg (reMu σ mA.next μ) w args' hB hl with ⟨h1, h3⟩ | ⟨v', w', h1, h3⟩
  · exact .inl ⟨h1, h3.mono fun e w' ⟨v', he, hs⟩ => ⟨v', he, key v' w' hs⟩⟩
  · exact .inr ⟨v', w', h1, key v' w' h3⟩

end
end Go.Ev

namespace Go.Ev
set_option linter.unusedSectionVars false
variable [Atoms]
open Go.RowKit (Below)

/-! what is written no more is only read from here on -/

section
variable {P : Program} {B : Nat → Prop} {w0 : World} {nt : Nat}

/-- the cells that are kept, under other names; one's own may become another's -/
structure KeepsW (σ : Nat → Nat) (m m1 : Mem) : Prop where
  inj : ∀ i j, i < m1.next → j < m1.next → σ i = σ j → i = j
  obj : ∀ i, i < m1.next → ∃ vs1 vs e st st1, m1.get i = some (.cells vs1 e st1) ∧ m.get (σ i) = some (.cells vs e st) ∧ ((st = .ro ∧ st1 = .ro) ∨ (st = .sole ∧ (st1 = .sole ∨ st1 = .ro))) ∧ LRen σ m1.next vs1 (vs.take vs1.length)

theorem Keeps.toW {σ : Nat → Nat} {m m1 : Mem} (h : Keeps σ m m1) : KeepsW σ m m1 where
  inj := h.inj
  obj i hi := by
    obtain ⟨vs1, vs, e, st, a, b, c, d⟩ := h.obj i hi
    refine ⟨vs1, vs, e, st, st, a, b, ?_, d⟩
    rcases c with rfl | rfl
    · exact .inl ⟨rfl, rfl⟩
    · exact .inr ⟨rfl, .inl rfl⟩

theorem Rel.renW {μ : Mu} {m m1 : Mem} {w : World} (h : Rel B w0 μ m w) {σ : Nat → Nat} (hk : KeepsW σ m m1) : Rel B w0 (reMu σ m1.next μ) m1 w where
  below := h.below
  base := h.base
  dom o l e := by
    unfold reMu at e
    split at e
    · rename_i ho
      exact ⟨ho, (h.dom _ l e).2⟩
    · cases e
  obj o l e := by
    unfold reMu at e
    split at e
    · rename_i ho
      obtain ⟨vs1, vs, sz, st, st1, g1, g2, g3, g4⟩ := hk.obj o ho
      have hob := h.obj _ l e
      rw [g1]
      rw [g2] at hob
      obtain ⟨c, el, fz, h1, h2, h3, h4, h5⟩ := hob.blk
      have hal : m.alive st = true := by rcases g3 with ⟨rfl, _⟩ | ⟨rfl, _⟩ <;> rfl
      have hlen : vs1.length ≤ vs.length := by have := g4.len; simp at this; omega
      refine ⟨hob.esz, fun g hg => (by rcases g3 with ⟨_, rfl⟩ | ⟨_, rfl | rfl⟩ <;> cases hg), c, el, fz, h1, h2, by omega, fun hro => h4 (by rcases g3 with ⟨_, rfl⟩ | ⟨rfl, _⟩ <;> first | exact absurd rfl hro | simp), fun _ i v hv => ?_⟩
      have hi1 : i < vs1.length := (List.getElem?_eq_some_iff.1 hv).1
      have hi : i < vs.length := by omega
      obtain ⟨v', k1, k2⟩ := h5 hal i _ (List.getElem?_eq_getElem hi)
      exact ⟨v', k1, g4.ren i v _ hv (by rw [List.getElem?_take, if_pos hi1]; exact List.getElem?_eq_getElem hi) μ v' k2⟩
    · cases e
  sep o1 o2 l1 l2 hne e1 e2 hb := by
    unfold reMu at e1 e2
    split at e1
    · rename_i ho1
      split at e2
      · rename_i ho2
        obtain ⟨vs1, us1, sz1, st1, s1, a1, a2, a3, a4⟩ := hk.obj o1 ho1
        obtain ⟨vs2, us2, sz2, st2, s2, b1, b2, b3, b4⟩ := hk.obj o2 ho2
        have hs := h.sep (σ o1) (σ o2) l1 l2 (fun q => hne (hk.inj o1 o2 ho1 ho2 q)) e1 e2 hb
        rw [a2, b2] at hs
        rw [a1, b1]
        intro q1 q2
        have al1 : m.alive st1 = true := by rcases a3 with ⟨rfl, _⟩ | ⟨rfl, _⟩ <;> rfl
        have al2 : m.alive st2 = true := by rcases b3 with ⟨rfl, _⟩ | ⟨rfl, _⟩ <;> rfl
        rcases hs al1 al2 with ⟨k1, k2⟩ | ⟨g, k1, _⟩
        · left
          subst k1; subst k2
          refine ⟨?_, ?_⟩
          · rcases a3 with ⟨_, h⟩ | ⟨h, _⟩
            · exact h
            · cases h
          · rcases b3 with ⟨_, h⟩ | ⟨h, _⟩
            · exact h
            · cases h
        · rcases a3 with ⟨rfl, _⟩ | ⟨rfl, _⟩ <;> cases k1
      · cases e2
    · cases e1

theorem Weak.renW {s : Slots} {m m1 : Mem} {σ : Nat → Nat} (hk : KeepsW σ m m1) {l : List (Nat × Value)} (hl : AllOf (fun x : Nat × Value => VRen σ m1.next x.2 (s.get x.1)) l) : Weak B w0 nt s m (mkS nt l) m1 := by
  intro μ w a hr hs
  refine ⟨_, hr.renW hk, hs.size, fun t => ?_, hs.defers⟩
  rcases mkS_get (nt := nt) (l := l) (t := t) with h | h | ⟨h1, h2⟩
  · exact hl.mem _ h μ _ (hs.rel t)
  · rw [h]; exact .junk _
  · rw [h2]
    have : a.tmps.getD t undef = undef := by
      rw [Array.getD_eq_getD_getElem?, Array.getElem?_eq_none (by rw [hs.size]; exact h1)]
      rfl
    rw [this]
    exact .undef

end
end Go.Ev
namespace Go.Ev
section
variable [Atoms] {P : Program} {B : Nat → Prop} {w0 : World} {nt : Nat}

theorem Weak.refl (s : Slots) (m : Mem) : Weak B w0 nt s m s m := fun μ _ _ hr hs => ⟨μ, hr, hs⟩

/-- behind a piece of code only some of the slots are known -/
theorem HL.seqW {c d : Code} {s s1 : Slots} {m m1 : Mem} {Q : Ex → Slots → Mem → Prop} (h : HL P B w0 nt c s m fun e s' m' => e = .normal ∧ Weak B w0 nt s' m' s1 m1) (k : HL P B w0 nt d s1 m1 Q) : HL P B w0 nt (.seq c d) s m Q :=
  HL.seq (HL.mono h fun e s' m' ⟨he, hw⟩ => by subst he; exact HL.weak hw k)

/-- a loop whose invariant is of what is still known -/
theorem HL.blockLoopW {lid : Nat} {c : Code} {Q : Ex → Slots → Mem → Prop} (Inv : Nat → Slots → Mem → Prop) (h : ∀ n s m, Inv n s m → HL P B w0 nt c s m (LoopPost lid (fun n s m => ∃ s0 m0, Weak B w0 nt s m s0 m0 ∧ Inv n s0 m0) n Q)) {n : Nat} {s s1 : Slots} {m m1 : Mem} (hw : Weak B w0 nt s m s1 m1) (hi : Inv n s1 m1) :
    HL P B w0 nt (.block lid (.loop c)) s m Q :=
  HL.blockLoop (fun n s m => ∃ s0 m0, Weak B w0 nt s m s0 m0 ∧ Inv n s0 m0) (fun n s m ⟨s0, m0, hw, hi⟩ => HL.weak hw (h n s0 m0 hi)) ⟨s1, m1, hw, hi⟩
end
end Go.Ev

namespace Go.Ev
set_option linter.unusedSectionVars false
variable [Atoms]
open Go.RowKit (Below)

/-! a function that reads, and answers with a row that is new -/

section
variable {P : Program} {B : Nat → Prop} {w0 : World} {C : Ctx}

theorem Rel.fresh {μ : Mu} {m : Mem} {w : World} (h : Rel B w0 μ m w) {l : Loc} {vs : List Value} {e : Nat} (hb : l.blk < w.heap.size) (hnB : ¬ B l.blk) (hd : ∀ o l', μ o = some l' → l'.blk ≠ l.blk)
    (ho : CellsRel B (μ.set m.next l) (m.new (.cells vs e .sole)) w l vs e .sole) : Rel B w0 (μ.set m.next l) (m.new (.cells vs e .sole)) w := by
  have hle : Mu.le μ (μ.set m.next l) := fun o l' e' => by
    have := (h.dom o l' e').1
    rw [Mu.set_other _ _ (by omega)]; exact e'
  refine ⟨h.below, h.base, ?_, ?_, ?_⟩
  · intro o l' e'
    by_cases h1 : o = m.next
    · subst h1
      rw [Mu.set_same] at e'; cases e'
      exact ⟨Nat.lt_succ_self _, hb⟩
    · rw [Mu.set_other _ _ h1] at e'
      exact ⟨Nat.lt_succ_of_lt (h.dom o l' e').1, (h.dom o l' e').2⟩
  · intro o l' e'
    by_cases h1 : o = m.next
    · subst h1
      rw [Mu.set_same] at e'; cases e'
      rw [Mem.get_new, if_pos rfl]
      exact ho
    · rw [Mu.set_other _ _ h1] at e'
      rw [Mem.get_new, if_neg h1]
      have hob := h.obj o l' e'
      refine (hob.weaken (m' := m.new (.cells vs e .sole)) (Nat.le_succ _) fun vs' e2 st hx ha => ?_).mono hle rfl
      rw [hx] at hob
      rwa [alive_new_old hob.grp] at ha
  · intro o1 o2 l1 l2 hne e1 e2 hbb
    by_cases h1 : o1 = m.next
    · subst h1
      rw [Mu.set_same] at e1; cases e1
      rw [Mu.set_other _ _ hne.symm] at e2
      exact absurd hbb.symm (hd o2 l2 e2)
    · rw [Mu.set_other _ _ h1] at e1
      by_cases h2 : o2 = m.next
      · subst h2
        rw [Mu.set_same] at e2; cases e2
        exact absurd hbb (hd o1 l1 e1)
      · rw [Mu.set_other _ _ h2] at e2
        rw [Mem.get_new, if_neg h1, Mem.get_new, if_neg h2]
        have k1 := h.obj o1 l1 e1
        have k2 := h.obj o2 l2 e2
        refine (h.sep o1 o2 l1 l2 hne e1 e2 hbb).weaken fun vs' e' st hx ha => ?_
        rcases hx with hx | hx
        · rw [hx] at k1; rwa [alive_new_old k1.grp] at ha
        · rw [hx] at k2; rwa [alive_new_old k2.grp] at ha

theorem CallOk.makes {f : FuncId} {g T : List Value → Mem → Ret} (hc : ∀ (K : Nat → Prop) (w0 : World), CallOk P K w0 f g)
    (h : ∀ args m v m', T args m = some (v, m') → ∃ σ mR argsR v1 m1 j vs us e, Reads σ m mR ∧ LRen σ mR.next argsR args ∧ g argsR mR = some (v1, m1) ∧ m1.get j = some (.cells us e .sole) ∧ m' = m.new (.cells vs e .sole) ∧ vs.length ≤ us.length ∧
      (∀ (i : Nat) (u u1 : Value), vs[i]? = some u → us[i]? = some u1 → ∀ (μ1 μ' : Mu) (val : Value), VRel μ1 u1 val → VRel μ' u val) ∧
      (∀ (μ1 : Mu) (val : Value), VRel μ1 v1 val → ∃ l, μ1 j = some l) ∧
      (∀ (K : Nat → Prop) (μ1 μ' : Mu) (w w' : World) (val : Value), Rel K w μ1 m1 w' → μ' m.next = μ1 j → VRel μ1 v1 val → VRel μ' v val)) : CallOk P B w0 f T := by
  intro args m v m' hT μ w args' hr ha
  obtain ⟨σ, mR, argsR, v1, m1, j, vs, us, e, h1, h2, h3, h4, rfl, h6, h7, h8, h9⟩ := h args m v m' hT
  have key : ∀ v' w', Sim (upTo w.heap.size) w (reMu σ mR.next μ) mR v1 m1 v' w' → Sim B w0 μ m v (m.new (.cells vs e .sole)) v' w' := by
    rintro v' w' ⟨μ1, k1, k2, k3⟩
    obtain ⟨l, hl⟩ := h8 μ1 v' k1
    have hs := hr.stays (k2.below.toBelow fun _ h => h)
    have hob := k2.obj j l hl
    rw [h4] at hob
    obtain ⟨c, el, fz, p1, p2, p3, p4, p5⟩ := hob.blk
    have hup : ¬ upTo w.heap.size l.blk := (p4 (by simp)).1
    have hold : ∀ o l', μ o = some l' → l'.blk ≠ l.blk := fun o l' e' hbe => hup (by rw [← hbe]; exact (hr.dom o l' e').2)
    have hB : ¬ B l.blk := fun hb => hup (hr.base _ hb)
    refine ⟨μ.set m.next l, h9 _ _ _ _ _ _ k2 ((Mu.set_same _ _ _).trans hl.symm) k1, hs.fresh (k2.dom j l hl).2 hB hold ?_, ⟨Nat.le_succ _, fun o ho => Mu.set_other _ _ (by omega), fun o ho _ _ => by rw [Mem.get_new, if_neg (by omega)], fun o l' e' => by
      have := (hr.dom o l' e').1
      rw [Mu.set_other _ _ (by omega)]; exact e'⟩⟩
    refine ⟨hob.esz, fun g hg => (by cases hg), c, el, fz, p1, p2, Nat.le_trans (Nat.add_le_add_left h6 _) p3, fun _ => ⟨hB, (p4 (by simp)).2⟩, fun _ i u hu => ?_⟩
    have hi : i < us.length := Nat.lt_of_lt_of_le (List.getElem?_eq_some_iff.1 hu).1 h6
    obtain ⟨v2, q1, q2⟩ := p5 rfl i _ (List.getElem?_eq_getElem hi)
    exact ⟨v2, q1, h7 i u _ hu (List.getElem?_eq_getElem hi) μ1 _ v2 q2⟩
  rcases hc (upTo w.heap.size) w argsR mR v1 m1 h3 (reMu σ mR.next μ) w args' (hr.ro h1) (h2.rel ha) with ⟨q1, q2⟩ | ⟨v', w', q1, q2⟩
  · exact .inl ⟨q1, q2.mono fun e w' ⟨v', he, hs⟩ => ⟨v', he, key v' w' hs⟩⟩
  · exact .inr ⟨v', w', q1, key v' w' q2⟩

end
end Go.Ev
