/- A part of an evaluator of the model and of the proof that what it answers the model does; no condition. -/
import Derived.Test.YtcjmogljihkfnaaEvTop
set_option linter.unusedVariables false
set_option linter.unusedSimpArgs false
namespace Go.Ev

/-! the evaluator, run by hand where a branch hangs on what is not known -/

section
variable {C : Ctx} {call : CallF} {fid : Nat}

def RunP (C : Ctx) (call : CallF) (fid : Nat) (c : Code) (s : Slots) (m : Mem) (Q : Ex → Slots → Mem → Prop) : Prop := ∃ e s' m', runCode C call fid c s m = some (e, s', m') ∧ Q e s' m'

def OpsP (C : Ctx) (call : CallF) (ops : Array Oper) (l : List Oper) (s : Slots) (m : Mem) (Q : Slots → Mem → Prop) : Prop := ∃ s' m', runOps C call ops l s m = some (s', m') ∧ Q s' m'

theorem RunP.seq {a b : Code} {s : Slots} {m : Mem} {Q : Ex → Slots → Mem → Prop}
    (h : RunP C call fid a s m fun e s m => match e with | .normal => RunP C call fid b s m Q | e => Q e s m) : RunP C call fid (.seq a b) s m Q := by
  obtain ⟨e, s1, m1, h1, h2⟩ := h
  cases e with
  | normal =>
    obtain ⟨e2, s2, m2, h3, h4⟩ := h2
    exact ⟨e2, s2, m2, by simp only [runCode, h1, Option.bind_some]; exact h3, h4⟩
  | exit id => exact ⟨_, s1, m1, by simp only [runCode, h1, Option.bind_some], h2⟩
  | ret => exact ⟨_, s1, m1, by simp only [runCode, h1, Option.bind_some], h2⟩

theorem RunP.region {id : Nat} {ops : Array Oper} {s : Slots} {m : Mem} {Q : Ex → Slots → Mem → Prop} (h : OpsP C call ops ops.toList s m fun s m => Q .normal s m) : RunP C call fid (.region id ops false) s m Q := by
  obtain ⟨s1, m1, h1, h2⟩ := h
  exact ⟨.normal, s1, m1, by simp only [runCode, cond_false, h1, Option.bind_some], h2⟩

theorem RunP.cond {x : Operand} {a b : Code} {s : Slots} {m : Mem} {Q : Ex → Slots → Mem → Prop} {t : Bool} (hx : s.eval x = .bool t) (h1 : t = true → RunP C call fid a s m Q) (h2 : t = false → RunP C call fid b s m Q) :
    RunP C call fid (.cond x a b) s m Q := by
  cases t with
  | true =>
    obtain ⟨e, s', m', k1, k2⟩ := h1 rfl
    exact ⟨e, s', m', by simp only [runCode, hx, cond_true]; exact k1, k2⟩
  | false =>
    obtain ⟨e, s', m', k1, k2⟩ := h2 rfl
    exact ⟨e, s', m', by simp only [runCode, hx, cond_false]; exact k1, k2⟩

theorem RunP.mono {c : Code} {s : Slots} {m : Mem} {Q Q' : Ex → Slots → Mem → Prop} (h : RunP C call fid c s m Q) (hq : ∀ e s m, Q e s m → Q' e s m) : RunP C call fid c s m Q' :=
  let ⟨e, s', m', h1, h2⟩ := h; ⟨e, s', m', h1, hq _ _ _ h2⟩

def outIs (f : Ex → Slots → Mem → Bool) (r : Out) : Bool := match r with
  | some (e, s, m) => f e s m
  | none => false

/-- the kernel runs it -/
theorem RunP.all {c : Code} {s : Slots} {m : Mem} {f : Ex → Slots → Mem → Bool} (h : outIs f (runCode C call fid c s m) = true) : RunP C call fid c s m fun e s m => f e s m = true := by
  cases hr : runCode C call fid c s m with
  | none => rw [hr] at h; cases h
  | some r =>
    obtain ⟨e, s', m'⟩ := r
    rw [hr] at h
    exact ⟨e, s', m', hr, h⟩

theorem OpsP.nil {ops : Array Oper} {s : Slots} {m : Mem} {Q : Slots → Mem → Prop} (h : Q s m) : OpsP C call ops [] s m Q := ⟨s, m, rfl, h⟩

theorem OpsP.step {ops : Array Oper} {o : Oper} {r : List Oper} {s s1 : Slots} {m m1 : Mem} {Q : Slots → Mem → Prop} (hs : stepOp C call ops o s m = some (s1, m1)) (h : OpsP C call ops r s1 m1 Q) : OpsP C call ops (o :: r) s m Q := by
  obtain ⟨s', m', h1, h2⟩ := h
  exact ⟨s', m', by simp only [runOps, hs, Option.bind_some]; exact h1, h2⟩

/-- some are run by the kernel -/
theorem OpsP.run {ops : Array Oper} : ∀ {l r : List Oper} {s s1 : Slots} {m m1 : Mem} {Q : Slots → Mem → Prop}, runOps C call ops l s m = some (s1, m1) → OpsP C call ops r s1 m1 Q → OpsP C call ops (l ++ r) s m Q
  | [], r, s, s1, m, m1, Q, h, k => by
    simp only [runOps, Option.some.injEq, Prod.mk.injEq] at h
    obtain ⟨rfl, rfl⟩ := h
    exact k
  | o :: l, r, s, s1, m, m1, Q, h, k => by
    simp only [runOps] at h
    obtain ⟨sm, h1, h⟩ := Option.bind_eq_some_iff.1 h
    obtain ⟨s2, m2⟩ := sm
    exact OpsP.step h1 (OpsP.run h k)

def Out.get (r : Option (Slots × Mem)) : Slots × Mem := match r with | some x => x | none => (⟨.leaf⟩, ⟨.leaf, 0⟩)

theorem OpsP.take {ops : Array Oper} (n : Nat) {l : List Oper} {s : Slots} {m : Mem} {Q : Slots → Mem → Prop} (h : (runOps C call ops (l.take n) s m).isSome = true)
    (k : OpsP C call ops (l.drop n) (Out.get (runOps C call ops (l.take n) s m)).1 (Out.get (runOps C call ops (l.take n) s m)).2 Q) : OpsP C call ops l s m Q := by
  rw [← List.take_append_drop n l]
  cases hr : runOps C call ops (l.take n) s m with
  | none => rw [hr] at h; cases h
  | some x =>
    rw [hr] at k
    exact OpsP.run hr k

def boolAt (d : Nat) (r : Option (Slots × Mem)) : Bool := match r with
  | some (s, _) => (match s.get d with | .bool b => b | _ => false)
  | none => false

/-- an operation that answers a Bool that is not known -/
theorem OpsP.bool {ops : Array Oper} {o : Oper} {r : List Oper} {s : Slots} {m : Mem} {Q : Slots → Mem → Prop} (d : Nat)
    (hs : stepOp C call ops o s m = some (s.put (some d) (.bool (boolAt d (stepOp C call ops o s m))), m)) (h : ∀ b, boolAt d (stepOp C call ops o s m) = b → OpsP C call ops r (s.put (some d) (.bool b)) m Q) : OpsP C call ops (o :: r) s m Q :=
  OpsP.step hs (h _ rfl)

/-- the same, the operation by its place -/
theorem OpsP.boolAt {ops : Array Oper} {l : List Oper} {s : Slots} {m : Mem} {Q : Slots → Mem → Prop} (d : Nat) {o : Oper} {r : List Oper} (hl : l = o :: r)
    (hs : stepOp C call ops o s m = some (s.put (some d) (.bool (Ev.boolAt d (stepOp C call ops o s m))), m)) (h : ∀ b, Ev.boolAt d (stepOp C call ops o s m) = b → OpsP C call ops r (s.put (some d) (.bool b)) m Q) : OpsP C call ops l s m Q := by
  subst hl
  exact OpsP.bool d hs h

/-- all that is left of a region -/
theorem OpsP.rest {ops : Array Oper} {l : List Oper} {s : Slots} {m : Mem} {Q : Slots → Mem → Prop} (h : (runOps C call ops l s m).isSome = true) (k : Q (Out.get (runOps C call ops l s m)).1 (Out.get (runOps C call ops l s m)).2) : OpsP C call ops l s m Q := by
  cases hr : runOps C call ops l s m with
  | none => rw [hr] at h; cases h
  | some x =>
    rw [hr] at k
    exact ⟨x.1, x.2, hr, k⟩

def sA : Code → Code
  | .seq a _ => a
  | c => c
def sB : Code → Code
  | .seq _ b => b
  | c => c
def ifX : Code → Operand
  | .cond x _ _ => x
  | _ => .tmp 0
def ifA : Code → Code
  | .cond _ a _ => a
  | c => c
def ifB : Code → Code
  | .cond _ _ b => b
  | c => c
def rOps : Code → Array Oper
  | .region _ ops _ => ops
  | _ => #[]
def rId : Code → Nat
  | .region id _ _ => id
  | _ => 0
def bodyOf (fn : Func) : Code := match fn.body with | some c => c | none => .skip

/-- it ends, and answers true -/
def saysTrue (C : Ctx) (rs : List ResultVar) (e : Ex) (s : Slots) (m : Mem) : Bool := match e, resV C s m rs with
  | .ret, some [.bool true] => true
  | _, _ => false

theorem saysTrue_spec {rs : List ResultVar} {e : Ex} {s : Slots} {m : Mem} (h : saysTrue C rs e s m = true) : (∀ id, e ≠ .exit id) ∧ ∃ l, resV C s m rs = some l ∧ mkRes l = .bool true := by
  unfold saysTrue at h
  split at h
  · rename_i hr
    exact ⟨fun id => (by intro q; cases q), _, hr, rfl⟩
  · cases h

/-- a whole function -/
theorem runFn_of {fn : Func} {c : Code} {args : List Value} {m : Mem} (hb : fn.body = some c) (hl : Nat.ble args.length fn.ntmps = true) {R : Value → Mem → Prop}
    (h : RunP C call fid c (initSlots args) m fun e s m => (∀ id, e ≠ .exit id) ∧ ∃ l, resV C s m fn.results.toList = some l ∧ R (mkRes l) m) : ∃ v m', runFn C call fid fn args m = some (v, m') ∧ R v m' := by
  obtain ⟨e, s, m', h1, h2, l, h3, h4⟩ := h
  refine ⟨mkRes l, m', ?_, h4⟩
  simp only [runFn, hb, hl, cond_true, h1, Option.bind_some]
  cases e with
  | exit id => exact absurd rfl (h2 id)
  | normal => simp only [h3, Option.bind_some]
  | ret => simp only [h3, Option.bind_some]

end
end Go.Ev
