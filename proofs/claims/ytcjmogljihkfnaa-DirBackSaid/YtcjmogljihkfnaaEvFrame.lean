/- A part of an evaluator of the model and of the proof that what it answers the model does; no condition. -/
import Derived.Test.YtcjmogljihkfnaaEvTop
import Derived.Test.YtcjmogljihkfnaaEvSym
set_option linter.unusedVariables false
set_option linter.unusedSimpArgs false
namespace Go.Ev
set_option linter.unusedSectionVars false
variable [Atoms]
open Go.RowKit (Below)

/-! calls that read nothing are told; what is known of values -/

section
variable {B : Nat} {w0 : World} {μ : Mu} {m : Mem} {w : World} {P : Program}

/-- what has a name is as it was where nothing old turned -/
theorem Rel.stays (h : Rel B w0 μ m w) {w' : World} (hb : Below w.heap.size w w') : Rel B w0 μ m w' where
  below := h.below.trans (hb.mono h.base)
  base := Nat.le_trans h.base hb.size
  dom o l e := ⟨(h.dom o l e).1, Nat.lt_of_lt_of_le (h.dom o l e).2 hb.size⟩
  obj o l e := (h.obj o l e).mono (Mu.le_refl μ) (hb.block _ (h.dom o l e).2)
  sep := h.sep

def flat1 : Value → Bool
  | .bool _ | .int _ _ | .string _ => true
  | _ => false

theorem flat1_rel {ν : Mu} {v v' : Value} (h : flat1 v = true) (hv : VRel μ v v') : VRel ν v v' := by
  cases hv with
  | bool b => exact .bool b
  | int k n => exact .int k n
  | string s => exact .string s
  | _ => cases h

/-- a function without arguments that answers v and leaves all as it is -/
def told0 (v : Value) : List Value → Mem → Ret := fun bs m => match bs with
  | [] => some (v, m)
  | _ => none

theorem CallOk.closed {f : FuncId} {g : List Value → Mem → Ret} {v : Value} {m1 : Mem} (hc : ∀ B w0, CallOk P B w0 f g) (hg : g [] ⟨.leaf, 0⟩ = some (v, m1)) (hv : flat1 v = true) (B : Nat) (w0 : World) :
    CallOk P B w0 f (told0 v) := by
  intro args m v' m' h μ w args' hr ha
  cases args with
  | cons a l => cases h
  | nil =>
    simp only [told0, Option.some.injEq, Prod.mk.injEq] at h
    obtain ⟨rfl, rfl⟩ := h
    have e := ha.nil_left
    subst e
    rcases hc w.heap.size w [] _ _ _ hg (fun _ => none) w [] (Rel.start w) LRel.nil with ⟨h1, h2⟩ | ⟨v2, w2, h1, ν, h3, h4, _⟩
    · exact .inl ⟨h1, h2.mono fun e w' ⟨v2, he, ν, h3, h4, _⟩ => ⟨v2, he, μ, flat1_rel hv h3, hr.stays h4.below, Ext.refl _ _⟩⟩
    · exact .inr ⟨v2, w2, h1, μ, flat1_rel hv h3, hr.stays h4.below, Ext.refl _ _⟩

/-- the tables, and what is known of values -/
def Ctx.knows (C : Ctx) (fact : BinOp → Value → Value → Option Value) (len : Nat → Option Value) (kind : Nat → Option Bool) : Ctx := { C with fact := fact, len := len, kind := kind }

theorem Ctx.Ok.knows {C : Ctx} (h : C.Ok P) {fact : BinOp → Value → Value → Option Value} {len : Nat → Option Value} {kind : Nat → Option Bool}
    (hf : ∀ op x y v, fact op x y = some v → ∃ x1 y1, Res x x1 ∧ Res y y1 ∧ ((∃ k m n, x1 = .int k m ∧ y1 = .int k n ∧ intOp op k m n = some v) ∨ ∃ s t, x1 = .string s ∧ y1 = .string t ∧ strOp op s t = some v))
    (hl : ∀ j v, len j = some v → ∃ s : ByteArray, Atoms.val j = .string s ∧ ∀ μ, VRel μ v (.int .i64 s.data.size))
    (hk : ∀ j b, kind j = some b → (b = true → ∃ s, Atoms.val j = .string s) ∧ (b = false → ∃ k n, Atoms.val j = .int k n)) : (C.knows fact len kind).Ok P where
  facts := hf
  kinds := hk
  lens := hl
  types := h.types
  zero := h.zero

theorem Ctx.EqOk.knows {C : Ctx} (h : C.EqOk P) (fact : BinOp → Value → Value → Option Value) (len : Nat → Option Value) (kind : Nat → Option Bool) : (C.knows fact len kind).EqOk P := ⟨h.stood, h.guard⟩

theorem selfOk_knows (C : Ctx) (fact : BinOp → Value → Value → Option Value) (len : Nat → Option Value) (kind : Nat → Option Bool) (ops : Array Oper) (q : Nat) : selfOk (C.knows fact len kind) ops q = selfOk C ops q := rfl
theorem okFloats_knows (C : Ctx) (fact : BinOp → Value → Value → Option Value) (len : Nat → Option Value) (kind : Nat → Option Bool) (ops : Array Oper) (bef : Nat → Nat) (M : Nat) : ∀ (l D : List Nat), okFloats (C.knows fact len kind) ops bef M D l = okFloats C ops bef M D l
  | [], _ => rfl
  | q :: r, D => by simp only [okFloats, selfOk_knows, okFloats_knows C fact len kind ops bef M r]
theorem okReads_knows (C : Ctx) (fact : BinOp → Value → Value → Option Value) (len : Nat → Option Value) (kind : Nat → Option Bool) (ops : Array Oper) (M : Nat) (ag D : List Nat) : okReads (C.knows fact len kind) ops M ag D = okReads C ops M ag D := rfl
theorem okRest_knows (C : Ctx) (fact : BinOp → Value → Value → Option Value) (len : Nat → Option Value) (kind : Nat → Option Bool) (ops : Array Oper) (bef : Nat → Nat) : ∀ (l : List Phase) (D : List Nat), okRest (C.knows fact len kind) ops bef D l = okRest C ops bef D l
  | [], _ => rfl
  | q :: r, D => by simp only [okRest, okFloats_knows, okReads_knows, okRest_knows C fact len kind ops bef r]
theorem okPlan_knows (C : Ctx) (fact : BinOp → Value → Value → Option Value) (len : Nat → Option Value) (kind : Nat → Option Bool) (nt : Nat) (ops : Array Oper) (T : Tree Nat) (pl : Plan) : okPlan (C.knows fact len kind) nt ops T pl = okPlan C nt ops T pl := by
  simp only [okPlan, okFloats_knows, okReads_knows, okRest_knows]

theorem codeOk_knows (C : Ctx) (fact : BinOp → Value → Value → Option Value) (len : Nat → Option Value) (kind : Nat → Option Bool) (M : Nat → Nat → Tree Nat) (nt fid : Nat) : ∀ c : Code, codeOk (C.knows fact len kind) M nt fid c = codeOk C M nt fid c := by
  intro c
  induction c with
  | seq a b iha ihb => simp only [codeOk, iha, ihb]
  | cond x a b iha ihb => simp only [codeOk, iha, ihb]
  | block i b ih => simp only [codeOk, ih]
  | loop b ih => simp only [codeOk, ih]
  | region id ops d =>
    simp only [codeOk]
    have : (C.knows fact len kind).plans = C.plans := rfl
    rw [this]
    cases d with
    | false => rfl
    | true =>
      simp only [cond_true]
      cases C.plans fid id with
      | none => rfl
      | some pl => exact okPlan_knows C fact len kind nt ops (M fid id) pl
  | _ => rfl

theorem FunsOk.knows {C : Ctx} {M : Nat → Nat → Tree Nat} (h : FunsOk C M P) (fact : BinOp → Value → Value → Option Value) (len : Nat → Option Value) (kind : Nat → Option Bool) : FunsOk (C.knows fact len kind) M P where
  at_ f fn hf := by
    obtain ⟨h1, h2, h3⟩ := h.at_ f fn hf
    exact ⟨h1, h2, fun c hc => by rw [codeOk_knows]; exact h3 c hc⟩

theorem Res.atom (j : Nat) : Res (Ev.atom j) (Atoms.val j) := by
  intro μ x' h
  cases h
  rfl
theorem Res.int (k : IntKind) (n : Int) : Res (.int k n) (.int k n) := by
  intro μ x' h
  cases h
  rfl
theorem Res.string (s : ByteArray) : Res (.string s) (.string s) := by
  intro μ x' h
  cases h
  rfl

def isTrue : Ret → Bool
  | some (.bool true, _) => true
  | _ => false
theorem isTrue_spec {r : Ret} (h : isTrue r = true) : ∃ m', r = some (.bool true, m') := by
  unfold isTrue at h
  split at h
  · exact ⟨_, rfl⟩
  · cases h

def isAtom (j : Nat) : Value → Bool
  | .pointer (some ⟨i, o, some k⟩) => Nat.beq i j && (Nat.beq o 0 && Nat.beq k 0)
  | _ => false
theorem isAtom_spec {j : Nat} {v : Value} (h : isAtom j v = true) : v = Ev.atom j := by
  unfold isAtom at h
  split at h
  · rename_i i o k
    simp only [Bool.and_eq_true, Nat.beq_eq] at h
    obtain ⟨rfl, rfl, rfl⟩ := h
    rfl
  · cases h
def isNilS : Value → Bool
  | .string s => (match s.data.toList with | [] => true | _ => false)
  | _ => false
theorem isNilS_spec {v : Value} (h : isNilS v = true) : v = .string ⟨⟨[]⟩⟩ := by
  unfold isNilS at h
  split at h
  · rename_i s
    split at h
    · rename_i hs
      obtain ⟨⟨l⟩⟩ := s
      simp only at hs
      rw [hs]
    · cases h
  · cases h
def isInt (n : Int) : Value → Bool
  | .int .i64 m => decide (m = n)
  | _ => false
theorem isInt_spec {n : Int} {v : Value} (h : isInt n v = true) : v = .int .i64 n := by
  unfold isInt at h
  split at h
  · rw [of_decide_eq_true h]
  · cases h

/-- how a comparison of strings ends -/
def cmpS (op : BinOp) (lt eq : Bool) : Option Value :=
  match op with
  | .eql => some (.bool eq)
  | .neq => some (.bool !eq)
  | .lss => some (.bool lt)
  | .leq => some (.bool (lt || eq))
  | .gtr => some (.bool (!(lt || eq)))
  | .geq => some (.bool !lt)
  | _ => none

theorem cmpS_sound {op : BinOp} {s t : ByteArray} {v : Value} {lt eq : Bool} (h1 : strLess s.data.toList t.data.toList = lt) (h2 : strEq s.data.toList t.data.toList = eq) (h3 : strLess t.data.toList s.data.toList = !(lt || eq)) (h : cmpS op lt eq = some v) : strOp op s t = some v := by
  cases op <;> first
    | (cases h; done)
    | (simp only [cmpS, Option.some.injEq] at h; subst h; simp only [strOp, h1, h2, h3, Bool.not_not])

theorem strEq_same : ∀ l : List UInt8, strEq l l = true
  | [] => rfl
  | a :: r => by simp [strEq, strEq_same r]
theorem strLess_same : ∀ l : List UInt8, strLess l l = false
  | [] => rfl
  | a :: r => by
    have : Nat.blt a.toNat a.toNat = false := by
      cases h : Nat.blt a.toNat a.toNat with
      | false => rfl
      | true => exact absurd (Nat.le_of_ble_eq_true h) (by omega)
    simp [strLess, strLess_same r, this]

end
end Go.Ev
