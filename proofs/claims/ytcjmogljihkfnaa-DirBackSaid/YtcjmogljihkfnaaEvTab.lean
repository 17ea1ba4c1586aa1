/- A part of an evaluator of the model and of the proof that what it answers the model does; no condition. -/
import Derived.Test.YtcjmogljihkfnaaEvCode
set_option linter.unusedVariables false
set_option linter.unusedSimpArgs false
namespace Go.Ev

/-! a program's tables -/

def at2 {α : Type} (t : Tree (Tree α)) (f id : Nat) : Option α := match t.get f with
  | some u => u.get id
  | none => none

def treeL {α : Type} : List (Nat × α) → Tree α → Tree α
  | [], t => t
  | x :: r, t => treeL r (t.set x.1 x.2)

theorem treeL_get {α : Type} : ∀ (l : List (Nat × α)) (t : Tree α) (k : Nat) (v : α), (treeL l t).get k = some v → (k, v) ∈ l ∨ t.get k = some v
  | [], t, k, v, h => .inr h
  | x :: r, t, k, v, h => by
    rcases treeL_get r _ k v h with h | h
    · exact .inl (List.mem_cons_of_mem _ h)
    · rw [Tree.get_set] at h
      by_cases hk : k = x.1
      · rw [if_pos hk] at h
        cases h
        subst hk
        exact .inl List.mem_cons_self
      · rw [if_neg hk] at h
        exact .inr h

def AllOf {α : Type} (Q : α → Prop) : List α → Prop
  | [] => True
  | a :: r => Q a ∧ AllOf Q r

theorem AllOf.mem {α : Type} {Q : α → Prop} : ∀ {l : List α}, AllOf Q l → ∀ a ∈ l, Q a
  | _ :: _, h, a, ha => (List.mem_cons.1 ha).elim (fun e => e ▸ h.1) fun h2 => h.2.mem a h2

theorem AllOf.append {α : Type} {Q : α → Prop} : ∀ {l r : List α}, AllOf Q l → AllOf Q r → AllOf Q (l ++ r)
  | [], _, _, k => k
  | _ :: _, _, h, k => ⟨h.1, h.2.append k⟩

def funOk (C : Ctx) (M : Nat → Nat → Tree Nat) (f : Nat) (fn : Func) : Bool :=
  !(fn.name == "runtime.NumGoroutine") && (match fn.body with | some c => codeOk C M fn.ntmps f c | none => true)

def FunIs (C : Ctx) (M : Nat → Nat → Tree Nat) (P : Program) (x : Nat × Func) : Prop := P.funcs[x.1]? = some x.2 ∧ funOk C M x.1 x.2 = true

theorem funsOk_of [Atoms] {C : Ctx} {M : Nat → Nat → Tree Nat} {P : Program} {l : List (Nat × Func)} (ht : C.funs = treeL l .leaf) (hl : AllOf (FunIs C M P) l) : FunsOk C M P where
  at_ f fn h := by
    rw [ht] at h
    rcases treeL_get l _ f fn h with h | h
    · obtain ⟨h1, h2⟩ := hl.mem _ h
      unfold funOk at h2
      simp only [Bool.and_eq_true, Bool.not_eq_true'] at h2
      refine ⟨h1, h2.1, fun c hc => ?_⟩
      have := h2.2
      rw [hc] at this
      exact this
    · rw [leaf_get] at h
      cases h

def zeroOk (i : TypeInfo) : Bool := match i.zero with | some z => plainV z | none => true

/-- the types whose zero is plain -/
def buildTy : Nat → List TypeInfo → Tree TypeInfo → Tree TypeInfo
  | _, [], t => t
  | i, v :: r, t => buildTy (i + 1) r (bif zeroOk v then t.set i v else t)

theorem buildTy_get : ∀ (l : List TypeInfo) (i : Nat) (t : Tree TypeInfo) (k : Nat) (v : TypeInfo), (buildTy i l t).get k = some v → (i ≤ k ∧ l[k - i]? = some v ∧ zeroOk v = true) ∨ t.get k = some v
  | [], _, _, _, _, h => .inr h
  | x :: r, i, t, k, v, h => by
    rcases buildTy_get r (i + 1) _ k v h with ⟨h1, h2, h3⟩ | h
    · exact .inl ⟨by omega, by rw [show k - i = (k - (i + 1)) + 1 from by omega, List.getElem?_cons_succ]; exact h2, h3⟩
    · cases hz : zeroOk x with
      | false => rw [hz] at h; exact .inr h
      | true =>
        rw [hz] at h
        simp only [cond_true, Tree.get_set] at h
        by_cases hk : k = i
        · rw [if_pos hk] at h
          cases h
          subst hk
          exact .inl ⟨Nat.le_refl _, by simp, hz⟩
        · rw [if_neg hk] at h
          exact .inr h

theorem ctxOk_of [Atoms] {C : Ctx} {P : Program} (ht : C.types = buildTy 0 P.types.toList .leaf) (hf : C.fact = fun _ _ _ => none := by rfl) (hl : C.len = fun _ => none := by rfl) (hk : C.kind = fun _ => none := by rfl) : C.Ok P where
  kinds j b h := by rw [hk] at h; cases h
  facts op x y v h := by rw [hf] at h; cases h
  lens j n h := by rw [hl] at h; cases h
  types t i h := by
    rw [ht] at h
    rcases buildTy_get _ _ _ _ _ h with ⟨_, h, _⟩ | h
    · simp only [Nat.sub_zero, Array.getElem?_toList] at h
      have hs : t < P.types.size := (Array.getElem?_eq_some_iff.1 h).1
      simp only [Tables.info?, if_pos hs]
      exact h
    · rw [leaf_get] at h; cases h
  zero t i z h hzz := by
    rw [ht] at h
    rcases buildTy_get _ _ _ _ _ h with ⟨_, _, h⟩ | h
    · unfold zeroOk at h
      rw [hzz] at h
      exact h
    · rw [leaf_get] at h; cases h

def eqOk (P : Program) (l : List TypeId) : Bool := l.all fun t => !P.stoodInHeld t && !P.eqGuardType P.depth t

theorem eqOk_of [Atoms] {C : Ctx} {P : Program} (h : eqOk P C.eqs = true) : C.EqOk P where
  stood t ht := by
    have := List.all_eq_true.1 h t (by simpa using ht)
    simp only [Bool.and_eq_true, Bool.not_eq_true'] at this
    exact this.1
  guard t ht := by
    have := List.all_eq_true.1 h t (by simpa using ht)
    simp only [Bool.and_eq_true, Bool.not_eq_true'] at this
    exact this.2

end Go.Ev
