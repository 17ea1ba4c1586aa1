/- What the law DirBack answers at the evaluator, for every key; no condition. -/
import Derived.Test.YtcjmogljihkfnaaDirTell
set_option linter.unusedVariables false
set_option linter.unusedSimpArgs false
namespace Go.Ev.Dir
open Go.Ev Go.Proofs
set_option linter.unusedSectionVars false

/-- a key (atom 0) and its length (atom 1): p: it is 1 or more; q: it is 16 or less -/
def factB (p q : Bool) (op : BinOp) (x y : Value) : Option Value :=
  bif isAtom 1 x then (match op with
    | .geq => bif isInt 1 y then some (.bool p) else none
    | .leq => bif isInt 16 y then some (.bool q) else none
    | _ => none)
  else bif p then
    (bif isAtom 0 x && isNilS y then cmpS op false false
    else bif isNilS x && isAtom 0 y then cmpS op true false
    else bif isAtom 0 x && isAtom 0 y then cmpS op false true
    else none)
  else none
def lenB (j : Nat) : Option Value := bif Nat.beq j 0 then some (atom 1) else none
def kindB (j : Nat) : Option Bool := bif Nat.beq j 0 then some true else bif Nat.beq j 1 then some false else none

noncomputable def ctxB (p q : Bool) : Ctx := ctx.knows (factB p q) lenB kindB

@[instance_reducible] def strAtoms (s : ByteArray) : Atoms where
  val j := match j with
    | 0 => .string s
    | _ => .int .i64 s.data.size
  flat j := match j with
    | 0 => .inr ⟨s, rfl⟩
    | _ + 1 => .inl ⟨_, _, rfl⟩

theorem back (p q : Bool) : isTrue (callN (ctxB p q) tell 15 4 [atom 0] ⟨.leaf, 0⟩) = true := by
  cases p <;> cases q <;> kernel_rfl

theorem facts_ok (s : ByteArray) : letI := strAtoms s; ∀ op x y v, factB (decide (1 ≤ (s.data.size : Int))) (decide ((s.data.size : Int) ≤ 16)) op x y = some v →
    ∃ x1 y1, Res x x1 ∧ Res y y1 ∧ ((∃ k m n, x1 = .int k m ∧ y1 = .int k n ∧ intOp op k m n = some v) ∨ ∃ a b, x1 = .string a ∧ y1 = .string b ∧ strOp op a b = some v) := by
  letI := strAtoms s
  intro op x y v h
  unfold factB at h
  cases h1 : isAtom 1 x with
  | true =>
    rw [h1] at h
    have e := isAtom_spec h1
    subst e
    simp only [cond_true] at h
    split at h
    · cases h2 : isInt 1 y with
      | false => rw [h2] at h; cases h
      | true =>
        rw [h2] at h
        have e := isInt_spec h2
        subst e
        exact ⟨_, _, Res.atom 1, Res.int _ _, .inl ⟨.i64, _, _, rfl, rfl, h⟩⟩
    · cases h2 : isInt 16 y with
      | false => rw [h2] at h; cases h
      | true =>
        rw [h2] at h
        have e := isInt_spec h2
        subst e
        exact ⟨_, _, Res.atom 1, Res.int _ _, .inl ⟨.i64, _, _, rfl, rfl, h⟩⟩
    · cases h
  | false =>
    rw [h1] at h
    simp only [cond_false] at h
    cases hp : decide (1 ≤ (s.data.size : Int)) with
    | false => rw [hp] at h; cases h
    | true =>
      rw [hp] at h
      have hp' := of_decide_eq_true hp
      obtain ⟨⟨l⟩⟩ := s
      cases l with
      | nil => simp at hp'
      | cons a l =>
        simp only [cond_true] at h
        cases h2 : isAtom 0 x && isNilS y with
        | true =>
          rw [h2] at h
          simp only [Bool.and_eq_true] at h2
          have e := isAtom_spec h2.1
          have e2 := isNilS_spec h2.2
          subst e e2
          exact ⟨_, _, Res.atom 0, Res.string _, .inr ⟨_, _, rfl, rfl, cmpS_sound (lt := false) (eq := false) rfl rfl rfl h⟩⟩
        | false =>
          rw [h2] at h
          simp only [cond_false] at h
          cases h3 : isNilS x && isAtom 0 y with
          | true =>
            rw [h3] at h
            simp only [Bool.and_eq_true] at h3
            have e := isAtom_spec h3.2
            have e2 := isNilS_spec h3.1
            subst e e2
            exact ⟨_, _, Res.string _, Res.atom 0, .inr ⟨_, _, rfl, rfl, cmpS_sound (lt := true) (eq := false) rfl rfl rfl h⟩⟩
          | false =>
            rw [h3] at h
            simp only [cond_false] at h
            cases h4 : isAtom 0 x && isAtom 0 y with
            | false => rw [h4] at h; cases h
            | true =>
              rw [h4] at h
              simp only [Bool.and_eq_true] at h4
              have e := isAtom_spec h4.1
              have e2 := isAtom_spec h4.2
              subst e e2
              exact ⟨_, _, Res.atom 0, Res.atom 0, .inr ⟨_, _, rfl, rfl, cmpS_sound (lt := false) (eq := true) (strLess_same _) (strEq_same _) (strLess_same _) h⟩⟩

theorem ctxB_ok (s : ByteArray) : letI := strAtoms s; (ctxB (decide (1 ≤ (s.data.size : Int))) (decide ((s.data.size : Int) ≤ 16))).Ok Try.prog := by
  letI := strAtoms s
  refine Ctx.Ok.knows ctx_ok (facts_ok s) ?_ ?_
  · intro j v h
    unfold lenB at h
    cases hj : Nat.beq j 0 with
    | false => rw [hj] at h; cases h
    | true =>
      rw [hj] at h
      have e := Nat.eq_of_beq_eq_true hj
      subst e
      simp only [cond_true, Option.some.injEq] at h
      subst h
      exact ⟨s, rfl, fun μ => .atom 1⟩
  · intro j b h
    unfold kindB at h
    cases hj : Nat.beq j 0 with
    | true =>
      rw [hj] at h
      have e := Nat.eq_of_beq_eq_true hj
      subst e
      simp only [cond_true, Option.some.injEq] at h
      subst h
      exact ⟨fun _ => ⟨s, rfl⟩, fun q => by cases q⟩
    | false =>
      rw [hj] at h
      cases hi : Nat.beq j 1 with
      | false => rw [hi] at h; cases h
      | true =>
        rw [hi] at h
        have e := Nat.eq_of_beq_eq_true hi
        subst e
        simp only [cond_true, cond_false, Option.some.injEq] at h
        subst h
        exact ⟨fun q => (by cases q), fun _ => ⟨_, _, rfl⟩⟩

end Go.Ev.Dir
