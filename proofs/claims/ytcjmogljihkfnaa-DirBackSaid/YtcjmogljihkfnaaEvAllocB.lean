/- A part of an evaluator of the model and of the proof that what it answers the model does; no condition. -/
import Derived.Test.YtcjmogljihkfnaaEvAlloc
import Derived.Orders
set_option linter.unusedVariables false
set_option linter.unusedSimpArgs false
namespace Go.Ev
set_option linter.unusedSectionVars false
variable [Atoms]
open Go.RowKit (Below)

section
variable {B : Nat} {w0 : World} {μ : Mu} {m : Mem} {w : World} {P : Program} {C : Ctx}

def NewObj (C : Ctx) (ρ : Operand → Value) (op : Op) (m : Mem) (v : Value) (m' : Mem) : Prop :=
  ∃ (mk : Nat → Value) (x : AObj), v = mk m.next ∧ m' = m.new x ∧ (∀ a, x ≠ .group a) ∧ ∀ m2 : Mem, prim C ρ op m2 = some (mk m2.next, m2.new x)

theorem alloc_new {ρ : Operand → Value} {op : Op} (hc : cls C op = .alloc) {v : Value} {m' : Mem} (hp : prim C ρ op m = some (v, m')) : NewObj C ρ op m v m' := by
  unfold NewObj
  cases op <;> simp only [cls] at hc <;> try (cases hc; done)
  case alloc t =>
    simp only [prim] at hp ⊢
    obtain ⟨i, hi, hp⟩ := Option.bind_eq_some_iff.1 hp
    obtain ⟨z, hz, hp⟩ := Option.bind_eq_some_iff.1 hp
    simp only [anew, hi, hz, Option.bind_some, Option.some.injEq, Prod.mk.injEq] at hp ⊢
    obtain ⟨rfl, rfl⟩ := hp
    exact ⟨fun id => ptr id 0, _, rfl, rfl, (fun a q => by cases q), fun m2 => ⟨rfl, rfl⟩⟩
  case box t x =>
    simp only [prim, anew] at hp ⊢
    obtain ⟨i, hi, hp⟩ := Option.bind_eq_some_iff.1 hp
    simp only [hi, Option.bind_some, Option.some.injEq, Prod.mk.injEq] at hp ⊢
    obtain ⟨rfl, rfl⟩ := hp
    exact ⟨fun id => ptr id 0, _, rfl, rfl, (fun a q => by cases q), fun m2 => ⟨rfl, rfl⟩⟩
  case makeMap t r =>
    cases r with
    | some x => simp only [prim] at hp; cases hp
    | none =>
      simp only [prim, Option.some.injEq, Prod.mk.injEq] at hp ⊢
      obtain ⟨rfl, rfl⟩ := hp
      exact ⟨fun id => .map (some id), _, rfl, rfl, (fun a q => by cases q), fun m2 => ⟨rfl, rfl⟩⟩
  case convert s d x =>
    simp only [prim] at hp ⊢
    unfold convertV at hp ⊢
    split at hc
    · cases hc
    · rename_i e hd hns
      split at hp
      · rename_i hd2 _; rw [hd] at hd2; cases hd2
      · rename_i hd2 _; rw [hd] at hd2; cases hd2
      · split at hp
        · simp only [Option.some.injEq, Prod.mk.injEq] at hp
          obtain ⟨rfl, rfl⟩ := hp
          rename_i b _ _ _ _ _
          refine ⟨fun id => .slice (some ⟨id, 0, none⟩) _ _, _, rfl, rfl, (fun a q => by cases q), fun m2 => ?_⟩
          simp_all
        · cases hp
      · rename_i hs2 _ _; exact absurd hs2 (hns _)
      · cases hp
    · cases hc
  case buildSlice t n ps =>
    simp only [prim] at hp ⊢
    obtain ⟨esz, h1, hp⟩ := Option.bind_eq_some_iff.1 hp
    obtain ⟨e, h2, hp⟩ := Option.bind_eq_some_iff.1 hp
    obtain ⟨i, h3, hp⟩ := Option.bind_eq_some_iff.1 hp
    obtain ⟨z, h4, hp⟩ := Option.bind_eq_some_iff.1 hp
    cases hb : Nat.ble (n * esz) 16777216 with
    | false => rw [hb] at hp; cases hp
    | true =>
      rw [hb] at hp
      simp only [cond_true] at hp
      obtain ⟨cs, h5, hp⟩ := Option.bind_eq_some_iff.1 hp
      simp only [Option.some.injEq, Prod.mk.injEq] at hp
      obtain ⟨rfl, rfl⟩ := hp
      refine ⟨fun id => .slice (some ⟨id, 0, none⟩) n n, _, rfl, rfl, (fun a q => by cases q), fun m2 => ?_⟩
      simp only [h1, h2, h3, h4, hb, h5, Option.bind_some, cond_true]
  case makeSlice t a b =>
    simp only [prim] at hp ⊢
    obtain ⟨esz, h1, hp⟩ := Option.bind_eq_some_iff.1 hp
    obtain ⟨e, h2, hp⟩ := Option.bind_eq_some_iff.1 hp
    obtain ⟨i, h3, hp⟩ := Option.bind_eq_some_iff.1 hp
    obtain ⟨z, h4, hp⟩ := Option.bind_eq_some_iff.1 hp
    obtain ⟨l, h5, hp⟩ := Option.bind_eq_some_iff.1 hp
    obtain ⟨c, h6, hp⟩ := Option.bind_eq_some_iff.1 hp
    cases hb : (Nat.ble l c && Nat.ble c BIG) with
    | false => rw [hb] at hp; cases hp
    | true =>
      rw [hb] at hp
      simp only [cond_true, Option.some.injEq, Prod.mk.injEq] at hp
      obtain ⟨rfl, rfl⟩ := hp
      refine ⟨fun id => .slice (some ⟨id, 0, none⟩) l c, _, rfl, rfl, (fun a q => by cases q), fun m2 => ?_⟩
      simp only [h1, h2, h3, h4, h5, h6, hb, Option.bind_some, cond_true]
  case call c => split at hc <;> cases hc

theorem NewObj.inj {ρ : Operand → Value} {op : Op} {mk mk2 : Nat → Value} {x x2 : AObj} (h1 : ∀ m2 : Mem, prim C ρ op m2 = some (mk m2.next, m2.new x))
    (h2 : ∀ m2 : Mem, prim C ρ op m2 = some (mk2 m2.next, m2.new x2)) (n : Nat) : mk n = mk2 n ∧ x = x2 := by
  have a := h1 ⟨.leaf, n⟩
  rw [h2 ⟨.leaf, n⟩] at a
  simp only [Option.some.injEq, Prod.mk.injEq] at a
  refine ⟨a.1.symm, ?_⟩
  have := congrArg (fun q : Mem => q.get n) a.2
  simpa [Mem.get_new] using this.symm

theorem oper_prim {call : CallF} {ρ : Operand → Value} {op : Op} (h : cls C op ≠ .eff) (m : Mem) : oper C call ρ op m = prim C ρ op m := by
  cases op with
  | call c =>
    obtain ⟨callee, args, ats⟩ := c
    cases callee with
    | value f => exact absurd rfl h
    | builtin b => rfl
    | invoke r n => rfl
  | _ => rfl

end
end Go.Ev
