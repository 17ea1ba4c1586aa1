/- A part of an evaluator of the model and of the proof that what it answers the model does; no condition. -/
import Derived.Test.YtcjmogljihkfnaaEvStep
set_option linter.unusedVariables false
set_option linter.unusedSimpArgs false
namespace Go.Ev
set_option linter.unusedSectionVars false
variable [Atoms]
open Go.RowKit (Below)

section
variable {B : Nat} {w0 : World} {μ : Mu} {m : Mem} {w : World} {P : Program} {C : Ctx}

theorem prim_congr {ρ ρ2 : Operand → Value} {op : Op} (h : ∀ x ∈ op.operands.toList, ρ x = ρ2 x) (m : Mem) : prim C ρ op m = prim C ρ2 op m := by
  have parts : ∀ ps : Array (Nat × Operand), (∀ x ∈ ps.toList.map (·.2), ρ x = ρ2 x) → (ps.toList.map fun (i, x) => (i, ρ x)) = (ps.toList.map fun (i, x) => (i, ρ2 x)) := fun ps hp =>
    List.map_congr_left fun p hm => by
      obtain ⟨i, x⟩ := p
      simp only [hp x (List.mem_map.2 ⟨(i, x), hm, rfl⟩)]
  cases op <;> simp only [Op.operands] at h <;> simp only [prim]
  case build t ps => rw [parts ps (fun x hx => h x (by simpa using hx))]
  case buildSlice t n ps => rw [parts ps (fun x hx => h x (by simpa using hx))]
  case makeFunc fn a b =>
    rw [List.map_congr_left (l := a.toList) (fun x hx => h x (by simp at hx ⊢; exact .inl hx)), List.map_congr_left (l := b.toList) (fun x hx => h x (by simp at hx ⊢; exact .inr hx))]
  case call c =>
    obtain ⟨callee, args, ats⟩ := c
    cases callee with
    | builtin b => rw [List.map_congr_left (l := args.toList) (fun x hx => h x (by simp [Call.operands]; simpa using hx))]
    | _ => rfl
  case makeMap t r => cases r <;> rfl
  case slice t x lo hi mx =>
    have e1 : lo.map ρ = lo.map ρ2 := by cases lo <;> simp_all
    have e2 : hi.map ρ = hi.map ρ2 := by cases hi <;> simp_all
    have e3 : mx.map ρ = mx.map ρ2 := by cases mx <;> simp_all
    rw [e1, e2, e3, h x (by simp)]
  all_goals first
    | rfl
    | (simp_all; done)

theorem pure1_eq {o : Option Value} {m m' : Mem} {v : Value} (h : pure1 o m = some (v, m')) : m' = m ∧ ∀ m2, pure1 o m2 = some (v, m2) := by
  obtain ⟨h1, h2⟩ := pure1_some h
  exact ⟨h2, fun m2 => by rw [h1]; rfl⟩

theorem pure_indep {ρ : Operand → Value} {op : Op} (hc : cls C op = .pure) {v : Value} {m' : Mem} (h : prim C ρ op m = some (v, m')) : m' = m ∧ ∀ m2, prim C ρ op m2 = some (v, m2) := by
  cases op <;> simp only [cls] at hc <;> try (cases hc; done)
  case move x => simp only [prim, Option.some.injEq, Prod.mk.injEq] at h ⊢; exact ⟨h.2.symm, fun m2 => ⟨h.1, trivial⟩⟩
  case pick c a b =>
    simp only [prim] at h ⊢
    cases hv : ρ c <;> rw [hv] at h <;> simp only at h <;> first
      | (cases h; done)
      | (simp only [Option.some.injEq, Prod.mk.injEq] at h ⊢; exact ⟨h.2.symm, fun m2 => ⟨h.1, trivial⟩⟩)
  case build t ps => exact pure1_eq h
  case nilCheck x =>
    simp only [prim] at h ⊢
    split at h
    · rename_i o i ha
      simp only [Option.some.injEq, Prod.mk.injEq] at h
      exact ⟨h.2.symm, fun m2 => by rw [h.1]⟩
    · rename_i f a b ha
      simp only [Option.some.injEq, Prod.mk.injEq] at h
      exact ⟨h.2.symm, fun m2 => by rw [h.1]⟩
    · cases h
  case binOp => exact pure1_eq h
  case unOp => exact pure1_eq h
  case convert s d x =>
    simp only [prim] at h ⊢
    unfold convertV at h ⊢
    split at hc
    · cases hc
    · cases hc
    · rename_i hns hnd
      split at h
      · simp only [Option.some.injEq, Prod.mk.injEq] at h
        exact ⟨h.2.symm, fun m2 => by simp_all⟩
      · simp only [Option.some.injEq, Prod.mk.injEq] at h
        exact ⟨h.2.symm, fun m2 => by simp_all⟩
      · exact absurd (by assumption) (hnd _)
      · exact absurd (by assumption) (hns _)
      · cases h
  case makeInterface t x =>
    simp only [prim] at h ⊢
    split at h
    · cases h
    · cases h
    · simp only [Option.some.injEq, Prod.mk.injEq] at h
      exact ⟨h.2.symm, fun m2 => by simp_all⟩
  case makeFunc => simp only [prim, Option.some.injEq, Prod.mk.injEq] at h ⊢; exact ⟨h.2.symm, fun m2 => ⟨h.1, trivial⟩⟩
  case slice => exact pure1_eq h
  case fieldAddr t x f =>
    simp only [prim] at h ⊢
    split at h
    · rename_i o off ha
      cases hf : fieldOf C t f with
      | none => rw [hf] at h; cases h
      | some g =>
        rw [hf] at h
        simp only [Option.bind_some] at h
        cases hn : C.size g.type with
        | none => rw [hn] at h; cases h
        | some n =>
          rw [hn] at h
          simp only [Option.bind_some] at h
          cases hb : Nat.beq n 0 with
          | true => rw [hb] at h; cases h
          | false =>
            rw [hb] at h
            simp only [cond_false, Option.some.injEq, Prod.mk.injEq] at h
            exact ⟨h.2.symm, fun m2 => by simp only [ha, hf, Option.bind_some, hn, hb, cond_false]; rw [h.1]⟩
    · cases h
  case field t x f =>
    simp only [prim] at h ⊢
    split at h
    · rename_i cs ha
      cases hf : fieldOf C t f with
      | none => rw [hf] at h; cases h
      | some g =>
        rw [hf] at h
        simp only [Option.bind_some] at h
        obtain ⟨h1, h2⟩ := pure1_eq h
        exact ⟨h1, fun m2 => by simp only [ha, hf, Option.bind_some]; exact h2 m2⟩
    · cases h
  case indexAddr t x i =>
    simp only [prim] at h ⊢
    cases hn : asN (ρ i) with
    | none => rw [hn] at h; cases h
    | some n =>
      rw [hn] at h
      simp only [Option.bind_some] at h ⊢
      split at h
      · rename_i e o off len c hu ha
        cases hb : Nat.blt n len with
        | false => rw [hb] at h; cases h
        | true =>
          rw [hb] at h
          simp only [cond_true] at h
          cases hs : C.size e with
          | none => rw [hs] at h; cases h
          | some sz =>
            rw [hs] at h
            simp only [Option.bind_some, Option.some.injEq, Prod.mk.injEq] at h
            exact ⟨h.2.symm, fun m2 => by simp only [hu, ha, hb, cond_true, hs, Option.bind_some]; rw [h.1]⟩
      · rename_i len e o off hu ha
        cases hb : Nat.blt n len with
        | false => rw [hb] at h; cases h
        | true =>
          rw [hb] at h
          simp only [cond_true] at h
          cases hs : C.size e with
          | none => rw [hs] at h; cases h
          | some sz =>
            rw [hs] at h
            simp only [Option.bind_some, Option.some.injEq, Prod.mk.injEq] at h
            exact ⟨h.2.symm, fun m2 => by simp only [hu, ha, hb, cond_true, hs, Option.bind_some]; rw [h.1]⟩
      · cases h
  case index t x i =>
    simp only [prim] at h ⊢
    cases hn : asN (ρ i) with
    | none => rw [hn] at h; cases h
    | some n =>
      rw [hn] at h
      simp only [Option.bind_some] at h ⊢
      split at h
      · rename_i len e cs hu ha
        cases hb : Nat.blt n len with
        | false => rw [hb] at h; cases h
        | true =>
          rw [hb] at h
          simp only [cond_true] at h
          cases hs : C.size e with
          | none => rw [hs] at h; cases h
          | some sz =>
            rw [hs] at h
            simp only [Option.bind_some] at h
            obtain ⟨h1, h2⟩ := pure1_eq h
            exact ⟨h1, fun m2 => by simp only [hu, ha, hb, cond_true, hs, Option.bind_some]; exact h2 m2⟩
      · rename_i s hu ha
        split at h
        · rename_i b hb
          simp only [Option.some.injEq, Prod.mk.injEq] at h
          exact ⟨h.2.symm, fun m2 => by rw [h.1]⟩
        · cases h
      · cases h
  case extract t i =>
    simp only [prim] at h ⊢
    split at h
    · rename_i vs ha
      obtain ⟨h1, h2⟩ := pure1_eq h
      exact ⟨h1, fun m2 => h2 m2⟩
    · cases h
  case call c =>
    obtain ⟨callee, args, ats⟩ := c
    cases callee with
    | builtin b => cases b <;> cases hc
    | value f => cases hc
    | invoke r n => cases hc

theorem lenA_same {t : TypeId} {x v : Value} {m' : Mem} (h : lenA C t x m = some (v, m')) : m' = m := by
  unfold lenA at h
  split at h <;> first
    | (cases h; done)
    | (simp only [Option.some.injEq, Prod.mk.injEq] at h; exact h.2.symm)
    | (obtain ⟨n, _, h⟩ := Option.bind_eq_some_iff.1 h; simp only [Option.some.injEq, Prod.mk.injEq] at h; exact h.2.symm)
    | skip
  split at h
  · simp only [Option.some.injEq, Prod.mk.injEq] at h; exact h.2.symm
  · cases h

theorem read_same {ρ : Operand → Value} {op : Op} (hc : cls C op = .read) {v : Value} {m' : Mem} (h : prim C ρ op m = some (v, m')) : m' = m := by
  cases op <;> simp only [cls] at hc <;> try (cases hc; done)
  case load => exact (pure1_some h).2
  case lookup => exact (pure1_some h).2
  case convert s d x =>
    simp only [prim] at h
    unfold convertV at h
    split at hc
    · rename_i e hs
      split at h
      · simp only [Option.some.injEq, Prod.mk.injEq] at h; exact h.2.symm
      · simp only [Option.some.injEq, Prod.mk.injEq] at h; exact h.2.symm
      · rename_i hs2 _ _; rw [hs] at hs2; cases hs2
      · split at h
        · split at h
          · simp only [Option.some.injEq, Prod.mk.injEq] at h; exact h.2.symm
          · obtain ⟨cs, _, h⟩ := Option.bind_eq_some_iff.1 h
            obtain ⟨l, _, h⟩ := Option.bind_eq_some_iff.1 h
            simp only [Option.some.injEq, Prod.mk.injEq] at h
            exact h.2.symm
          · cases h
        · cases h
      · cases h
    · cases hc
    · cases hc
  case call c =>
    obtain ⟨callee, args, ats⟩ := c
    cases callee with
    | builtin b =>
      simp only [prim] at h
      cases b <;> simp only at hc <;> try (cases hc; done)
      all_goals
        unfold builtinA at h
        split at h <;> first
          | (cases h; done)
          | exact (pure1_some h).2
          | exact lenA_same h
          | (rename_i q _ _; cases q; done)
          | (rename_i q _; cases q; done)
          | (rename_i q; cases q; done)
    | value f => cases hc
    | invoke r n => cases hc

end
end Go.Ev
