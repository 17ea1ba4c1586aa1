/- A part of an evaluator of the model and of the proof that what it answers the model does; no condition. -/
import Derived.Test.YtcjmogljihkfnaaEvOpsH
set_option linter.unusedVariables false
set_option linter.unusedSimpArgs false
namespace Go.Ev
set_option linter.unusedSectionVars false
variable [Atoms]
open Go.RowKit (Below)

section
variable {B : Nat} {w0 : World} {μ : Mu} {m : Mem} {w : World} {P : Program} {C : Ctx}

def NextRes (P : Program) (B : Nat) (w0 : World) (μ : Mu) (m : Mem) (s : Sem Next) (w : World) (v : Value) (m' : Mem) : Prop :=
  ∃ nx v' w', s.run P w = .ok nx w' ∧ (nx = .value v' ∨ (nx = .skip ∧ v' = undef)) ∧ Sim B w0 μ m v m' v' w'

theorem OpRes.next {s : Sem Value} {v : Value} {m' : Mem} (h : OpRes P B w0 μ m s w v m') : NextRes P B w0 μ m (s >>= fun x => (Pure.pure (Next.value x) : Sem Next)) w v m' := by
  obtain ⟨v', w', h1, h2⟩ := h
  exact ⟨.value v', v', w', by simp [h1], .inl rfl, h2⟩
theorem unit_next {s : Sem Unit} {m' : Mem} {w' : World} (h1 : s.run P w = .ok () w') (h2 : Rel B w0 μ m' w') (h3 : Ext μ m μ m') : NextRes P B w0 μ m (s >>= fun _ => (Pure.pure Next.skip : Sem Next)) w (.tuple ⟨[]⟩) m' :=
  ⟨.skip, undef, w', by simp [h1], .inr ⟨rfl, rfl⟩, μ, VRel.undef, h2, h3⟩

theorem lrel_map {l : List Operand} {ρ ρ' : Operand → Value} (h : ∀ x ∈ l, VRel μ (ρ x) (ρ' x)) : LRel μ (l.map ρ) (l.map ρ') := by
  induction l with
  | nil => exact .nil
  | cons x l ih => exact .cons (h x (by simp)) (ih fun y hy => h y (by simp [hy]))

theorem builtin_sound (hC : C.Ok P) (h : Rel B w0 μ m w) {b : Builtin} {ts : Array TypeId} {ty : TypeId} {cs : Array Bool} {args args' : List Value} {v : Value} {m' : Mem} (ha : LRel μ args args')
    (hp : builtinA C b ts.toList args m = some (v, m')) : NextRes P B w0 μ m (builtin b ts ty cs ⟨args'⟩) w v m' := by
  obtain ⟨ts⟩ := ts
  unfold builtinA at hp
  split at hp
  · rename_i t u s x hts
    simp only at hts
    subst hts
    obtain ⟨s', r, rfl, hs, ha⟩ := ha.cons_left
    obtain ⟨x', r, rfl, hx, ha⟩ := ha.cons_left
    rw [ha.nil_left]
    obtain ⟨v', w', h1, h2⟩ := append_sound (ty := ty) hC h hs hx hp
    exact OpRes.next ⟨v', w', h1, h2⟩
  · rename_i t u d x hts
    simp only at hts
    subst hts
    obtain ⟨d', r, rfl, hd, ha⟩ := ha.cons_left
    obtain ⟨x', r, rfl, hx, ha⟩ := ha.cons_left
    rw [ha.nil_left]
    exact OpRes.next (copy_sound hC h hd hx hp)
  · rename_i t x hts
    simp only at hts
    subst hts
    obtain ⟨x', r, rfl, hx, ha⟩ := ha.cons_left
    rw [ha.nil_left]
    exact OpRes.next (lenA_sound hC h hx hp)
  · rename_i t x hts
    simp only at hts
    subst hts
    obtain ⟨x', r, rfl, hx, ha⟩ := ha.cons_left
    rw [ha.nil_left]
    obtain ⟨h1, rfl⟩ := pure1_some hp
    exact OpRes.next (capA_sound hC h hx h1)
  · rename_i args _ _ _
    obtain ⟨h1, rfl⟩ := pure1_some hp
    cases args with
    | nil => simp [minmax] at h1
    | cons x r =>
      obtain ⟨x', r', rfl, hx, hr⟩ := ha.cons_left
      simp only [minmax] at h1
      obtain ⟨v', h2, h3⟩ := min_sound (P := P) w r r' x x' v hx hr h1
      exact OpRes.next ⟨v', w, by simpa [Builtin.min_] using h2, .same h h3⟩
  · rename_i args _ _ _
    obtain ⟨h1, rfl⟩ := pure1_some hp
    cases args with
    | nil => simp [minmax] at h1
    | cons x r =>
      obtain ⟨x', r', rfl, hx, hr⟩ := ha.cons_left
      simp only [minmax] at h1
      obtain ⟨v', h2, h3⟩ := max_sound (P := P) w r r' x x' v hx hr h1
      exact OpRes.next ⟨v', w, by simpa [Builtin.max_] using h2, .same h h3⟩
  · rename_i t u x k hts
    simp only at hts
    subst hts
    obtain ⟨x', r, rfl, hx, ha⟩ := ha.cons_left
    obtain ⟨k', r, rfl, hk, ha⟩ := ha.cons_left
    rw [ha.nil_left]
    obtain ⟨h1, rfl⟩ := unit1_some hp
    obtain ⟨w', h2, h3, h4⟩ := delete_sound (u := u) (ty := ty) hC h hx hk h1
    exact OpRes.next ⟨_, w', h2, μ, VRel.undef, h3, h4⟩
  · rename_i t x hts
    simp only at hts
    subst hts
    obtain ⟨x', r, rfl, hx, ha⟩ := ha.cons_left
    rw [ha.nil_left]
    obtain ⟨h1, rfl⟩ := unit1_some hp
    obtain ⟨w', h2, h3, h4⟩ := clear_sound (ty := ty) hC h hx h1
    exact OpRes.next ⟨_, w', h2, μ, VRel.undef, h3, h4⟩
  · cases hp

theorem opt_rel {o : Option Operand} {ρ ρ' : Operand → Value} (h : ∀ x ∈ o, VRel μ (ρ x) (ρ' x)) : (∀ a, o.map ρ = some a → ∃ a', o.map ρ' = some a' ∧ VRel μ a a') ∧ (o.map ρ = none → o.map ρ' = none) := by
  cases o with
  | none => exact ⟨(fun a ha => by cases ha), fun _ => rfl⟩
  | some x => exact ⟨(fun a ha => by simp only [Option.map_some, Option.some.injEq] at ha; subst ha; exact ⟨ρ' x, rfl, h x rfl⟩), fun ha => by cases ha⟩

set_option maxHeartbeats 1000000 in
theorem prim_sound (hC : C.Ok P) (hE : C.EqOk P) (h : Rel B w0 μ m w) {o : Oper} {ρ ρ' : Operand → Value} (hρ : ∀ x ∈ o.op.operands.toList, VRel μ (ρ x) (ρ' x)) {v : Value} {m' : Mem}
    (hp : prim C ρ o.op m = some (v, m')) : NextRes P B w0 μ m (execOp ρ' o) w v m' := by
  obtain ⟨dst, op, type, pos, after, guard⟩ := o
  simp only at hρ hp
  cases op with
  | move x =>
    simp only [prim, Option.some.injEq, Prod.mk.injEq] at hp
    obtain ⟨rfl, rfl⟩ := hp
    exact ⟨_, ρ' x, w, rfl, .inl rfl, .same h (hρ x (by simp [Op.operands]))⟩
  | assign x =>
    simp only [prim, Option.some.injEq, Prod.mk.injEq] at hp
    obtain ⟨rfl, rfl⟩ := hp
    exact ⟨_, ρ' x, w, rfl, .inl rfl, .same h (hρ x (by simp [Op.operands]))⟩
  | pick c a b =>
    have hc := hρ c (by simp [Op.operands])
    have ha := hρ a (by simp [Op.operands])
    have hb := hρ b (by simp [Op.operands])
    simp only [prim] at hp
    split at hp
    · rename_i t ht
      rw [ht] at hc
      generalize hcc : ρ' c = cc at hc
      cases hc
      simp only [Option.some.injEq, Prod.mk.injEq] at hp
      obtain ⟨rfl, rfl⟩ := hp
      refine ⟨.value (if t then ρ' a else ρ' b), _, w, ?_, .inl rfl, .same h ?_⟩
      · simp [execOp, hcc, asBool]
      · cases t
        · exact hb
        · exact ha
    · cases hp
  | alloc t =>
    simp only [prim] at hp
    cases hi : C.info t with
    | none => rw [hi] at hp; cases hp
    | some i =>
      rw [hi] at hp
      simp only [Option.bind_some] at hp
      cases hz : i.zero with
      | none => rw [hz] at hp; cases hp
      | some z =>
        rw [hz] at hp
        simp only [Option.bind_some] at hp
        exact OpRes.next (alloc_sound hC h hi hz hp)
  | box t x =>
    simp only [prim] at hp
    exact OpRes.next (box_sound h (hρ x (by simp [Op.operands])) hp)
  | build t ps =>
    simp only [prim] at hp
    obtain ⟨h1, rfl⟩ := pure1_some hp
    exact OpRes.next (build_sound hC h (fun x hx => hρ x (by simpa [Op.operands] using hx)) h1)
  | buildSlice t n ps =>
    exact OpRes.next (buildSlice_sound hC h (fun x hx => hρ x (by simpa [Op.operands] using hx)) hp)
  | load t a =>
    simp only [prim] at hp
    obtain ⟨h1, rfl⟩ := pure1_some hp
    exact OpRes.next (loadAt_sound hC h (hρ a (by simp [Op.operands])) h1)
  | store t a x =>
    simp only [prim] at hp
    obtain ⟨h1, rfl⟩ := unit1_some hp
    obtain ⟨w', h2, h3, h4⟩ := storeAt_sound hC h (hρ a (by simp [Op.operands])) (hρ x (by simp [Op.operands])) h1
    exact unit_next h2 h3 h4
  | nilCheck x =>
    have hx := hρ x (by simp [Op.operands])
    simp only [prim] at hp
    split at hp
    · rename_i o i ha
      simp only [Option.some.injEq, Prod.mk.injEq] at hp
      obtain ⟨rfl, rfl⟩ := hp
      rw [ha] at hx
      generalize hxx : ρ' x = xx at hx
      cases hx with
      | ptr ho =>
        refine ⟨_, _, w, ?_, .inl rfl, .same h (.ptr ho)⟩
        simp [execOp, hxx]
    · rename_i f a b ha
      simp only [Option.some.injEq, Prod.mk.injEq] at hp
      obtain ⟨rfl, rfl⟩ := hp
      rw [ha] at hx
      generalize hxx : ρ' x = xx at hx
      cases hx with
      | func h1 h2 h3 h4 =>
        refine ⟨_, _, w, ?_, .inl rfl, .same h (.func h1 h2 h3 h4)⟩
        simp [execOp, hxx]
    · cases hp
  | binOp op t x y yt =>
    simp only [prim] at hp
    obtain ⟨h1, rfl⟩ := pure1_some hp
    exact OpRes.next (binV_sound hC hE h (hρ x (by simp [Op.operands])) (hρ y (by simp [Op.operands])) h1)
  | unOp op t x =>
    have hx := hρ x (by simp [Op.operands])
    simp only [prim] at hp
    obtain ⟨h1, rfl⟩ := pure1_some hp
    refine OpRes.next ?_
    generalize ρ' x = x' at hx
    generalize ρ x = xx at hx h1
    cases op <;> cases hx <;> try (cases h1; done)
    all_goals
      simp only [unV, Option.some.injEq] at h1
      subst h1
    · exact ⟨_, w, by simp [Op.unary, Op.intArith, wrapF_eq], .same h (.int _ _)⟩
    · exact ⟨_, w, by simp [Op.unary], .same h (.bool _)⟩
  | convert s d x =>
    simp only [prim] at hp
    exact OpRes.next (convert_sound hC h (hρ x (by simp [Op.operands])) hp)
  | makeInterface t x =>
    have hx := hρ x (by simp [Op.operands])
    simp only [prim] at hp
    cases hu : C.under t with
    | none => rw [hu] at hp; cases hp
    | some d =>
      have hu' := hC.under hu
      have hp' : (∀ ms, d ≠ .interface ms) ∧ some (Value.iface t (ρ x), m) = some (v, m') := by
        rw [hu] at hp
        cases d <;> first | (cases hp; done) | exact ⟨(fun ms q => by cases q), hp⟩
      obtain ⟨h1, h2⟩ := hp'
      simp only [Option.some.injEq, Prod.mk.injEq] at h2
      obtain ⟨rfl, rfl⟩ := h2
      refine OpRes.next ⟨.iface t (ρ' x), w, ?_, .same h (.iface hx)⟩
      cases d <;> first | exact absurd rfl (h1 _) | simp [Instr.makeInterface, run_underlying hu']
  | makeFunc fn first cap =>
    simp only [prim, Option.some.injEq, Prod.mk.injEq] at hp
    obtain ⟨rfl, rfl⟩ := hp
    have h1 := lrel_map (μ := μ) (l := first.toList) (fun x hx => hρ x (by simp [Op.operands] at hx ⊢; exact .inl hx))
    have h2 := lrel_map (μ := μ) (l := cap.toList) (fun x hx => hρ x (by simp [Op.operands] at hx ⊢; exact .inr hx))
    refine OpRes.next ⟨.func fn (first.map ρ') (cap.map ρ'), w, by simp [Instr.makeFunc], .same h ?_⟩
    have e1 : first.map ρ' = ⟨first.toList.map ρ'⟩ := by apply Array.ext'; simp
    have e2 : cap.map ρ' = ⟨cap.toList.map ρ'⟩ := by apply Array.ext'; simp
    rw [e1, e2]
    exact .func h1.len h1.rel h2.len h2.rel
  | makeMap t r =>
    cases r with
    | some x => simp only [prim] at hp; cases hp
    | none =>
      simp only [prim, Option.some.injEq, Prod.mk.injEq] at hp
      obtain ⟨rfl, rfl⟩ := hp
      refine OpRes.next ⟨.map (some w.heap.size), w.alloc (.map #[] 0), by simp [Instr.makeMap], ?_⟩
      have hn := h.unnamed (Nat.le_refl m.next)
      refine ⟨μ.set m.next ⟨w.heap.size, 0, 0, 0⟩, .map (l := ⟨w.heap.size, 0, 0, 0⟩) (Mu.set_same _ _ _), ?_, Ext.set (Nat.le_refl _) Ext.new hn⟩
      refine (h.new_obj _).bind (o := m.next) (by simp) hn (below_alloc w _) (by simp) rfl ?_
      rw [Mem.get_new, if_pos rfl]
      exact ⟨h.base, #[], 0, heap_alloc_new w _, ⟨rfl, fun i _ _ _ hh => by simp at hh⟩⟩
  | makeSlice t a b =>
    exact OpRes.next (makeSlice_sound hC h (hρ a (by simp [Op.operands])) (hρ b (by simp [Op.operands])) hp)
  | slice t x lo hi mx =>
    simp only [prim] at hp
    obtain ⟨h1, rfl⟩ := pure1_some hp
    obtain ⟨l1, l2⟩ := opt_rel (μ := μ) (o := lo) (ρ := ρ) (ρ' := ρ') (fun y hy => hρ y (by cases hy; simp [Op.operands]))
    obtain ⟨h2, h3⟩ := opt_rel (μ := μ) (o := hi) (ρ := ρ) (ρ' := ρ') (fun y hy => hρ y (by cases hy; simp [Op.operands]))
    obtain ⟨m1, m2⟩ := opt_rel (μ := μ) (o := mx) (ρ := ρ) (ρ' := ρ') (fun y hy => hρ y (by cases hy; simp [Op.operands]))
    exact OpRes.next (slice_sound hC h (hρ x (by simp [Op.operands])) l1 l2 h2 h3 m1 m2 h1)
  | fieldAddr t x f =>
    have hx := hρ x (by simp [Op.operands])
    simp only [prim] at hp
    split at hp
    · rename_i o off ha
      cases hf : fieldOf C t f with
      | none => rw [hf] at hp; cases hp
      | some g =>
        rw [hf] at hp
        simp only [Option.bind_some] at hp
        cases hn : C.size g.type with
        | none => rw [hn] at hp; cases hp
        | some n =>
          rw [hn] at hp
          simp only [Option.bind_some] at hp
          cases hb : Nat.beq n 0 with
          | true => rw [hb] at hp; cases hp
          | false =>
            rw [hb] at hp
            simp only [cond_false, Option.some.injEq, Prod.mk.injEq] at hp
            obtain ⟨rfl, rfl⟩ := hp
            exact OpRes.next (fieldAddr_sound hC h hx ha hf hn (ne_of_beq_false hb))
    · cases hp
  | field t x f =>
    have hx := hρ x (by simp [Op.operands])
    simp only [prim] at hp
    refine OpRes.next ?_
    generalize ρ x = xx at hx hp
    cases xx <;> try (cases hp; done)
    rename_i cs
    simp only at hp
    cases hf : fieldOf C t f with
    | none => rw [hf] at hp; cases hp
    | some g =>
      rw [hf] at hp
      simp only [Option.bind_some] at hp
      obtain ⟨h1, rfl⟩ := pure1_some hp
      exact field_sound hC h (by simp only [hf, Option.bind_some]; exact h1) hx
  | indexAddr t x i =>
    have hx := hρ x (by simp [Op.operands])
    have hi := hρ i (by simp [Op.operands])
    simp only [prim] at hp
    cases hn : asN (ρ i) with
    | none => rw [hn] at hp; cases hp
    | some n =>
      rw [hn] at hp
      simp only [Option.bind_some] at hp
      obtain ⟨k, hk⟩ := asN_some hn
      rw [hk] at hi
      have hi' : ρ' i = .int k n := by generalize ρ' i = ii at hi; cases hi; rfl
      refine OpRes.next ?_
      split at hp
      · rename_i e o off len c hu ha
        cases hb : Nat.blt n len with
        | false => rw [hb] at hp; cases hp
        | true =>
          rw [hb] at hp
          simp only [cond_true] at hp
          cases hs : C.size e with
          | none => rw [hs] at hp; cases hp
          | some sz =>
            rw [hs] at hp
            simp only [Option.bind_some, Option.some.injEq, Prod.mk.injEq] at hp
            obtain ⟨rfl, rfl⟩ := hp
            exact indexAddr_sound hC h hx hi' hs (.inl ⟨len, c, hu, ha, Nat.le_of_ble_eq_true hb⟩)
      · rename_i len e o off hu ha
        cases hb : Nat.blt n len with
        | false => rw [hb] at hp; cases hp
        | true =>
          rw [hb] at hp
          simp only [cond_true] at hp
          cases hs : C.size e with
          | none => rw [hs] at hp; cases hp
          | some sz =>
            rw [hs] at hp
            simp only [Option.bind_some, Option.some.injEq, Prod.mk.injEq] at hp
            obtain ⟨rfl, rfl⟩ := hp
            exact indexAddr_sound hC h hx hi' hs (.inr ⟨len, hu, ha, Nat.le_of_ble_eq_true hb⟩)
      · cases hp
  | index t x i =>
    have hx := hρ x (by simp [Op.operands])
    have hi := hρ i (by simp [Op.operands])
    simp only [prim] at hp
    cases hn : asN (ρ i) with
    | none => rw [hn] at hp; cases hp
    | some n =>
      rw [hn] at hp
      simp only [Option.bind_some] at hp
      obtain ⟨k, hk⟩ := asN_some hn
      rw [hk] at hi
      have hi' : ρ' i = .int k n := by generalize ρ' i = ii at hi; cases hi; rfl
      refine OpRes.next ?_
      split at hp
      · rename_i len e cs hu ha
        cases hb : Nat.blt n len with
        | false => rw [hb] at hp; cases hp
        | true =>
          rw [hb] at hp
          simp only [cond_true] at hp
          cases hs : C.size e with
          | none => rw [hs] at hp; cases hp
          | some sz =>
            rw [hs] at hp
            simp only [Option.bind_some] at hp
            obtain ⟨h1, rfl⟩ := pure1_some hp
            exact index_sound hC h hi' (by rw [hu, ha]; simp only [hb, cond_true, hs, Option.bind_some]; exact h1) hx
      · rename_i s hu ha
        split at hp
        · rename_i b hb
          simp only [Option.some.injEq, Prod.mk.injEq] at hp
          obtain ⟨rfl, rfl⟩ := hp
          exact index_sound hC h hi' (by rw [hu, ha]; simp only [hb]) hx
        · cases hp
      · cases hp
  | lookup t x k ok =>
    simp only [prim] at hp
    obtain ⟨h1, rfl⟩ := pure1_some hp
    exact OpRes.next (lookup_sound hC h (hρ x (by simp [Op.operands])) (hρ k (by simp [Op.operands])) h1)
  | mapUpdate t x k y =>
    simp only [prim] at hp
    obtain ⟨h1, rfl⟩ := unit1_some hp
    obtain ⟨w', h2, h3, h4⟩ := mapUpdate_sound hC h (hρ x (by simp [Op.operands])) (hρ k (by simp [Op.operands])) (hρ y (by simp [Op.operands])) h1
    exact unit_next h2 h3 h4
  | insert t x k y =>
    simp only [prim] at hp
    obtain ⟨h1, rfl⟩ := unit1_some hp
    obtain ⟨w', h2, h3, h4⟩ := mapUpdate_sound hC h (hρ x (by simp [Op.operands])) (hρ k (by simp [Op.operands])) (hρ y (by simp [Op.operands])) h1
    exact unit_next h2 h3 h4
  | extract t i =>
    have hx := hρ t (by simp [Op.operands])
    simp only [prim] at hp
    refine OpRes.next ?_
    generalize ρ' t = x' at hx
    split at hp
    · rename_i vs ht
      rw [ht] at hx
      cases hx with
      | tuple h1 h2 =>
        obtain ⟨h3, rfl⟩ := pure1_some hp
        obtain ⟨v', h4, h5⟩ := LRel.get ⟨h1, h2⟩ h3
        exact ⟨v', w, by simp [Instr.extract, h4], .same h h5⟩
    · cases hp
  | call c =>
    obtain ⟨callee, args, ats⟩ := c
    simp only [prim] at hp
    cases callee with
    | builtin b =>
      simp only at hp
      have ha := lrel_map (μ := μ) (l := args.toList) (fun x hx => hρ x (by simp [Op.operands, Call.operands]; simpa using hx))
      have e1 : args.map ρ' = ⟨args.toList.map ρ'⟩ := by apply Array.ext'; simp
      obtain ⟨nx, v', w', r1, r2, r3⟩ := builtin_sound (ty := type) (cs := args.map fun | .const _ => true | _ => false) hC h ha hp
      refine ⟨nx, v', w', ?_, r2, r3⟩
      rw [← e1] at r1
      simp only [execOp, resolve, Sem.run_bind, Sem.run_pure, Result.andThen_ok, invoke]
      exact r1
    | value f => cases hp
    | invoke r n => cases hp
  | _ => simp only [prim] at hp; cases hp

end
end Go.Ev
