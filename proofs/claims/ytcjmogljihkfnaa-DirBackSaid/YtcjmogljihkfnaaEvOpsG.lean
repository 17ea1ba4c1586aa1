/- A part of an evaluator of the model and of the proof that what it answers the model does; no condition. -/
import Derived.Test.YtcjmogljihkfnaaEvOpsF
set_option linter.unusedVariables false
set_option linter.unusedSimpArgs false
namespace Go.Ev
set_option linter.unusedSectionVars false
variable [Atoms]
open Go.RowKit (Below)

section
variable {B : Nat} {w0 : World} {μ : Mu} {m : Mem} {w : World} {P : Program} {C : Ctx}

theorem copy_sound (hC : C.Ok P) (h : Rel B w0 μ m w) {t u ty : TypeId} {d d' x x' v : Value} {m' : Mem} (hd : VRel μ d d') (hx : VRel μ x x') (hp : acopy C t d x m = some (v, m')) :
    OpRes P B w0 μ m (Builtin.copy_ #[t, u] ty #[d', x']) w v m' := by
  unfold acopy at hp
  cases he : elemSz C t with
  | none => rw [he] at hp; cases hp
  | some esz =>
  rw [he] at hp
  obtain ⟨e, i, z, hi⟩ := elemSz_info hC he
  have hsz := hi.size
  subst hsz
  simp only [Option.bind_some] at hp
  obtain ⟨k, hk⟩ : ∃ k, lenV x = some k := by
    cases d <;> try (cases hp; done)
    cases hl : lenV x with
    | none => simp only [hl] at hp; cases hp
    | some k => exact ⟨k, rfl⟩
  have hlen : ∀ w', (Builtin.lenOf x').run P w' = .ok k w' := by
    cases hx <;> (try (cases hk; done)) <;> (simp only [lenV, Option.some.injEq] at hk; subst hk; intro w'; rfl)
  -- nothing to copy
  have zero : ∀ dlen base' c', min k dlen = 0 → (Builtin.copy_ #[t, u] ty #[.slice base' dlen c', x']).run P w = .ok (goInt 0) w := by
    intro dlen base' c' h0
    have hf : (Builtin.firstCells i.size 0 x').run P w = .ok #[] w := by
      cases hx <;> (try (cases hk; done))
      · simp [Builtin.firstCells]
      · exact run_firstCells_none w _ _ _ _
      · exact run_firstCells_some w _ _ _ _ _ [] (by simp) (by simp)
      · exact run_firstCells_some w _ _ _ _ _ [] (by simp) (by simp)
    have h0' : Nat.min k dlen = 0 := h0
    cases base' <;> simp [Builtin.copy_, run_underlying hi.ty, hlen, h0', run_sizeOf hi.info, hf, storeCells]
  have hmin : ∀ n, min k n = Nat.min k n := fun n => rfl
  cases hd with
  | snil =>
    simp only [hk, Option.bind_some] at hp
    have h0 : min k 0 = 0 := Nat.min_zero k
    rw [h0] at hp
    simp only [Nat.beq_refl, cond_true, Option.some.injEq, Prod.mk.injEq] at hp
    obtain ⟨rfl, rfl⟩ := hp
    exact ⟨_, w, zero 0 none 0 h0, .same h (.int _ _)⟩
  | semp =>
    rename_i a a' c'
    simp only [hk, Option.bind_some] at hp
    have h0 : min k 0 = 0 := Nat.min_zero k
    rw [h0] at hp
    simp only [Nat.beq_refl, cond_true, Option.some.injEq, Prod.mk.injEq] at hp
    obtain ⟨rfl, rfl⟩ := hp
    exact ⟨_, w, zero 0 (some a') c' h0, .same h (.int _ _)⟩
  | slice ho hcap hunk =>
    rename_i o off dlen cap cap' l
    simp only [hk, Option.bind_some] at hp
    cases h0 : Nat.beq (min k dlen) 0 with
    | true =>
      rw [h0] at hp
      simp only [cond_true, Option.some.injEq, Prod.mk.injEq] at hp
      obtain ⟨rfl, rfl⟩ := hp
      exact ⟨_, w, zero dlen _ cap' (Nat.eq_of_beq_eq_true h0), .same h (.int _ _)⟩
    | false =>
      rw [h0] at hp
      simp only [cond_false] at hp
      have hne := ne_of_beq_false h0
      -- what is copied
      have key : ∀ cs, copyCells i.size (min k dlen) x m = some cs →
          ∃ cs', LRel μ cs cs' ∧ (Builtin.firstCells i.size (min k dlen) x').run P w = .ok ⟨cs'⟩ w := by
        intro cs hcs
        cases hx <;> (try (cases hk; done))
        · rename_i s
          simp only [copyCells] at hcs
          cases hb : Nat.beq i.size 1 with
          | false => rw [hb] at hcs; cases hcs
          | true =>
            rw [hb] at hcs
            simp only [cond_true, Option.some.injEq] at hcs
            subst hcs
            refine ⟨_, LRel.same (fun q hq => ?_), ?_⟩
            · obtain ⟨b, _, rfl⟩ := List.mem_map.1 hq
              exact .int _ _
            · simp only [Builtin.firstCells, Sem.run_pure, Result.ok.injEq, and_true]
              have := ByteArray.extract_mk s.data.toList 0 (min k dlen)
              simp at this
              rw [this]
              simp
        · simp only [copyCells, srcCells, h0, cond_false] at hcs; cases hcs
        · rename_i o2 off2 k2 c2 c2' l2 ho2 _ _
          simp only [copyCells, srcCells, h0, cond_false] at hcs
          obtain ⟨cs', hr, hl2, hcell⟩ := h.load ho2 hcs
          exact ⟨cs', hr, run_firstCells_some w _ _ _ _ _ cs' (by rw [← hr.len]; exact hl2) (fun j u hu => by rw [addr_add]; exact hcell j u hu)⟩
        · simp only [lenV, Option.some.injEq] at hk
          subst hk
          exact absurd (Nat.zero_min dlen) hne
      cases hcs : copyCells i.size (min k dlen) x m with
      | none => rw [hcs] at hp; cases hp
      | some cs =>
        rw [hcs] at hp
        simp only [Option.bind_some] at hp
        obtain ⟨cs', hr, hrun⟩ := key cs hcs
        cases hst : m.storeN o off cs with
        | none => rw [hst] at hp; cases hp
        | some m2 =>
          rw [hst] at hp
          simp only [Option.bind_some, Option.some.injEq, Prod.mk.injEq] at hp
          obtain ⟨rfl, rfl⟩ := hp
          obtain ⟨w', r1, r2, r3⟩ := h.store (P := P) ho hst hr
          refine ⟨goInt (min k dlen : Nat), w', ?_, μ, .int _ _, r2, r3⟩
          have hrun' : (Builtin.firstCells i.size (Nat.min k dlen) x').run P w = .ok ⟨cs'⟩ w := hrun
          simp [Builtin.copy_, run_underlying hi.ty, hlen, run_sizeOf hi.info, hrun', r1]
  | _ => cases hp

theorem clear_sound (hC : C.Ok P) (h : Rel B w0 μ m w) {t ty : TypeId} {x x' : Value} {m' : Mem} (hx : VRel μ x x') (hp : clearA C t x m = some m') :
    ∃ w', (Builtin.clear_ #[t] ty #[x']).run P w = .ok (.tuple #[]) w' ∧ Rel B w0 μ m' w' ∧ Ext μ m μ m' := by
  unfold clearA at hp
  cases hu : C.under t with
  | none => rw [hu] at hp; cases hp
  | some dd =>
  rw [hu] at hp
  have hu' := hC.under hu
  simp only [Option.bind_some] at hp
  cases hx with
  | snil =>
    simp only [Nat.beq_refl, cond_true, Option.some.injEq] at hp
    subst hp
    exact ⟨w, by cases dd <;> simp [Builtin.clear_, run_underlying hu'], h, Ext.refl _ _⟩
  | semp =>
    simp only [Nat.beq_refl, cond_true, Option.some.injEq] at hp
    subst hp
    exact ⟨w, by cases dd <;> simp [Builtin.clear_, run_underlying hu'], h, Ext.refl _ _⟩
  | slice ho hcap hunk =>
    rename_i o off n cap cap' l
    simp only at hp
    cases h0 : Nat.beq n 0 with
    | true =>
      have := Nat.eq_of_beq_eq_true h0
      subst this
      simp only [Nat.beq_refl, cond_true, Option.some.injEq] at hp
      subst hp
      exact ⟨w, by cases dd <;> simp [Builtin.clear_, run_underlying hu'], h, Ext.refl _ _⟩
    | false =>
      rw [h0] at hp
      simp only [cond_false] at hp
      cases he : elemSz C t with
      | none => rw [he] at hp; cases hp
      | some esz =>
      rw [he] at hp
      simp only [Option.bind_some] at hp
      cases h2 : sliceElem C t with
      | none => rw [h2] at hp; cases hp
      | some e =>
      rw [h2] at hp
      simp only [Option.bind_some] at hp
      cases h3 : C.info e with
      | none => rw [h3] at hp; cases hp
      | some i =>
      rw [h3] at hp
      simp only [Option.bind_some] at hp
      cases h4 : i.zero with
      | none => rw [h4] at hp; cases hp
      | some z =>
      rw [h4] at hp
      simp only [Option.bind_some] at hp
      have hi := elemSz_parts hC he h2 h3 h4
      have hzr := (hC.zeroRel h3 h4 μ).cells
      have hpos := hi.pos
      have hzs := hi.zsize
      have hrr : LRel μ (rep n (Val.cells z)) (rep n (Val.cells z)) := by
        refine LRel.same fun u hu => ?_
        unfold rep at hu
        obtain ⟨l', hl', hu'⟩ := List.mem_flatten.1 hu
        rw [List.eq_of_mem_replicate hl'] at hu'
        obtain ⟨k, hk⟩ := List.getElem?_of_mem hu'
        obtain ⟨u', h5, h6⟩ := hzr.get hk
        rw [Val.cells_eq] at hk
        rw [hk] at h5; cases h5
        exact h6
      obtain ⟨w', r1, r2, r3⟩ := h.store (P := P) ho hp hrr
      refine ⟨w', ?_, r2, r3⟩
      have hz : (Builtin.zeroCells z.cells n).toList = rep n (Val.cells z) := by
        have := range_map_zero z.cells n (by omega)
        rw [Val.cells_eq, ← this]
        rfl
      have hne := ne_of_beq_false h0
      obtain ⟨n', rfl⟩ : ∃ n', n = n' + 1 := ⟨n - 1, by omega⟩
      simp [Builtin.clear_, run_underlying hi.ty, run_zeroValue hi.info hi.zero, hz, r1]
  | _ => cases hp

theorem max_sound (w : World) : ∀ (r r' : List Value) (x x' v : Value), VRel μ x x' → LRel μ r r' → r.foldl (fun acc y => acc.bind fun a => minmax2 true a y) (some x) = some v →
    ∃ v', (r'.foldlM Builtin.max2 x').run P w = .ok v' w ∧ VRel μ v v'
  | [], r', x, x', v, hx, hr, h => by
    rw [hr.nil_left]
    simp only [List.foldl_nil, Option.some.injEq] at h
    subst h
    exact ⟨x', rfl, hx⟩
  | y :: r, r', x, x', v, hx, hr, h => by
    obtain ⟨y', r'', rfl, hy, hr'⟩ := hr.cons_left
    simp only [List.foldl_cons, Option.bind_some] at h
    have hnone : ∀ l : List Value, l.foldl (fun acc y => acc.bind fun a => minmax2 true a y) none = none := by
      intro l; induction l with
      | nil => rfl
      | cons a l ih => simpa using ih
    cases hm : minmax2 true x y with
    | none => rw [hm, hnone] at h; cases h
    | some u =>
      rw [hm] at h
      unfold minmax2 at hm
      split at hm
      · rename_i k a k' b
        cases hx; cases hy
        cases hd : decide (k = k') with
        | false => rw [hd] at hm; cases hm
        | true =>
          rw [hd] at hm
          simp only [cond_true, Option.some.injEq] at hm
          have hu : (Builtin.max2 (.int k a) (.int k' b)).run P w = .ok u w := by
            subst hm
            by_cases hab : b > a <;> simp [Builtin.max2, hab]
          have hur : VRel μ u u := by subst hm; exact .int _ _
          obtain ⟨v', h1, h2⟩ := max_sound w r r'' u u v hur hr' h
          refine ⟨v', ?_, h2⟩
          simp only [List.foldlM_cons, Sem.run_bind, hu, Result.andThen_ok, h1]
      · cases hm

theorem min_sound (w : World) : ∀ (r r' : List Value) (x x' v : Value), VRel μ x x' → LRel μ r r' → r.foldl (fun acc y => acc.bind fun a => minmax2 false a y) (some x) = some v →
    ∃ v', (r'.foldlM Builtin.min2 x').run P w = .ok v' w ∧ VRel μ v v'
  | [], r', x, x', v, hx, hr, h => by
    rw [hr.nil_left]
    simp only [List.foldl_nil, Option.some.injEq] at h
    subst h
    exact ⟨x', rfl, hx⟩
  | y :: r, r', x, x', v, hx, hr, h => by
    obtain ⟨y', r'', rfl, hy, hr'⟩ := hr.cons_left
    simp only [List.foldl_cons, Option.bind_some] at h
    have hnone : ∀ l : List Value, l.foldl (fun acc y => acc.bind fun a => minmax2 false a y) none = none := by
      intro l; induction l with
      | nil => rfl
      | cons a l ih => simpa using ih
    cases hm : minmax2 false x y with
    | none => rw [hm, hnone] at h; cases h
    | some u =>
      rw [hm] at h
      unfold minmax2 at hm
      split at hm
      · rename_i k a k' b
        cases hx; cases hy
        cases hd : decide (k = k') with
        | false => rw [hd] at hm; cases hm
        | true =>
          rw [hd] at hm
          simp only [cond_true, Option.some.injEq] at hm
          have hu : (Builtin.min2 (.int k a) (.int k' b)).run P w = .ok u w := by
            subst hm
            by_cases hab : b < a <;> simp [Builtin.min2, hab]
          have hur : VRel μ u u := by subst hm; exact .int _ _
          obtain ⟨v', h1, h2⟩ := min_sound w r r'' u u v hur hr' h
          refine ⟨v', ?_, h2⟩
          simp only [List.foldlM_cons, Sem.run_bind, hu, Result.andThen_ok, h1]
      · cases hm

end
end Go.Ev
