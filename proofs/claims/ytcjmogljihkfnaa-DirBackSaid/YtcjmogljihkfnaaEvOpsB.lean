/- A part of an evaluator of the model and of the proof that what it answers the model does; no condition. -/
import Derived.Test.YtcjmogljihkfnaaEvOpsA
set_option linter.unusedVariables false
set_option linter.unusedSimpArgs false
namespace Go.Ev
set_option linter.unusedSectionVars false
variable [Atoms]
open Go.RowKit (Below)

section
variable {B : Nat} {w0 : World} {μ : Mu} {m : Mem} {w : World} {P : Program} {C : Ctx}

theorem pure1_some {o : Option Value} {v : Value} {m m' : Mem} (h : pure1 o m = some (v, m')) : o = some v ∧ m' = m := by
  unfold pure1 at h
  cases o with
  | none => cases h
  | some u => simp only [Option.bind_some, Option.some.injEq, Prod.mk.injEq] at h; exact ⟨by rw [h.1], h.2.symm⟩
theorem unit1_some {o : Option Mem} {v : Value} {m' : Mem} (h : unit1 o = some (v, m')) : o = some m' ∧ v = .tuple ⟨[]⟩ := by
  unfold unit1 at h
  cases o with
  | none => cases h
  | some u => simp only [Option.bind_some, Option.some.injEq, Prod.mk.injEq] at h; exact ⟨by rw [h.2], h.1.symm⟩

theorem fieldSizes_spec (hC : C.Ok P) : ∀ (fs : List Field) (n : Nat) (l : List (Nat × Nat × Nat)), fieldSizes C n fs = some l →
    l.length = fs.length ∧ ∀ (i : Nat) (f : Field), fs[i]? = some f → ∃ k, l[i]? = some (n + i, f.offset, k) ∧ ∃ inf, P.info? f.type = some inf ∧ inf.size = k
  | [], n, l, h => by simp only [fieldSizes, Option.some.injEq] at h; subst h; exact ⟨rfl, fun i f hf => by simp at hf⟩
  | f :: r, n, l, h => by
    simp only [fieldSizes] at h
    cases hs : C.size f.type with
    | none => rw [hs] at h; cases h
    | some k =>
      rw [hs] at h
      simp only [Option.bind_some] at h
      cases hr : fieldSizes C (n + 1) r with
      | none => rw [hr] at h; cases h
      | some l' =>
        rw [hr] at h
        simp only [Option.bind_some, Option.some.injEq] at h
        subst h
        obtain ⟨h1, h2⟩ := fieldSizes_spec hC r (n + 1) l' hr
        refine ⟨by simp [h1], fun i g hg => ?_⟩
        cases i with
        | zero =>
          simp only [List.getElem?_cons_zero, Option.some.injEq] at hg
          subst hg
          exact ⟨k, by simp, hC.size hs⟩
        | succ i =>
          simp only [List.getElem?_cons_succ] at hg
          obtain ⟨k', h3, h4⟩ := h2 i g hg
          exact ⟨k', by simp only [List.getElem?_cons_succ]; rw [h3]; congr 2; omega, h4⟩

theorem find_numbered : ∀ (l : List (Nat × Nat × Nat)) (n : Nat), (∀ (i : Nat) (x : Nat × Nat × Nat), l[i]? = some x → x.1 = n + i) → ∀ (j : Nat) (f : Nat × Nat × Nat),
    l.find? (fun f => Nat.beq f.1 j) = some f → f.1 = j ∧ l[j - n]? = some f ∧ n ≤ j
  | [], _, _, _, _, h => by cases h
  | x :: r, n, hn, j, f, h => by
    simp only [List.find?_cons] at h
    cases hb : Nat.beq x.1 j with
    | true =>
      rw [hb] at h
      simp only [Option.some.injEq] at h
      subst h
      have h1 := Nat.eq_of_beq_eq_true hb
      have h2 := hn 0 x rfl
      simp only [Nat.add_zero] at h2
      exact ⟨h1, by rw [show j - n = 0 from by omega]; rfl, by omega⟩
    | false =>
      rw [hb] at h
      obtain ⟨h1, h2, h3⟩ := find_numbered r (n + 1) (fun i y hy => by have := hn (i + 1) y (by simpa using hy); omega) j f h
      exact ⟨h1, by rw [show j - n = (j - (n + 1)) + 1 from by omega]; simpa using h2, by omega⟩

theorem mapM_places (P : Program) (w : World) : ∀ (fs : List Field), (∀ f ∈ fs, ∃ i, P.info? f.type = some i) →
    (fs.mapM fun (f : Field) => (do pure (f.offset, ← sizeOf f.type) : Sem (Nat × Nat))).run P w = .ok (fs.map fun f => (f.offset, P.cellsOf f.type)) w
  | [], _ => by simp
  | f :: r, h => by
    obtain ⟨i, hi⟩ := h f (by simp)
    have ih := mapM_places P w r (fun g hg => h g (by simp [hg]))
    simp only [List.mapM_cons, Sem.run_bind, run_sizeOf hi, Result.andThen_ok, Sem.run_pure, List.map_cons]
    rw [ih]
    simp [Program.cellsOf, hi]

theorem rowSizes_get (sz n i : Nat) : (rowSizes sz n)[i]? = if i < n then some (i, i * sz, sz) else none := by
  unfold rowSizes
  rw [List.getElem?_map]
  by_cases h : i < n
  · rw [List.getElem?_range h, if_pos h]; rfl
  · rw [List.getElem?_eq_none (by simp; omega), if_neg h]; rfl

theorem rel_parts {ps : Array (Nat × Operand)} {ρ ρ' : Operand → Value} (hρ : ∀ x ∈ ps.toList.map (·.2), VRel μ (ρ x) (ρ' x)) :
    (ps.toList.map fun (i, x) => (i, ρ x)).length = (ps.toList.map fun (i, x) => (i, ρ' x)).length ∧
    ∀ (i : Nat) (a b : Nat × Value), (ps.toList.map fun (i, x) => (i, ρ x))[i]? = some a → (ps.toList.map fun (i, x) => (i, ρ' x))[i]? = some b → a.1 = b.1 ∧ VRel μ a.2 b.2 := by
  refine ⟨by simp, fun i a b ha hb => ?_⟩
  rw [List.getElem?_map] at ha hb
  cases hp : ps.toList[i]? with
  | none => rw [hp] at ha; cases ha
  | some p =>
    rw [hp] at ha hb
    simp only [Option.map_some, Option.some.injEq] at ha hb
    subst ha; subst hb
    exact ⟨rfl, hρ _ (List.mem_map.2 ⟨p, List.mem_of_getElem? hp, rfl⟩)⟩

theorem build_sound (hC : C.Ok P) (h : Rel B w0 μ m w) {t : TypeId} {ps : Array (Nat × Operand)} {ρ ρ' : Operand → Value} (hρ : ∀ x ∈ ps.toList.map (·.2), VRel μ (ρ x) (ρ' x)) {v : Value}
    (hb : buildV C t (ps.toList.map fun (i, x) => (i, ρ x)) = some v) : OpRes P B w0 μ m (Instr.build t (ps.map fun (i, x) => (i, ρ' x))) w v m := by
  unfold buildV at hb
  cases hi : C.info t with
  | none => rw [hi] at hb; cases hb
  | some i =>
    rw [hi] at hb
    simp only [Option.bind_some] at hb
    cases hz : i.zero with
    | none => rw [hz] at hb; cases hb
    | some z =>
      rw [hz] at hb
      simp only [Option.bind_some] at hb
      obtain ⟨hl, hr⟩ := rel_parts (μ := μ) (ps := ps) hρ
      have hzr := (hC.zeroRel hi hz μ).cells
      have hzc : (zeroValue t).run P w = .ok z w := run_zeroValue (hC.info hi) hz w
      have hto : (ps.map fun (i, x) => (i, ρ' x)).toList = ps.toList.map fun (i, x) => (i, ρ' x) := by simp
      split at hb
      · rename_i fields hu
        have hu' := hC.under hu
        cases hfs : fieldSizes C 0 fields.toList with
        | none => rw [hfs] at hb; cases hb
        | some fs =>
          rw [hfs] at hb
          simp only [Option.bind_some] at hb
          cases hbc : buildCells fs (Val.cells z) (ps.toList.map fun (i, x) => (i, ρ x)) with
          | none => rw [hbc] at hb; cases hb
          | some out =>
            rw [hbc] at hb
            simp only [Option.bind_some, Option.some.injEq] at hb
            subst hb
            obtain ⟨hlen, hspec⟩ := fieldSizes_spec hC fields.toList 0 fs hfs
            have hplaces : (fields.mapM fun (f : Field) => (do pure (f.offset, ← sizeOf f.type) : Sem (Nat × Nat))).run P w = .ok (fields.map fun f => (f.offset, P.cellsOf f.type)) w := by
              rw [← Array.toArray_toList (xs := fields), List.mapM_toArray]
              have := mapM_places P w fields.toList (fun f hf => by
                obtain ⟨k, hk⟩ := List.getElem?_of_mem hf
                obtain ⟨_, _, inf, h1, _⟩ := hspec k f hk
                exact ⟨inf, h1⟩)
              simp only [Sem.run_map, this, Result.andThen_ok]
              refine congrArg (fun x => Result.ok x w) ?_
              apply Array.ext'
              simp
            obtain ⟨out', ho, hor⟩ := fill_sound (μ := μ) (fs := fs) (place := ((fields.map fun f => (f.offset, P.cellsOf f.type))[·]?)) (by
              intro j f hf
              obtain ⟨h1, h2, h3⟩ := find_numbered fs 0 (fun k x hx => by
                have hk : k < fields.toList.length := by rw [← hlen]; exact (List.getElem?_eq_some_iff.1 hx).1
                obtain ⟨q, h4, _⟩ := hspec k _ (List.getElem?_eq_getElem hk)
                rw [hx] at h4
                simp only [Option.some.injEq] at h4
                rw [h4]) j f hf
              simp only [Nat.sub_zero] at h2
              have hk : j < fields.toList.length := by rw [← hlen]; exact (List.getElem?_eq_some_iff.1 h2).1
              obtain ⟨q, h4, inf, h5, h6⟩ := hspec j _ (List.getElem?_eq_getElem hk)
              rw [h2] at h4
              simp only [Option.some.injEq] at h4
              rw [h4]
              simp only [Array.getElem?_map]
              have hk' : j < fields.size := by simpa using hk
              have h5' : P.info? fields[j].type = some inf := by simpa using h5
              rw [Array.getElem?_eq_getElem hk']
              simp [Program.cellsOf, h5', h6]) hl hr hzr hbc
            refine ⟨.agg out', w, ?_, .same h (.agg' (bs := out'.toList) hor)⟩
            simp only [Instr.build, Sem.run_bind, hzc, Result.andThen_ok, run_underlying hu', hplaces, hto]
            simp only [ho]
            rfl
      · rename_i len e hu
        have hu' := hC.under hu
        cases hs : C.size e with
        | none => rw [hs] at hb; cases hb
        | some sz =>
          rw [hs] at hb
          simp only [Option.bind_some] at hb
          cases hbc : buildCells (rowSizes sz len) (Val.cells z) (ps.toList.map fun (i, x) => (i, ρ x)) with
          | none => rw [hbc] at hb; cases hb
          | some out =>
            rw [hbc] at hb
            simp only [Option.bind_some, Option.some.injEq] at hb
            subst hb
            obtain ⟨inf, h1, h2⟩ := hC.size hs
            obtain ⟨out', ho, hor⟩ := fill_sound (μ := μ) (fs := rowSizes sz len) (place := fun i => some (i * sz, sz)) (by
              intro j f hf
              obtain ⟨h3, h4, _⟩ := find_numbered (rowSizes sz len) 0 (fun k x hx => by
                rw [rowSizes_get] at hx
                split at hx
                · cases hx; simp
                · cases hx) j f hf
              simp only [Nat.sub_zero] at h4
              rw [rowSizes_get] at h4
              split at h4
              · cases h4; rfl
              · cases h4) hl hr hzr hbc
            refine ⟨.agg out', w, ?_, .same h (.agg' (bs := out'.toList) hor)⟩
            simp only [Instr.build, Sem.run_bind, hzc, Result.andThen_ok, run_underlying hu', run_sizeOf h1, h2, hto]
            simp only [ho]
            rfl
      · cases hb

end
end Go.Ev
