/- A part of an evaluator of the model and of the proof that what it answers the model does; no condition. -/
import Derived.Test.YtcjmogljihkfnaaEvOpsB
import Derived.Test.YtcjmogljihkfnaaEvInt
set_option linter.unusedVariables false
set_option linter.unusedSimpArgs false
namespace Go.Ev
set_option linter.unusedSectionVars false
variable [Atoms]
open Go.RowKit (Below)

section
variable {B : Nat} {w0 : World} {μ : Mu} {m : Mem} {w : World} {P : Program} {C : Ctx}

theorem rep_length {α : Type} (n : Nat) (xs : List α) : (rep n xs).length = n * xs.length := by
  unfold rep
  induction n with
  | zero => simp
  | succ n ih => rw [List.replicate_succ, List.flatten_cons, List.length_append, ih, Nat.add_mul]; omega
theorem rep_get {α : Type} (xs : List α) (hx : 0 < xs.length) : ∀ (n i : Nat), (rep n xs)[i]? = if i < n * xs.length then xs[i % xs.length]? else none
  | 0, i => by simp [rep]
  | n + 1, i => by
    have ih := rep_get xs hx n
    have e : rep (n + 1) xs = xs ++ rep n xs := by simp [rep, List.replicate_succ]
    rw [e]
    by_cases h : i < xs.length
    · rw [List.getElem?_append_left h, Nat.mod_eq_of_lt h, if_pos]
      rw [Nat.add_mul]; omega
    · rw [List.getElem?_append_right (by omega), ih]
      rw [show (i - xs.length) % xs.length = i % xs.length from by
        rw [← Nat.add_mod_right (i - xs.length), Nat.sub_add_cancel (by omega)]]
      rw [Nat.add_mul]
      by_cases h2 : i - xs.length < n * xs.length
      · rw [if_pos h2, if_pos (by omega)]
      · rw [if_neg h2, if_neg (by omega)]

theorem range_map_zero (zero : Array Value) (n : Nat) (hz : 0 < zero.size) : ((Array.range (n * zero.size)).map fun i => zero[i % zero.size]!).toList = rep n zero.toList := by
  apply List.ext_getElem?
  intro i
  rw [rep_get _ (by simpa using hz)]
  simp only [Array.length_toList]
  by_cases h : i < n * zero.size
  · rw [if_pos h]
    have hm : i % zero.size < zero.size := Nat.mod_lt _ hz
    simp [h, hm]
  · rw [if_neg h]
    simp [h]

theorem elemSz_parts (hC : C.Ok P) {t : TypeId} {esz : Nat} {e : TypeId} {i : TypeInfo} {z : Value} (h1 : elemSz C t = some esz) (h2 : sliceElem C t = some e) (h3 : C.info e = some i) (h4 : i.zero = some z) :
    ElemInfo P t esz e i z := by
  obtain ⟨e', i', z', hi⟩ := elemSz_info hC h1
  unfold sliceElem at h2
  split at h2
  · rename_i e2 hu
    cases h2
    have := hC.under hu
    rw [hi.ty] at this
    cases this
    have h5 := hC.info h3
    rw [hi.info] at h5
    cases h5
    have h6 := hi.zero
    rw [h4] at h6
    cases h6
    exact hi
  · cases h2

theorem buildSlice_run (hC : C.Ok P) {t : TypeId} {len : Nat} {ps : Array (Nat × Operand)} {ρ ρ' : Operand → Value} (hρ : ∀ x ∈ ps.toList.map (·.2), VRel μ (ρ x) (ρ' x)) {v : Value} {m' : Mem} (w : World)
    (hb : prim C ρ (.buildSlice t len ps) m = some (v, m')) :
    ∃ esz e out out', v = .slice (some ⟨m.next, 0, none⟩) len len ∧ m' = m.new (.cells out esz .sole) ∧
      (∀ m2, prim C ρ (.buildSlice t len ps) m2 = some (.slice (some ⟨m2.next, 0, none⟩) len len, m2.new (.cells out esz .sole))) ∧ LRel μ out out'.toList ∧ len < UNK ∧
      (Instr.buildSlice t len (ps.map fun (i, x) => (i, ρ' x))).run P w = .ok (.slice (some ⟨w.heap.size, 0, none⟩) len len) (w.alloc (.cells out' e)) := by
  simp only [prim] at hb ⊢
  cases he : elemSz C t with
  | none => rw [he] at hb; cases hb
  | some esz =>
    rw [he] at hb
    simp only [Option.bind_some] at hb
    cases h2 : sliceElem C t with
    | none => rw [h2] at hb; cases hb
    | some e =>
      rw [h2] at hb
      simp only [Option.bind_some] at hb
      cases h3 : C.info e with
      | none => rw [h3] at hb; cases hb
      | some i =>
        rw [h3] at hb
        simp only [Option.bind_some] at hb
        cases h4 : i.zero with
        | none => rw [h4] at hb; cases hb
        | some z =>
          rw [h4] at hb
          simp only [Option.bind_some] at hb
          have hi := elemSz_parts hC he h2 h3 h4
          cases hbig : Nat.ble (len * esz) 16777216 with
          | false => rw [hbig] at hb; cases hb
          | true =>
            rw [hbig] at hb
            simp only [cond_true] at hb
            have hle := Nat.le_of_ble_eq_true hbig
            cases hbc : buildCells (rowSizes esz len) (rep len (Val.cells z)) (ps.toList.map fun (i, x) => (i, ρ x)) with
            | none => rw [hbc] at hb; cases hb
            | some out =>
              rw [hbc] at hb
              simp only [Option.bind_some, Option.some.injEq, Prod.mk.injEq] at hb
              obtain ⟨rfl, rfl⟩ := hb
              obtain ⟨hl, hr⟩ := rel_parts (μ := μ) (ps := ps) hρ
              have hzr := (hC.zeroRel h3 h4 μ).cells
              have hpos := hi.pos
              have hsz := hi.size
              subst hsz
              have hzs := hi.zsize
              have hcells : (if len * i.size = 0 then (#[] : Array Value) else z.cells) = z.cells ∨ len = 0 := by
                by_cases hz : len = 0
                · exact .inr hz
                · left; rw [if_neg]; intro h0; rcases Nat.mul_eq_zero.1 h0 with h0 | h0 <;> omega
              have key : ∃ out', Instr.fill (fun k => some (k * i.size, i.size)) ((Array.range (len * i.size)).map ((if len * i.size = 0 then (#[] : Array Value) else z.cells)[· % (if len * i.size = 0 then (#[] : Array Value) else z.cells).size]!)) (ps.toList.map fun (i, x) => (i, ρ' x)) = some out' ∧ LRel μ out out'.toList := by
                refine fill_sound (μ := μ) (fs := rowSizes i.size len) ?_ hl hr ?_ hbc
                · intro j f hf
                  obtain ⟨h3, h4, _⟩ := find_numbered (rowSizes i.size len) 0 (fun k x hx => by
                    rw [rowSizes_get] at hx
                    split at hx
                    · cases hx; simp
                    · cases hx) j f hf
                  simp only [Nat.sub_zero] at h4
                  rw [rowSizes_get] at h4
                  split at h4
                  · cases h4; rfl
                  · cases h4
                · rcases hcells with hc | hc
                  · rw [hc]
                    have := range_map_zero z.cells len (by omega)
                    rw [hzs] at this
                    rw [hzs, this, ← Val.cells_eq]
                    refine ⟨rfl, fun k u v hu hv => ?_⟩
                    rw [hu] at hv; cases hv
                    have hu2 := hu
                    rw [rep_get _ (by rw [Val.cells_eq]; simpa using by omega)] at hu2
                    split at hu2
                    · obtain ⟨u', h5, h6⟩ := hzr.get hu2
                      rw [← Val.cells_eq] at h5
                      rw [hu2] at h5; cases h5
                      exact h6
                    · cases hu2
                  · subst hc
                    simp [rep]
                    exact .nil
              obtain ⟨out', ho, hor⟩ := key
              have hto : (ps.map fun (i, x) => (i, ρ' x)).toList = ps.toList.map fun (i, x) => (i, ρ' x) := by simp
              refine ⟨i.size, e, out, out', rfl, rfl, fun m2 => ?_, hor, ?_, ?_⟩
              · simp only [he, h2, h3, h4, Option.bind_some, hbig, cond_true, hbc]
              · have : len ≤ len * i.size := Nat.le_mul_of_pos_right len (by omega)
                rw [UNK_eq]; omega
              · have hn : ¬ (len * i.size > 2 ^ 24) := by omega
                simp only [Instr.buildSlice, Sem.run_bind, run_underlying hi.ty, Result.andThen_ok, run_sizeOf hi.info, Sem.run_ite, if_neg hn]
                by_cases h0 : len * i.size = 0
                · simp only [h0, if_true] at ho ⊢
                  simp only [Sem.run_pure, Result.andThen_ok, hto]
                  rw [ho]
                  simp [newRow]
                · simp only [h0, if_false] at ho ⊢
                  simp only [Sem.run_bind, run_zeroValue hi.info hi.zero, Sem.run_pure, Result.andThen_ok, hto]
                  rw [ho]
                  simp [newRow]

theorem buildSlice_sound (hC : C.Ok P) (h : Rel B w0 μ m w) {t : TypeId} {len : Nat} {ps : Array (Nat × Operand)} {ρ ρ' : Operand → Value} (hρ : ∀ x ∈ ps.toList.map (·.2), VRel μ (ρ x) (ρ' x)) {v : Value} {m' : Mem}
    (hb : prim C ρ (.buildSlice t len ps) m = some (v, m')) : OpRes P B w0 μ m (Instr.buildSlice t len (ps.map fun (i, x) => (i, ρ' x))) w v m' := by
  obtain ⟨esz, e, out, out', rfl, rfl, _, hor, hlt, hrun⟩ := buildSlice_run (ρ' := ρ') hC hρ w hb
  refine ⟨_, _, hrun, ?_⟩
  obtain ⟨a1, a2⟩ := h.alloc_cells (vs := out) (cs := out'.toList) (by rw [hor.len, List.take_length]; exact hor) (by rw [hor.len]; exact Nat.le_refl _) esz (st := .sole) (fun g hg => by cases hg) e
  refine ⟨_, ?_, a1, a2⟩
  exact VRel.slice (l := ⟨w.heap.size, 0, esz, _⟩) (Mu.set_same _ _ _) (fun _ => rfl) (fun hc => absurd hlt (Nat.not_lt.2 hc))

theorem asN_some {v : Value} {n : Nat} (h : asN v = some n) : ∃ k, v = .int k n := by
  unfold asN at h
  split at h
  · rename_i k x
    cases hd : decide (0 ≤ x) with
    | false => rw [hd] at h; cases h
    | true =>
      rw [hd] at h
      simp only [cond_true, Option.some.injEq] at h
      have := of_decide_eq_true hd
      exact ⟨k, by rw [← h, Int.toNat_of_nonneg this]⟩
  · cases h

set_option maxRecDepth 100000 in
theorem makeSlice_run (hC : C.Ok P) {t : TypeId} {a b : Operand} {ρ : Operand → Value} {a' b' : Value} (ha : VRel μ (ρ a) a') (hb' : VRel μ (ρ b) b') {v : Value} {m' : Mem} (w : World)
    (hb : prim C ρ (.makeSlice t a b) m = some (v, m')) :
    ∃ esz e l c out out', v = .slice (some ⟨m.next, 0, none⟩) l c ∧ m' = m.new (.cells out esz .sole) ∧
      (∀ m2, prim C ρ (.makeSlice t a b) m2 = some (.slice (some ⟨m2.next, 0, none⟩) l c, m2.new (.cells out esz .sole))) ∧ LRel μ out out'.toList ∧ c < UNK ∧
      (Instr.makeSlice t a' b').run P w = .ok (.slice (some ⟨w.heap.size, 0, none⟩) l c) (w.alloc (.cells out' e)) := by
  simp only [prim] at hb ⊢
  cases he : elemSz C t with
  | none => rw [he] at hb; cases hb
  | some esz =>
    rw [he] at hb
    simp only [Option.bind_some] at hb
    cases h2 : sliceElem C t with
    | none => rw [h2] at hb; cases hb
    | some e =>
      rw [h2] at hb
      simp only [Option.bind_some] at hb
      cases h3 : C.info e with
      | none => rw [h3] at hb; cases hb
      | some i =>
        rw [h3] at hb
        simp only [Option.bind_some] at hb
        cases h4 : i.zero with
        | none => rw [h4] at hb; cases hb
        | some z =>
          rw [h4] at hb
          simp only [Option.bind_some] at hb
          have hi := elemSz_parts hC he h2 h3 h4
          cases hl : asN (ρ a) with
          | none => rw [hl] at hb; cases hb
          | some l =>
            rw [hl] at hb
            simp only [Option.bind_some] at hb
            cases hc : asN (ρ b) with
            | none => rw [hc] at hb; cases hb
            | some c =>
              rw [hc] at hb
              simp only [Option.bind_some] at hb
              cases hz : (Nat.ble l c && Nat.ble c BIG) with
              | false => rw [hz] at hb; cases hb
              | true =>
                rw [hz] at hb
                rw [Bool.and_eq_true] at hz
                have hlc := Nat.le_of_ble_eq_true hz.1
                have hcb := Nat.le_of_ble_eq_true hz.2
                rw [BIG_eq] at hcb
                simp only [cond_true, Option.some.injEq, Prod.mk.injEq] at hb
                obtain ⟨rfl, rfl⟩ := hb
                obtain ⟨k1, e1⟩ := asN_some hl
                obtain ⟨k2, e2⟩ := asN_some hc
                rw [e1] at ha
                rw [e2] at hb'
                cases ha; cases hb'
                have hpos := hi.pos
                have hsz := hi.size
                subst hsz
                have hzs := hi.zsize
                have hzr := (hC.zeroRel h3 h4 μ).cells
                have hby := hi.bytes
                have w1 : IntKind.i64.wrap (l : Int) = l := wrap64_id (by omega) (by omega)
                have w2 : IntKind.i64.wrap (c : Int) = c := wrap64_id (by omega) (by omega)
                have hm : i.bytes * c ≤ 70368744177664 := Nat.le_trans (Nat.mul_le_mul hby hcb) (by decide)
                have t1 : ¬ ((decide ((c : Int) < 0) || decide ((i.bytes : Int) * (c : Int) > 2 ^ 48)) = true) := by
                  simp only [Bool.or_eq_true, decide_eq_true_eq, not_or]
                  refine ⟨by omega, ?_⟩
                  have h7 : ((i.bytes * c : Nat) : Int) ≤ ((70368744177664 : Nat) : Int) := Int.ofNat_le.2 hm
                  rw [Int.natCast_mul] at h7
                  have e48 : (2 ^ 48 : Int) = ((281474976710656 : Nat) : Int) := rfl
                  rw [e48]
                  have h8 : ((70368744177664 : Nat) : Int) ≤ ((281474976710656 : Nat) : Int) := Int.ofNat_le.2 (by decide)
                  exact Int.not_lt.2 (Int.le_trans h7 h8)
                have range := range_map_zero z.cells c (by omega)
                rw [hzs] at range
                have hcl : (((Array.range (c * i.size)).map (((if c * i.size = 0 then (#[] : Array Value) else z.cells))[· % (if c * i.size = 0 then (#[] : Array Value) else z.cells).size]!))).toList = rep c (Val.cells z) := by
                  by_cases h0 : c * i.size = 0
                  · have : c = 0 := by rcases Nat.mul_eq_zero.1 h0 with h0 | h0 <;> omega
                    subst this
                    simp [rep]
                  · simp only [h0, if_false, hzs, range, Val.cells_eq]
                have hrr : LRel μ (rep c (Val.cells z)) (rep c (Val.cells z)) := by
                  refine LRel.same fun u hu => ?_
                  unfold rep at hu
                  obtain ⟨l', hl', hu'⟩ := List.mem_flatten.1 hu
                  rw [List.eq_of_mem_replicate hl'] at hu'
                  obtain ⟨k, hk⟩ := List.getElem?_of_mem hu'
                  obtain ⟨u', h5, h6⟩ := hzr.get hk
                  rw [Val.cells_eq] at hk
                  rw [hk] at h5; cases h5
                  exact h6
                refine ⟨i.size, e, l, c, rep c (Val.cells z), ((Array.range (c * i.size)).map (((if c * i.size = 0 then (#[] : Array Value) else z.cells))[· % (if c * i.size = 0 then (#[] : Array Value) else z.cells).size]!)), rfl, rfl, fun m2 => ?_, by rw [hcl]; exact hrr, by rw [UNK_eq]; omega, ?_⟩
                · simp only [he, h2, h3, h4, Option.bind_some, hl, hc, hz.1, hz.2, Bool.and_self, cond_true]
                · have hc1 : ((decide ((c : Int) < 0) || decide ((i.bytes : Int) * (c : Int) > 2 ^ 48)) || decide ((l : Int) < 0) || decide ((l : Int) > (c : Int))) = false := by
                    rw [Bool.eq_false_iff.2 t1]
                    simp; omega
                  simp only [Instr.makeSlice, Sem.run_bind, run_underlying hi.ty, Result.andThen_ok, asInt, asIntOf, Sem.run_pure, typeInfo, run_program, hi.info, w1, w2, hc1]
                  simp only [Bool.false_eq_true, if_false, run_askRoom, Result.andThen_ok, Sem.run_bind, Int.toNat_natCast, run_sizeOf hi.info]
                  by_cases h0 : c * i.size = 0
                  · simp [h0, newRow]
                  · simp [h0, newRow, run_zeroValue hi.info hi.zero]

theorem makeSlice_sound (hC : C.Ok P) (h : Rel B w0 μ m w) {t : TypeId} {a b : Operand} {ρ : Operand → Value} {a' b' : Value} (ha : VRel μ (ρ a) a') (hb' : VRel μ (ρ b) b') {v : Value} {m' : Mem}
    (hb : prim C ρ (.makeSlice t a b) m = some (v, m')) : OpRes P B w0 μ m (Instr.makeSlice t a' b') w v m' := by
  obtain ⟨esz, e, l, c, out, out', rfl, rfl, _, hor, hlt, hrun⟩ := makeSlice_run hC ha hb' w hb
  refine ⟨_, _, hrun, ?_⟩
  obtain ⟨a1, a2⟩ := h.alloc_cells (vs := out) (cs := out'.toList) (by rw [hor.len, List.take_length]; exact hor) (by rw [hor.len]; exact Nat.le_refl _) esz (st := .sole) (fun g hg => by cases hg) e
  refine ⟨_, ?_, a1, a2⟩
  exact VRel.slice (l := ⟨w.heap.size, 0, esz, _⟩) (Mu.set_same _ _ _) (fun _ => rfl) (fun hc => absurd hlt (Nat.not_lt.2 hc))

end
end Go.Ev
