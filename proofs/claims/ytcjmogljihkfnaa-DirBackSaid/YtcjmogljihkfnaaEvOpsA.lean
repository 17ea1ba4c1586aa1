/- A part of an evaluator of the model and of the proof that what it answers the model does; no condition. -/
import Derived.Test.YtcjmogljihkfnaaEvAppendB
set_option linter.unusedVariables false
set_option linter.unusedSimpArgs false
namespace Go.Ev
set_option linter.unusedSectionVars false
variable [Atoms]
open Go.RowKit (Below)

section
variable {B : Nat} {w0 : World} {μ : Mu} {m : Mem} {w : World} {P : Program} {C : Ctx}

theorem Sim.same (h : Rel B w0 μ m w) {v v' : Value} (hv : VRel μ v v') : Sim B w0 μ m v m v' w := ⟨μ, hv, h, Ext.refl _ _⟩

/-- what the model's operation answers, against what the evaluator's does -/
def OpRes (P : Program) (B : Nat) (w0 : World) (μ : Mu) (m : Mem) (s : Sem Value) (w : World) (v : Value) (m' : Mem) : Prop :=
  ∃ v' w', s.run P w = .ok v' w' ∧ Sim B w0 μ m v m' v' w'

theorem OpRes.pure (h : Rel B w0 μ m w) {v v' : Value} (hv : VRel μ v v') : OpRes P B w0 μ m (Pure.pure v') w v m := ⟨v', w, rfl, .same h hv⟩

theorem tinfo_spec (hC : C.Ok P) {t : TypeId} {ti : TI} (h : tinfo C t = some ti) : ∃ d i, P.underlying t = some d ∧ P.info? t = some i ∧ ti = ⟨isAggD d, i.size⟩ := by
  unfold tinfo at h
  cases hu : C.under t with
  | none => rw [hu] at h; cases h
  | some d =>
    rw [hu] at h
    simp only [Option.bind_some] at h
    cases hi : C.info t with
    | none => rw [hi] at h; cases h
    | some i =>
      rw [hi] at h
      simp only [Option.bind_some, Option.some.injEq] at h
      exact ⟨d, i, hC.under hu, hC.info hi, h.symm⟩

theorem run_isAgg {t : TypeId} {d : TypeDesc} (h : P.underlying t = some d) (w : World) : (isAgg t).run P w = .ok (isAggD d) w := by
  simp only [isAgg, Sem.run_bind, run_underlying h, Result.andThen_ok]
  cases d <;> rfl
theorem run_sizeOf {t : TypeId} {i : TypeInfo} (h : P.info? t = some i) (w : World) : (sizeOf t).run P w = .ok i.size w := by
  simp [sizeOf, typeInfo, h]

theorem load_sound (hC : C.Ok P) (h : Rel B w0 μ m w) {t : TypeId} {a a' v : Value} (ha : VRel μ a a') (hl : aload C t a m = some v) :
    ∃ ad v', a' = .pointer (some ad) ∧ (loadVar t ad).run P w = .ok v' w ∧ VRel μ v v' := by
  unfold aload at hl
  split at hl
  · rename_i o off
    cases ha with
    | ptr ho =>
      rename_i l
      cases ht : tinfo C t with
      | none => rw [ht] at hl; cases hl
      | some ti =>
        rw [ht] at hl
        obtain ⟨d, i, hd, hi, rfl⟩ := tinfo_spec hC ht
        simp only [Option.bind_some] at hl
        cases hc : m.loadN o off (bif isAggD d then i.size else 1) with
        | none => rw [hc] at hl; cases hl
        | some cs =>
          rw [hc] at hl
          simp only [Option.bind_some] at hl
          obtain ⟨cs', hr, hlen, hcell⟩ := h.load ho hc
          refine ⟨⟨l.blk, l.base + off, none⟩, ?_⟩
          unfold loadVar mkVal at *
          cases hagg : isAggD d with
          | true =>
            rw [hagg] at hl hlen hc
            simp only [cond_true, Option.some.injEq] at hl hlen
            subst hl
            refine ⟨.agg ⟨cs'⟩, rfl, ?_, .agg' hr⟩
            have hlen' : cs'.length = i.size := by rw [← hr.len]; exact hlen
            simp only [Sem.run_bind, run_isAgg hd, Result.andThen_ok, hagg, if_true, run_sizeOf hi]
            rw [← hlen', run_loadCells_list w _ cs' (fun j v hv => by rw [addr_add]; exact hcell j v hv)]
            rfl
          | false =>
            rw [hagg] at hl hlen hc
            simp only [cond_false] at hl hlen
            cases cs with
            | nil => cases hl
            | cons x r =>
              simp only [List.head?_cons, Option.some.injEq] at hl
              subst hl
              obtain ⟨x', r', rfl, hx, _⟩ := hr.cons_left
              refine ⟨x', rfl, ?_, hx⟩
              have := hcell 0 x' rfl
              simp only [Nat.add_zero] at this
              simp [run_isAgg hd, hagg, this]
  · cases hl

theorem loadAt_sound (hC : C.Ok P) (h : Rel B w0 μ m w) {t : TypeId} {a a' v : Value} (ha : VRel μ a a') (hl : aload C t a m = some v) :
    OpRes P B w0 μ m (Instr.loadAt t a') w v m := by
  obtain ⟨ad, v', rfl, hr, hv⟩ := load_sound hC h ha hl
  exact ⟨v', w, by simp [Instr.loadAt, Instr.sureAddr, hr], .same h hv⟩

theorem storeAt_sound (hC : C.Ok P) (h : Rel B w0 μ m w) {t : TypeId} {a a' x x' : Value} {m' : Mem} (ha : VRel μ a a') (hx : VRel μ x x') (hs : astore C t a x m = some m') :
    ∃ w', (Instr.storeAt t a' x').run P w = .ok () w' ∧ Rel B w0 μ m' w' ∧ Ext μ m μ m' := by
  unfold astore at hs
  split at hs
  · rename_i o off
    cases ha with
    | ptr ho =>
      rename_i l
      cases hi : C.info t with
      | none => rw [hi] at hs; cases hs
      | some i =>
        rw [hi] at hs
        simp only [Option.bind_some] at hs
        cases hb : Nat.beq (Val.cells x).length i.size with
        | false => rw [hb] at hs; cases hs
        | true =>
          rw [hb] at hs
          simp only [cond_true] at hs
          obtain ⟨w', r1, r2, r3⟩ := h.store (P := P) ho hs hx.cells
          have hsz := Nat.eq_of_beq_eq_true hb
          have hl := hx.cells.len
          refine ⟨w', ?_, r2, r3⟩
          have hz : x'.cells.size = i.size := by rw [← hsz, hl]; simp
          simp [Instr.storeAt, Instr.sureAddr, storeVar, run_sizeOf (hC.info hi), hz, r1]
  · cases hs

theorem anew_sound (h : Rel B w0 μ m w) {t : TypeId} {x x' v : Value} {m' : Mem} (hx : VRel μ x x') (hn : anew C t (Val.cells x) m = some (v, m')) :
    ∃ a w', (newVar t x').run P w = .ok a w' ∧ Sim B w0 μ m v m' (.pointer (some a)) w' := by
  unfold anew at hn
  cases hi : C.info t with
  | none => rw [hi] at hn; cases hn
  | some i =>
    rw [hi] at hn
    simp only [Option.bind_some, Option.some.injEq, Prod.mk.injEq] at hn
    obtain ⟨rfl, rfl⟩ := hn
    refine ⟨⟨w.heap.size, 0, none⟩, w.alloc (.cells x'.cells t), ?_, h.alloc_var hx i.size t⟩
    simp [newVar, newRow]

theorem box_sound (h : Rel B w0 μ m w) {t : TypeId} {x x' v : Value} {m' : Mem} (hx : VRel μ x x') (hn : anew C t (Val.cells x) m = some (v, m')) :
    OpRes P B w0 μ m (Instr.box t x') w v m' := by
  obtain ⟨a, w', hr, hs⟩ := anew_sound (P := P) h hx hn
  exact ⟨_, w', by simp [Instr.box, hr], hs⟩

theorem run_zeroValue {t : TypeId} {i : TypeInfo} {z : Value} (hi : P.info? t = some i) (hz : i.zero = some z) (w : World) : (zeroValue t).run P w = .ok z w := by
  simp [zeroValue, typeInfo, hi, hz]

theorem alloc_sound (hC : C.Ok P) (h : Rel B w0 μ m w) {t : TypeId} {i : TypeInfo} {z v : Value} {m' : Mem} (hi : C.info t = some i) (hz : i.zero = some z) (hn : anew C t (Val.cells z) m = some (v, m')) :
    OpRes P B w0 μ m (Instr.alloc t true (.tuple #[])) w v m' := by
  obtain ⟨a, w', hr, hs⟩ := anew_sound (P := P) h (hC.zeroRel hi hz μ) hn
  refine ⟨_, w', ?_, hs⟩
  simp [Instr.alloc, run_zeroValue (hC.info hi) hz, hr]

/-- fill: the parts of a struct, an array or a row -/
theorem fill_sound {fs : List (Nat × Nat × Nat)} {place : Nat → Option (Nat × Nat)} (hp : ∀ i f, fs.find? (fun f => Nat.beq f.1 i) = some f → place i = some (f.2.1, f.2.2)) :
    ∀ {parts parts' : List (Nat × Value)} {cells out : List Value} {cells' : Array Value}, parts.length = parts'.length →
      (∀ (i : Nat) (a b : Nat × Value), parts[i]? = some a → parts'[i]? = some b → a.1 = b.1 ∧ VRel μ a.2 b.2) →
      LRel μ cells cells'.toList → buildCells fs cells parts = some out → ∃ out', Instr.fill place cells' parts' = some out' ∧ LRel μ out out'.toList
  | [], parts', cells, out, cells', hl, _, hc, hb => by
    cases parts' with
    | nil => simp only [buildCells, Option.some.injEq] at hb; subst hb; exact ⟨cells', rfl, hc⟩
    | cons => simp at hl
  | (i, v) :: r, parts', cells, out, cells', hl, hr, hc, hb => by
    cases parts' with
    | nil => simp at hl
    | cons q r' =>
      obtain ⟨j, v'⟩ := q
      obtain ⟨hij, hv⟩ := hr 0 _ _ rfl rfl
      simp only at hij hv
      subst hij
      simp only [buildCells] at hb
      cases hf : fs.find? (fun f => Nat.beq f.1 i) with
      | none => rw [hf] at hb; cases hb
      | some f =>
        rw [hf] at hb
        obtain ⟨a, off, size⟩ := f
        have hpl := hp i _ hf
        simp only at hb hpl
        cases hz : (Nat.beq (Val.cells v).length size && Nat.ble (off + size) cells.length) with
        | false => rw [hz] at hb; cases hb
        | true =>
          rw [hz] at hb
          rw [Bool.and_eq_true] at hz
          have h1 := Nat.eq_of_beq_eq_true hz.1
          have h2 := Nat.le_of_ble_eq_true hz.2
          simp only [cond_true] at hb
          have hvc := hv.cells
          have hsz : v'.cells.size = size := by rw [← h1, hvc.len]; simp
          have hcl := hc.len
          have hle : off + v'.cells.size ≤ cells'.size := by rw [hsz]; simpa [hcl] using h2
          have key : ∀ (l : List Value) (n : Nat) (arr : Array Value) (k : Nat), k + n + l.length ≤ arr.size →
              ((l.zipIdx n).foldl (fun (cs : Array Value) (x : Value × Nat) => cs.setIfInBounds (k + x.2) x.1) arr).toList = splice arr.toList (k + n) l := by
            intro l
            induction l with
            | nil => intro n arr k _; simp [splice]
            | cons x l ih =>
              intro n arr k hle
              simp only [List.length_cons] at hle
              simp only [List.zipIdx_cons, List.foldl_cons]
              rw [ih (n + 1) _ k (by simp; omega)]
              apply List.ext_getElem?
              intro p
              rw [splice_get _ _ _ _ (by simp; omega), splice_get _ _ _ _ (by simp; omega)]
              simp only [List.length_cons]
              by_cases hq : k + n ≤ p ∧ p < k + n + (l.length + 1)
              · rw [if_pos hq]
                by_cases hp1 : p = k + n
                · subst hp1
                  rw [if_neg (by omega)]
                  simp [show k + n < arr.size from by omega]
                · rw [if_pos (by omega)]
                  rw [show p - (k + n) = (p - (k + (n + 1))) + 1 from by omega]
                  simp
              · rw [if_neg hq, if_neg (by omega)]
                simp only [Array.toList_setIfInBounds]
                rw [List.getElem?_set_ne (by omega)]
          have hfold : (v'.cells.zipIdx.foldl (fun (cs : Array Value) (x : Value × Nat) => cs.setIfInBounds (off + x.2) x.1) cells').toList = splice cells'.toList off v'.cells.toList := by
            rw [← Array.foldl_toList, Array.toList_zipIdx]
            exact key _ 0 _ _ (by simpa using hle)
          obtain ⟨out', ho, hor⟩ := fill_sound (fs := fs) (place := place) hp (parts := r) (parts' := r') (cells := splice cells off (Val.cells v))
            (cells' := v'.cells.zipIdx.foldl (fun (cs : Array Value) (x : Value × Nat) => cs.setIfInBounds (off + x.2) x.1) cells')
            (by simpa using hl) (fun k a b ha hb => hr (k + 1) a b (by simpa using ha) (by simpa using hb)) (by rw [hfold]; exact hc.splice hvc off) hb
          refine ⟨out', ?_, hor⟩
          have hcond : ¬ ((decide (v'.cells.size ≠ size) || decide (off + v'.cells.size > cells'.size)) = true) := by simp; omega
          simp only [Instr.fill, hpl]
          rw [if_neg hcond]
          exact ho

end
end Go.Ev
