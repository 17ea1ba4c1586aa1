/- A part of an evaluator of the model and of the proof that what it answers the model does; no condition. -/
import Derived.Test.YtcjmogljihkfnaaEvA
import Derived.Lib.ConvBytes
import Derived.Laws.BytesArg
import Derived.Laws.StructEq
import Derived.Laws.Strings2
set_option linter.unusedVariables false
set_option linter.unusedSimpArgs false
namespace Go.Ev
set_option linter.unusedSectionVars false
variable [Atoms]
open Go.RowKit (Below)

section
variable {B : Nat → Prop} {w0 : World} {μ : Mu} {m : Mem} {w : World} {P : Program} {C : Ctx}

theorem Sim.same (h : Rel B w0 μ m w) {v v' : Value} (hv : VRel μ v v') : Sim B w0 μ m v m v' w := ⟨μ, hv, h, Ext.refl _ _⟩

/-- what the model's operation answers, against what the evaluator's does -/
def OpRes (P : Program) (B : Nat → Prop) (w0 : World) (μ : Mu) (m : Mem) (s : Sem Value) (w : World) (v : Value) (m' : Mem) : Prop :=
  ∃ v' w', s.run P w = .ok v' w' ∧ Sim B w0 μ m v m' v' w'

theorem OpRes.pure (h : Rel B w0 μ m w) {v v' : Value} (hv : VRel μ v v') : OpRes P B w0 μ m (Pure.pure v') w v m := ⟨v', w, rfl, .same h hv⟩

theorem tinfo_spec (hC : C.Ok P) {t : TypeId} {ti : TI} (h : tinfo C t = some ti) : ∃ d i, P.underlying t = some d ∧ P.info? t = some i ∧ ti = ⟨isAggD d, i.size⟩ := by
  unfold tinfo at h
  cases hu : C.under t with
  | none => rw [hu] at h; cases h
  | some d =>
    rw [hu] at h
    simp only [Option.bind_some] at h
    cases hi : C.info t with
    | none => rw [hi] at h; cases h
    | some i =>
      rw [hi] at h
      simp only [Option.bind_some, Option.some.injEq] at h
      exact ⟨d, i, hC.under hu, hC.info hi, h.symm⟩

theorem run_isAgg {t : TypeId} {d : TypeDesc} (h : P.underlying t = some d) (w : World) : (isAgg t).run P w = .ok (isAggD d) w := by
  simp only [isAgg, Sem.run_bind, run_underlying h, Result.andThen_ok]
  cases d <;> rfl
theorem run_sizeOf {t : TypeId} {i : TypeInfo} (h : P.info? t = some i) (w : World) : (sizeOf t).run P w = .ok i.size w := by
  simp [sizeOf, typeInfo, h]

theorem load_sound (hC : C.Ok P) (h : Rel B w0 μ m w) {t : TypeId} {a a' v : Value} (ha : VRel μ a a') (hl : aload C t a m = some v) :
    ∃ ad v', a' = .pointer (some ad) ∧ (loadVar t ad).run P w = .ok v' w ∧ VRel μ v v' := by
  unfold aload at hl
  split at hl
  · rename_i o off
    cases ha with
    | ptr ho =>
      rename_i l
      cases ht : tinfo C t with
      | none => rw [ht] at hl; cases hl
      | some ti =>
        rw [ht] at hl
        obtain ⟨d, i, hd, hi, rfl⟩ := tinfo_spec hC ht
        simp only [Option.bind_some] at hl
        cases hc : m.loadN o off (bif isAggD d then i.size else 1) with
        | none => rw [hc] at hl; cases hl
        | some cs =>
          rw [hc] at hl
          simp only [Option.bind_some] at hl
          obtain ⟨cs', hr, hlen, hcell⟩ := h.load ho hc
          refine ⟨⟨l.blk, l.base + off, none⟩, ?_⟩
          unfold loadVar mkVal at *
          cases hagg : isAggD d with
          | true =>
            rw [hagg] at hl hlen hc
            simp only [cond_true, Option.some.injEq] at hl hlen
            subst hl
            refine ⟨.agg ⟨cs'⟩, rfl, ?_, .agg' hr⟩
            have hlen' : cs'.length = i.size := by rw [← hr.len]; exact hlen
            simp only [Sem.run_bind, run_isAgg hd, Result.andThen_ok, hagg, if_true, run_sizeOf hi]
            rw [← hlen', run_loadCells_list w _ cs' (fun j v hv => by rw [addr_add]; exact hcell j v hv)]
            rfl
          | false =>
            rw [hagg] at hl hlen hc
            simp only [cond_false] at hl hlen
            cases cs with
            | nil => cases hl
            | cons x r =>
              simp only [List.head?_cons, Option.some.injEq] at hl
              subst hl
              obtain ⟨x', r', rfl, hx, _⟩ := hr.cons_left
              refine ⟨x', rfl, ?_, hx⟩
              have := hcell 0 x' rfl
              simp only [Nat.add_zero] at this
              simp [run_isAgg hd, hagg, this]
  · cases hl

theorem loadAt_sound (hC : C.Ok P) (h : Rel B w0 μ m w) {t : TypeId} {a a' v : Value} (ha : VRel μ a a') (hl : aload C t a m = some v) :
    OpRes P B w0 μ m (Instr.loadAt t a') w v m := by
  obtain ⟨ad, v', rfl, hr, hv⟩ := load_sound hC h ha hl
  exact ⟨v', w, by simp [Instr.loadAt, Instr.sureAddr, hr], .same h hv⟩

theorem storeAt_sound (hC : C.Ok P) (h : Rel B w0 μ m w) {t : TypeId} {a a' x x' : Value} {m' : Mem} (ha : VRel μ a a') (hx : VRel μ x x') (hs : astore C t a x m = some m') :
    ∃ w', (Instr.storeAt t a' x').run P w = .ok () w' ∧ Rel B w0 μ m' w' ∧ Ext μ m μ m' := by
  unfold astore at hs
  split at hs
  · rename_i o off
    cases ha with
    | ptr ho =>
      rename_i l
      cases hi : C.info t with
      | none => rw [hi] at hs; cases hs
      | some i =>
        rw [hi] at hs
        simp only [Option.bind_some] at hs
        cases hb : (!isJ x && Nat.beq (Val.cells x).length i.size) with
        | false => rw [hb] at hs; cases hs
        | true =>
          rw [hb] at hs
          rw [Bool.and_eq_true, Bool.not_eq_true'] at hb
          simp only [cond_true] at hs
          obtain ⟨w', r1, r2, r3⟩ := h.store (P := P) ho hs (hx.cells hb.1)
          have hsz := Nat.eq_of_beq_eq_true hb.2
          have hl := (hx.cells hb.1).len
          refine ⟨w', ?_, r2, r3⟩
          have hz : x'.cells.size = i.size := by rw [← hsz, hl]; simp
          simp [Instr.storeAt, Instr.sureAddr, storeVar, run_sizeOf (hC.info hi), hz, r1]
  · cases hs

theorem anew_sound (h : Rel B w0 μ m w) {t : TypeId} {x x' v : Value} {m' : Mem} (hx : VRel μ x x') (hj : isJ x = false) (hn : anew C t (Val.cells x) m = some (v, m')) :
    ∃ a w', (newVar t x').run P w = .ok a w' ∧ Sim B w0 μ m v m' (.pointer (some a)) w' := by
  unfold anew at hn
  cases hi : C.info t with
  | none => rw [hi] at hn; cases hn
  | some i =>
    rw [hi] at hn
    simp only [Option.bind_some, Option.some.injEq, Prod.mk.injEq] at hn
    obtain ⟨rfl, rfl⟩ := hn
    refine ⟨⟨w.heap.size, 0, none⟩, w.alloc (.cells x'.cells t), ?_, h.alloc_var hx hj i.size t⟩
    simp [newVar, newRow]

theorem box_sound (h : Rel B w0 μ m w) {t : TypeId} {x x' v : Value} {m' : Mem} (hx : VRel μ x x') (hj : isJ x = false) (hn : anew C t (Val.cells x) m = some (v, m')) :
    OpRes P B w0 μ m (Instr.box t x') w v m' := by
  obtain ⟨a, w', hr, hs⟩ := anew_sound (P := P) h hx hj hn
  exact ⟨_, w', by simp [Instr.box, hr], hs⟩

theorem run_zeroValue {t : TypeId} {i : TypeInfo} {z : Value} (hi : P.info? t = some i) (hz : i.zero = some z) (w : World) : (zeroValue t).run P w = .ok z w := by
  simp [zeroValue, typeInfo, hi, hz]

theorem alloc_sound (hC : C.Ok P) (h : Rel B w0 μ m w) {t : TypeId} {i : TypeInfo} {z v : Value} {m' : Mem} (hi : C.info t = some i) (hz : i.zero = some z) (hn : anew C t (Val.cells z) m = some (v, m')) :
    OpRes P B w0 μ m (Instr.alloc t true (.tuple #[])) w v m' := by
  obtain ⟨a, w', hr, hs⟩ := anew_sound (P := P) h (hC.zeroRel hi hz μ) (hC.zeroNoJ hi hz) hn
  refine ⟨_, w', ?_, hs⟩
  simp [Instr.alloc, run_zeroValue (hC.info hi) hz, hr]

/-- fill: the parts of a struct, an array or a row -/
theorem fill_sound {fs : List (Nat × Nat × Nat)} {place : Nat → Option (Nat × Nat)} (hp : ∀ i f, fs.find? (fun f => Nat.beq f.1 i) = some f → place i = some (f.2.1, f.2.2)) :
    ∀ {parts parts' : List (Nat × Value)} {cells out : List Value} {cells' : Array Value}, parts.length = parts'.length →
      (∀ (i : Nat) (a b : Nat × Value), parts[i]? = some a → parts'[i]? = some b → a.1 = b.1 ∧ VRel μ a.2 b.2) →
      LRel μ cells cells'.toList → buildCells fs cells parts = some out → ∃ out', Instr.fill place cells' parts' = some out' ∧ LRel μ out out'.toList
  | [], parts', cells, out, cells', hl, _, hc, hb => by
    cases parts' with
    | nil => simp only [buildCells, Option.some.injEq] at hb; subst hb; exact ⟨cells', rfl, hc⟩
    | cons => simp at hl
  | (i, v) :: r, parts', cells, out, cells', hl, hr, hc, hb => by
    cases parts' with
    | nil => simp at hl
    | cons q r' =>
      obtain ⟨j, v'⟩ := q
      obtain ⟨hij, hv⟩ := hr 0 _ _ rfl rfl
      simp only at hij hv
      subst hij
      simp only [buildCells] at hb
      cases hf : fs.find? (fun f => Nat.beq f.1 i) with
      | none => rw [hf] at hb; cases hb
      | some f =>
        rw [hf] at hb
        obtain ⟨a, off, size⟩ := f
        have hpl := hp i _ hf
        simp only at hb hpl
        cases hz : (!isJ v && Nat.beq (Val.cells v).length size && Nat.ble (off + size) cells.length) with
        | false => rw [hz] at hb; cases hb
        | true =>
          rw [hz] at hb
          rw [Bool.and_eq_true, Bool.and_eq_true, Bool.not_eq_true'] at hz
          have h1 := Nat.eq_of_beq_eq_true hz.1.2
          have h2 := Nat.le_of_ble_eq_true hz.2
          simp only [cond_true] at hb
          have hvc := hv.cells hz.1.1
          have hsz : v'.cells.size = size := by rw [← h1, hvc.len]; simp
          have hcl := hc.len
          have hle : off + v'.cells.size ≤ cells'.size := by rw [hsz]; simpa [hcl] using h2
          have key : ∀ (l : List Value) (n : Nat) (arr : Array Value) (k : Nat), k + n + l.length ≤ arr.size →
              ((l.zipIdx n).foldl (fun (cs : Array Value) (x : Value × Nat) => cs.setIfInBounds (k + x.2) x.1) arr).toList = splice arr.toList (k + n) l := by
            intro l
            induction l with
            | nil => intro n arr k _; simp [splice]
            | cons x l ih =>
              intro n arr k hle
              simp only [List.length_cons] at hle
              simp only [List.zipIdx_cons, List.foldl_cons]
              rw [ih (n + 1) _ k (by simp; omega)]
              apply List.ext_getElem?
              intro p
              rw [splice_get _ _ _ _ (by simp; omega), splice_get _ _ _ _ (by simp; omega)]
              simp only [List.length_cons]
              by_cases hq : k + n ≤ p ∧ p < k + n + (l.length + 1)
              · rw [if_pos hq]
                by_cases hp1 : p = k + n
                · subst hp1
                  rw [if_neg (by omega)]
                  simp [show k + n < arr.size from by omega]
                · rw [if_pos (by omega)]
                  rw [show p - (k + n) = (p - (k + (n + 1))) + 1 from by omega]
                  simp
              · rw [if_neg hq, if_neg (by omega)]
                simp only [Array.toList_setIfInBounds]
                rw [List.getElem?_set_ne (by omega)]
          have hfold : (v'.cells.zipIdx.foldl (fun (cs : Array Value) (x : Value × Nat) => cs.setIfInBounds (off + x.2) x.1) cells').toList = splice cells'.toList off v'.cells.toList := by
            rw [← Array.foldl_toList, Array.toList_zipIdx]
            exact key _ 0 _ _ (by simpa using hle)
          obtain ⟨out', ho, hor⟩ := fill_sound (fs := fs) (place := place) hp (parts := r) (parts' := r') (cells := splice cells off (Val.cells v))
            (cells' := v'.cells.zipIdx.foldl (fun (cs : Array Value) (x : Value × Nat) => cs.setIfInBounds (off + x.2) x.1) cells')
            (by simpa using hl) (fun k a b ha hb => hr (k + 1) a b (by simpa using ha) (by simpa using hb)) (by rw [hfold]; exact hc.splice hvc off) hb
          refine ⟨out', ?_, hor⟩
          have hcond : ¬ ((decide (v'.cells.size ≠ size) || decide (off + v'.cells.size > cells'.size)) = true) := by simp; omega
          simp only [Instr.fill, hpl]
          rw [if_neg hcond]
          exact ho

end
end Go.Ev

namespace Go.Ev
set_option linter.unusedSectionVars false
variable [Atoms]
open Go.RowKit (Below)

section
variable {B : Nat → Prop} {w0 : World} {μ : Mu} {m : Mem} {w : World} {P : Program} {C : Ctx}

theorem pure1_some {o : Option Value} {v : Value} {m m' : Mem} (h : pure1 o m = some (v, m')) : o = some v ∧ m' = m := by
  unfold pure1 at h
  cases o with
  | none => cases h
  | some u => simp only [Option.bind_some, Option.some.injEq, Prod.mk.injEq] at h; exact ⟨by rw [h.1], h.2.symm⟩
theorem unit1_some {o : Option Mem} {v : Value} {m' : Mem} (h : unit1 o = some (v, m')) : o = some m' ∧ v = .tuple ⟨[]⟩ := by
  unfold unit1 at h
  cases o with
  | none => cases h
  | some u => simp only [Option.bind_some, Option.some.injEq, Prod.mk.injEq] at h; exact ⟨by rw [h.2], h.1.symm⟩

theorem fieldSizes_spec (hC : C.Ok P) : ∀ (fs : List Field) (n : Nat) (l : List (Nat × Nat × Nat)), fieldSizes C n fs = some l →
    l.length = fs.length ∧ ∀ (i : Nat) (f : Field), fs[i]? = some f → ∃ k, l[i]? = some (n + i, f.offset, k) ∧ ∃ inf, P.info? f.type = some inf ∧ inf.size = k
  | [], n, l, h => by simp only [fieldSizes, Option.some.injEq] at h; subst h; exact ⟨rfl, fun i f hf => by simp at hf⟩
  | f :: r, n, l, h => by
    simp only [fieldSizes] at h
    cases hs : C.size f.type with
    | none => rw [hs] at h; cases h
    | some k =>
      rw [hs] at h
      simp only [Option.bind_some] at h
      cases hr : fieldSizes C (n + 1) r with
      | none => rw [hr] at h; cases h
      | some l' =>
        rw [hr] at h
        simp only [Option.bind_some, Option.some.injEq] at h
        subst h
        obtain ⟨h1, h2⟩ := fieldSizes_spec hC r (n + 1) l' hr
        refine ⟨by simp [h1], fun i g hg => ?_⟩
        cases i with
        | zero =>
          simp only [List.getElem?_cons_zero, Option.some.injEq] at hg
          subst hg
          exact ⟨k, by simp, hC.size hs⟩
        | succ i =>
          simp only [List.getElem?_cons_succ] at hg
          obtain ⟨k', h3, h4⟩ := h2 i g hg
          exact ⟨k', by simp only [List.getElem?_cons_succ]; rw [h3]; congr 2; omega, h4⟩

theorem find_numbered : ∀ (l : List (Nat × Nat × Nat)) (n : Nat), (∀ (i : Nat) (x : Nat × Nat × Nat), l[i]? = some x → x.1 = n + i) → ∀ (j : Nat) (f : Nat × Nat × Nat),
    l.find? (fun f => Nat.beq f.1 j) = some f → f.1 = j ∧ l[j - n]? = some f ∧ n ≤ j
  | [], _, _, _, _, h => by cases h
  | x :: r, n, hn, j, f, h => by
    simp only [List.find?_cons] at h
    cases hb : Nat.beq x.1 j with
    | true =>
      rw [hb] at h
      simp only [Option.some.injEq] at h
      subst h
      have h1 := Nat.eq_of_beq_eq_true hb
      have h2 := hn 0 x rfl
      simp only [Nat.add_zero] at h2
      exact ⟨h1, by rw [show j - n = 0 from by omega]; rfl, by omega⟩
    | false =>
      rw [hb] at h
      obtain ⟨h1, h2, h3⟩ := find_numbered r (n + 1) (fun i y hy => by have := hn (i + 1) y (by simpa using hy); omega) j f h
      exact ⟨h1, by rw [show j - n = (j - (n + 1)) + 1 from by omega]; simpa using h2, by omega⟩

theorem mapM_places (P : Program) (w : World) : ∀ (fs : List Field), (∀ f ∈ fs, ∃ i, P.info? f.type = some i) →
    (fs.mapM fun (f : Field) => (do pure (f.offset, ← sizeOf f.type) : Sem (Nat × Nat))).run P w = .ok (fs.map fun f => (f.offset, P.cellsOf f.type)) w
  | [], _ => by simp
  | f :: r, h => by
    obtain ⟨i, hi⟩ := h f (by simp)
    have ih := mapM_places P w r (fun g hg => h g (by simp [hg]))
    simp only [List.mapM_cons, Sem.run_bind, run_sizeOf hi, Result.andThen_ok, Sem.run_pure, List.map_cons]
    rw [ih]
    simp [Program.cellsOf, hi]

theorem rowSizes_get (sz n i : Nat) : (rowSizes sz n)[i]? = if i < n then some (i, i * sz, sz) else none := by
  unfold rowSizes
  rw [List.getElem?_map]
  by_cases h : i < n
  · rw [List.getElem?_range h, if_pos h]; rfl
  · rw [List.getElem?_eq_none (by simp; omega), if_neg h]; rfl

theorem rel_parts {ps : Array (Nat × Operand)} {ρ ρ' : Operand → Value} (hρ : ∀ x ∈ ps.toList.map (·.2), VRel μ (ρ x) (ρ' x)) :
    (ps.toList.map fun (i, x) => (i, ρ x)).length = (ps.toList.map fun (i, x) => (i, ρ' x)).length ∧
    ∀ (i : Nat) (a b : Nat × Value), (ps.toList.map fun (i, x) => (i, ρ x))[i]? = some a → (ps.toList.map fun (i, x) => (i, ρ' x))[i]? = some b → a.1 = b.1 ∧ VRel μ a.2 b.2 := by
  refine ⟨by simp, fun i a b ha hb => ?_⟩
  rw [List.getElem?_map] at ha hb
  cases hp : ps.toList[i]? with
  | none => rw [hp] at ha; cases ha
  | some p =>
    rw [hp] at ha hb
    simp only [Option.map_some, Option.some.injEq] at ha hb
    subst ha; subst hb
    exact ⟨rfl, hρ _ (List.mem_map.2 ⟨p, List.mem_of_getElem? hp, rfl⟩)⟩

theorem build_sound (hC : C.Ok P) (h : Rel B w0 μ m w) {t : TypeId} {ps : Array (Nat × Operand)} {ρ ρ' : Operand → Value} (hρ : ∀ x ∈ ps.toList.map (·.2), VRel μ (ρ x) (ρ' x)) {v : Value}
    (hb : buildV C t (ps.toList.map fun (i, x) => (i, ρ x)) = some v) : OpRes P B w0 μ m (Instr.build t (ps.map fun (i, x) => (i, ρ' x))) w v m := by
  unfold buildV at hb
  cases hi : C.info t with
  | none => rw [hi] at hb; cases hb
  | some i =>
    rw [hi] at hb
    simp only [Option.bind_some] at hb
    cases hz : i.zero with
    | none => rw [hz] at hb; cases hb
    | some z =>
      rw [hz] at hb
      simp only [Option.bind_some] at hb
      obtain ⟨hl, hr⟩ := rel_parts (μ := μ) (ps := ps) hρ
      have hzr := (hC.zeroRel hi hz μ).cells (hC.zeroNoJ hi hz)
      have hzc : (zeroValue t).run P w = .ok z w := run_zeroValue (hC.info hi) hz w
      have hto : (ps.map fun (i, x) => (i, ρ' x)).toList = ps.toList.map fun (i, x) => (i, ρ' x) := by simp
      split at hb
      · rename_i fields hu
        have hu' := hC.under hu
        cases hfs : fieldSizes C 0 fields.toList with
        | none => rw [hfs] at hb; cases hb
        | some fs =>
          rw [hfs] at hb
          simp only [Option.bind_some] at hb
          cases hbc : buildCells fs (Val.cells z) (ps.toList.map fun (i, x) => (i, ρ x)) with
          | none => rw [hbc] at hb; cases hb
          | some out =>
            rw [hbc] at hb
            simp only [Option.bind_some, Option.some.injEq] at hb
            subst hb
            obtain ⟨hlen, hspec⟩ := fieldSizes_spec hC fields.toList 0 fs hfs
            have hplaces : (fields.mapM fun (f : Field) => (do pure (f.offset, ← sizeOf f.type) : Sem (Nat × Nat))).run P w = .ok (fields.map fun f => (f.offset, P.cellsOf f.type)) w := by
              rw [← Array.toArray_toList (xs := fields), List.mapM_toArray]
              have := mapM_places P w fields.toList (fun f hf => by
                obtain ⟨k, hk⟩ := List.getElem?_of_mem hf
                obtain ⟨_, _, inf, h1, _⟩ := hspec k f hk
                exact ⟨inf, h1⟩)
              simp only [Sem.run_map, this, Result.andThen_ok]
              refine congrArg (fun x => Result.ok x w) ?_
              apply Array.ext'
              simp
            obtain ⟨out', ho, hor⟩ := fill_sound (μ := μ) (fs := fs) (place := ((fields.map fun f => (f.offset, P.cellsOf f.type))[·]?)) (by
              intro j f hf
              obtain ⟨h1, h2, h3⟩ := find_numbered fs 0 (fun k x hx => by
                have hk : k < fields.toList.length := by rw [← hlen]; exact (List.getElem?_eq_some_iff.1 hx).1
                obtain ⟨q, h4, _⟩ := hspec k _ (List.getElem?_eq_getElem hk)
                rw [hx] at h4
                simp only [Option.some.injEq] at h4
                rw [h4]) j f hf
              simp only [Nat.sub_zero] at h2
              have hk : j < fields.toList.length := by rw [← hlen]; exact (List.getElem?_eq_some_iff.1 h2).1
              obtain ⟨q, h4, inf, h5, h6⟩ := hspec j _ (List.getElem?_eq_getElem hk)
              rw [h2] at h4
              simp only [Option.some.injEq] at h4
              rw [h4]
              simp only [Array.getElem?_map]
              have hk' : j < fields.size := by simpa using hk
              have h5' : P.info? fields[j].type = some inf := by simpa using h5
              rw [Array.getElem?_eq_getElem hk']
              simp [Program.cellsOf, h5', h6]) hl hr hzr hbc
            refine ⟨.agg out', w, ?_, .same h (.agg' (bs := out'.toList) hor)⟩
            simp only [Instr.build, Sem.run_bind, hzc, Result.andThen_ok, run_underlying hu', hplaces, hto]
            simp only [ho]
            rfl
      · rename_i len e hu
        have hu' := hC.under hu
        cases hs : C.size e with
        | none => rw [hs] at hb; cases hb
        | some sz =>
          rw [hs] at hb
          simp only [Option.bind_some] at hb
          cases hbc : buildCells (rowSizes sz len) (Val.cells z) (ps.toList.map fun (i, x) => (i, ρ x)) with
          | none => rw [hbc] at hb; cases hb
          | some out =>
            rw [hbc] at hb
            simp only [Option.bind_some, Option.some.injEq] at hb
            subst hb
            obtain ⟨inf, h1, h2⟩ := hC.size hs
            obtain ⟨out', ho, hor⟩ := fill_sound (μ := μ) (fs := rowSizes sz len) (place := fun i => some (i * sz, sz)) (by
              intro j f hf
              obtain ⟨h3, h4, _⟩ := find_numbered (rowSizes sz len) 0 (fun k x hx => by
                rw [rowSizes_get] at hx
                split at hx
                · cases hx; simp
                · cases hx) j f hf
              simp only [Nat.sub_zero] at h4
              rw [rowSizes_get] at h4
              split at h4
              · cases h4; rfl
              · cases h4) hl hr hzr hbc
            refine ⟨.agg out', w, ?_, .same h (.agg' (bs := out'.toList) hor)⟩
            simp only [Instr.build, Sem.run_bind, hzc, Result.andThen_ok, run_underlying hu', run_sizeOf h1, h2, hto]
            simp only [ho]
            rfl
      · cases hb

end
end Go.Ev

namespace Go.Ev
set_option linter.unusedSectionVars false
variable [Atoms]
open Go.RowKit (Below)

section
variable {B : Nat → Prop} {w0 : World} {μ : Mu} {m : Mem} {w : World} {P : Program} {C : Ctx}

theorem elemSz_parts (hC : C.Ok P) {t : TypeId} {esz : Nat} {e : TypeId} {i : TypeInfo} {z : Value} (h1 : elemSz C t = some esz) (h2 : sliceElem C t = some e) (h3 : C.info e = some i) (h4 : i.zero = some z) :
    ElemInfo P t esz e i z := by
  obtain ⟨e', i', z', hi⟩ := elemSz_info hC h1
  unfold sliceElem at h2
  split at h2
  · rename_i e2 hu
    cases h2
    have := hC.under hu
    rw [hi.ty] at this
    cases this
    have h5 := hC.info h3
    rw [hi.info] at h5
    cases h5
    have h6 := hi.zero
    rw [h4] at h6
    cases h6
    exact hi
  · cases h2

theorem buildSlice_run (hC : C.Ok P) {t : TypeId} {len : Nat} {ps : Array (Nat × Operand)} {ρ ρ' : Operand → Value} (hρ : ∀ x ∈ ps.toList.map (·.2), VRel μ (ρ x) (ρ' x)) {v : Value} {m' : Mem} (w : World)
    (hb : prim C ρ (.buildSlice t len ps) m = some (v, m')) :
    ∃ esz e out out', v = .slice (some ⟨m.next, 0, none⟩) len len ∧ m' = m.new (.cells out esz .sole) ∧
      (∀ m2, prim C ρ (.buildSlice t len ps) m2 = some (.slice (some ⟨m2.next, 0, none⟩) len len, m2.new (.cells out esz .sole))) ∧ LRel μ out out'.toList ∧ len < UNK ∧
      (Instr.buildSlice t len (ps.map fun (i, x) => (i, ρ' x))).run P w = .ok (.slice (some ⟨w.heap.size, 0, none⟩) len len) (w.alloc (.cells out' e)) := by
  simp only [prim] at hb ⊢
  cases he : elemSz C t with
  | none => rw [he] at hb; cases hb
  | some esz =>
    rw [he] at hb
    simp only [Option.bind_some] at hb
    cases h2 : sliceElem C t with
    | none => rw [h2] at hb; cases hb
    | some e =>
      rw [h2] at hb
      simp only [Option.bind_some] at hb
      cases h3 : C.info e with
      | none => rw [h3] at hb; cases hb
      | some i =>
        rw [h3] at hb
        simp only [Option.bind_some] at hb
        cases h4 : i.zero with
        | none => rw [h4] at hb; cases hb
        | some z =>
          rw [h4] at hb
          simp only [Option.bind_some] at hb
          have hi := elemSz_parts hC he h2 h3 h4
          cases hbig : Nat.ble (len * esz) 16777216 with
          | false => rw [hbig] at hb; cases hb
          | true =>
            rw [hbig] at hb
            simp only [cond_true] at hb
            have hle := Nat.le_of_ble_eq_true hbig
            cases hbc : buildCells (rowSizes esz len) (rep len (Val.cells z)) (ps.toList.map fun (i, x) => (i, ρ x)) with
            | none => rw [hbc] at hb; cases hb
            | some out =>
              rw [hbc] at hb
              simp only [Option.bind_some, Option.some.injEq, Prod.mk.injEq] at hb
              obtain ⟨rfl, rfl⟩ := hb
              obtain ⟨hl, hr⟩ := rel_parts (μ := μ) (ps := ps) hρ
              have hzr := (hC.zeroRel h3 h4 μ).cells (hC.zeroNoJ h3 h4)
              have hpos := hi.pos
              have hsz := hi.size
              subst hsz
              have hzs := hi.zsize
              have hcells : (if len * i.size = 0 then (#[] : Array Value) else z.cells) = z.cells ∨ len = 0 := by
                by_cases hz : len = 0
                · exact .inr hz
                · left; rw [if_neg]; intro h0; rcases Nat.mul_eq_zero.1 h0 with h0 | h0 <;> omega
              have key : ∃ out', Instr.fill (fun k => some (k * i.size, i.size)) ((Array.range (len * i.size)).map ((if len * i.size = 0 then (#[] : Array Value) else z.cells)[· % (if len * i.size = 0 then (#[] : Array Value) else z.cells).size]!)) (ps.toList.map fun (i, x) => (i, ρ' x)) = some out' ∧ LRel μ out out'.toList := by
                refine fill_sound (μ := μ) (fs := rowSizes i.size len) ?_ hl hr ?_ hbc
                · intro j f hf
                  obtain ⟨h3, h4, _⟩ := find_numbered (rowSizes i.size len) 0 (fun k x hx => by
                    rw [rowSizes_get] at hx
                    split at hx
                    · cases hx; simp
                    · cases hx) j f hf
                  simp only [Nat.sub_zero] at h4
                  rw [rowSizes_get] at h4
                  split at h4
                  · cases h4; rfl
                  · cases h4
                · rcases hcells with hc | hc
                  · rw [hc]
                    have := range_map_zero z.cells len (by omega)
                    rw [hzs] at this
                    rw [hzs, this, ← Val.cells_eq]
                    refine ⟨rfl, fun k u v hu hv => ?_⟩
                    rw [hu] at hv; cases hv
                    have hu2 := hu
                    rw [rep_get _ (by rw [Val.cells_eq]; simpa using by omega)] at hu2
                    split at hu2
                    · obtain ⟨u', h5, h6⟩ := hzr.get hu2
                      rw [← Val.cells_eq] at h5
                      rw [hu2] at h5; cases h5
                      exact h6
                    · cases hu2
                  · subst hc
                    simp [rep]
                    exact .nil
              obtain ⟨out', ho, hor⟩ := key
              have hto : (ps.map fun (i, x) => (i, ρ' x)).toList = ps.toList.map fun (i, x) => (i, ρ' x) := by simp
              refine ⟨i.size, e, out, out', rfl, rfl, fun m2 => ?_, hor, ?_, ?_⟩
              · simp only [he, h2, h3, h4, Option.bind_some, hbig, cond_true, hbc]
              · have : len ≤ len * i.size := Nat.le_mul_of_pos_right len (by omega)
                rw [UNK_eq]; omega
              · have hn : ¬ (len * i.size > 2 ^ 24) := by omega
                simp only [Instr.buildSlice, Sem.run_bind, run_underlying hi.ty, Result.andThen_ok, run_sizeOf hi.info, Sem.run_ite, if_neg hn]
                by_cases h0 : len * i.size = 0
                · simp only [h0, if_true] at ho ⊢
                  simp only [Sem.run_pure, Result.andThen_ok, hto]
                  rw [ho]
                  simp [newRow]
                · simp only [h0, if_false] at ho ⊢
                  simp only [Sem.run_bind, run_zeroValue hi.info hi.zero, Sem.run_pure, Result.andThen_ok, hto]
                  rw [ho]
                  simp [newRow]

theorem buildSlice_sound (hC : C.Ok P) (h : Rel B w0 μ m w) {t : TypeId} {len : Nat} {ps : Array (Nat × Operand)} {ρ ρ' : Operand → Value} (hρ : ∀ x ∈ ps.toList.map (·.2), VRel μ (ρ x) (ρ' x)) {v : Value} {m' : Mem}
    (hb : prim C ρ (.buildSlice t len ps) m = some (v, m')) : OpRes P B w0 μ m (Instr.buildSlice t len (ps.map fun (i, x) => (i, ρ' x))) w v m' := by
  obtain ⟨esz, e, out, out', rfl, rfl, _, hor, hlt, hrun⟩ := buildSlice_run (ρ' := ρ') hC hρ w hb
  refine ⟨_, _, hrun, ?_⟩
  obtain ⟨a1, a2⟩ := h.alloc_cells (vs := out) (cs := out'.toList) (by rw [hor.len, List.take_length]; exact hor) (by rw [hor.len]; exact Nat.le_refl _) esz (st := .sole) (fun g hg => by cases hg) e
  refine ⟨_, ?_, a1, a2⟩
  exact VRel.slice (l := ⟨w.heap.size, 0, esz, _⟩) (Mu.set_same _ _ _) (fun _ => rfl) (fun hc => absurd hlt (Nat.not_lt.2 hc))

theorem asN_some {v : Value} {n : Nat} (h : asN v = some n) : ∃ k, v = .int k n := by
  unfold asN at h
  split at h
  · rename_i k x
    cases hd : decide (0 ≤ x) with
    | false => rw [hd] at h; cases h
    | true =>
      rw [hd] at h
      simp only [cond_true, Option.some.injEq] at h
      have := of_decide_eq_true hd
      exact ⟨k, by rw [← h, Int.toNat_of_nonneg this]⟩
  · cases h

set_option maxRecDepth 100000 in
theorem makeSlice_run (hC : C.Ok P) {t : TypeId} {a b : Operand} {ρ : Operand → Value} {a' b' : Value} (ha : VRel μ (ρ a) a') (hb' : VRel μ (ρ b) b') {v : Value} {m' : Mem} (w : World)
    (hb : prim C ρ (.makeSlice t a b) m = some (v, m')) :
    ∃ esz e l c out out', v = .slice (some ⟨m.next, 0, none⟩) l c ∧ m' = m.new (.cells out esz .sole) ∧
      (∀ m2, prim C ρ (.makeSlice t a b) m2 = some (.slice (some ⟨m2.next, 0, none⟩) l c, m2.new (.cells out esz .sole))) ∧ LRel μ out out'.toList ∧ c < UNK ∧
      (Instr.makeSlice t a' b').run P w = .ok (.slice (some ⟨w.heap.size, 0, none⟩) l c) (w.alloc (.cells out' e)) := by
  simp only [prim] at hb ⊢
  cases he : elemSz C t with
  | none => rw [he] at hb; cases hb
  | some esz =>
    rw [he] at hb
    simp only [Option.bind_some] at hb
    cases h2 : sliceElem C t with
    | none => rw [h2] at hb; cases hb
    | some e =>
      rw [h2] at hb
      simp only [Option.bind_some] at hb
      cases h3 : C.info e with
      | none => rw [h3] at hb; cases hb
      | some i =>
        rw [h3] at hb
        simp only [Option.bind_some] at hb
        cases h4 : i.zero with
        | none => rw [h4] at hb; cases hb
        | some z =>
          rw [h4] at hb
          simp only [Option.bind_some] at hb
          have hi := elemSz_parts hC he h2 h3 h4
          cases hl : asN (ρ a) with
          | none => rw [hl] at hb; cases hb
          | some l =>
            rw [hl] at hb
            simp only [Option.bind_some] at hb
            cases hc : asN (ρ b) with
            | none => rw [hc] at hb; cases hb
            | some c =>
              rw [hc] at hb
              simp only [Option.bind_some] at hb
              cases hz : (Nat.ble l c && Nat.ble c BIG) with
              | false => rw [hz] at hb; cases hb
              | true =>
                rw [hz] at hb
                rw [Bool.and_eq_true] at hz
                have hlc := Nat.le_of_ble_eq_true hz.1
                have hcb := Nat.le_of_ble_eq_true hz.2
                rw [BIG_eq] at hcb
                simp only [cond_true, Option.some.injEq, Prod.mk.injEq] at hb
                obtain ⟨rfl, rfl⟩ := hb
                obtain ⟨k1, e1⟩ := asN_some hl
                obtain ⟨k2, e2⟩ := asN_some hc
                rw [e1] at ha
                rw [e2] at hb'
                cases ha; cases hb'
                have hpos := hi.pos
                have hsz := hi.size
                subst hsz
                have hzs := hi.zsize
                have hzr := (hC.zeroRel h3 h4 μ).cells (hC.zeroNoJ h3 h4)
                have hby := hi.bytes
                have w1 : IntKind.i64.wrap (l : Int) = l := wrap64_id (by omega) (by omega)
                have w2 : IntKind.i64.wrap (c : Int) = c := wrap64_id (by omega) (by omega)
                have hm : i.bytes * c ≤ 70368744177664 := Nat.le_trans (Nat.mul_le_mul hby hcb) (by decide)
                have t1 : ¬ ((decide ((c : Int) < 0) || decide ((i.bytes : Int) * (c : Int) > 2 ^ 48)) = true) := by
                  simp only [Bool.or_eq_true, decide_eq_true_eq, not_or]
                  refine ⟨by omega, ?_⟩
                  have h7 : ((i.bytes * c : Nat) : Int) ≤ ((70368744177664 : Nat) : Int) := Int.ofNat_le.2 hm
                  rw [Int.natCast_mul] at h7
                  have e48 : (2 ^ 48 : Int) = ((281474976710656 : Nat) : Int) := rfl
                  rw [e48]
                  have h8 : ((70368744177664 : Nat) : Int) ≤ ((281474976710656 : Nat) : Int) := Int.ofNat_le.2 (by decide)
                  exact Int.not_lt.2 (Int.le_trans h7 h8)
                have range := range_map_zero z.cells c (by omega)
                rw [hzs] at range
                have hcl : (((Array.range (c * i.size)).map (((if c * i.size = 0 then (#[] : Array Value) else z.cells))[· % (if c * i.size = 0 then (#[] : Array Value) else z.cells).size]!))).toList = rep c (Val.cells z) := by
                  by_cases h0 : c * i.size = 0
                  · have : c = 0 := by rcases Nat.mul_eq_zero.1 h0 with h0 | h0 <;> omega
                    subst this
                    simp [rep]
                  · simp only [h0, if_false, hzs, range, Val.cells_eq]
                have hrr : LRel μ (rep c (Val.cells z)) (rep c (Val.cells z)) := by
                  refine LRel.same fun u hu => ?_
                  unfold rep at hu
                  obtain ⟨l', hl', hu'⟩ := List.mem_flatten.1 hu
                  rw [List.eq_of_mem_replicate hl'] at hu'
                  obtain ⟨k, hk⟩ := List.getElem?_of_mem hu'
                  obtain ⟨u', h5, h6⟩ := hzr.get hk
                  rw [Val.cells_eq] at hk
                  rw [hk] at h5; cases h5
                  exact h6
                refine ⟨i.size, e, l, c, rep c (Val.cells z), ((Array.range (c * i.size)).map (((if c * i.size = 0 then (#[] : Array Value) else z.cells))[· % (if c * i.size = 0 then (#[] : Array Value) else z.cells).size]!)), rfl, rfl, fun m2 => ?_, by rw [hcl]; exact hrr, by rw [UNK_eq]; omega, ?_⟩
                · simp only [he, h2, h3, h4, Option.bind_some, hl, hc, hz.1, hz.2, Bool.and_self, cond_true]
                · have hc1 : ((decide ((c : Int) < 0) || decide ((i.bytes : Int) * (c : Int) > 2 ^ 48)) || decide ((l : Int) < 0) || decide ((l : Int) > (c : Int))) = false := by
                    rw [Bool.eq_false_iff.2 t1]
                    simp; omega
                  simp only [Instr.makeSlice, Sem.run_bind, run_underlying hi.ty, Result.andThen_ok, asInt, asIntOf, Sem.run_pure, typeInfo, run_program, hi.info, w1, w2, hc1]
                  simp only [Bool.false_eq_true, if_false, run_askRoom, Result.andThen_ok, Sem.run_bind, Int.toNat_natCast, run_sizeOf hi.info]
                  by_cases h0 : c * i.size = 0
                  · simp [h0, newRow]
                  · simp [h0, newRow, run_zeroValue hi.info hi.zero]

theorem makeSlice_sound (hC : C.Ok P) (h : Rel B w0 μ m w) {t : TypeId} {a b : Operand} {ρ : Operand → Value} {a' b' : Value} (ha : VRel μ (ρ a) a') (hb' : VRel μ (ρ b) b') {v : Value} {m' : Mem}
    (hb : prim C ρ (.makeSlice t a b) m = some (v, m')) : OpRes P B w0 μ m (Instr.makeSlice t a' b') w v m' := by
  obtain ⟨esz, e, l, c, out, out', rfl, rfl, _, hor, hlt, hrun⟩ := makeSlice_run hC ha hb' w hb
  refine ⟨_, _, hrun, ?_⟩
  obtain ⟨a1, a2⟩ := h.alloc_cells (vs := out) (cs := out'.toList) (by rw [hor.len, List.take_length]; exact hor) (by rw [hor.len]; exact Nat.le_refl _) esz (st := .sole) (fun g hg => by cases hg) e
  refine ⟨_, ?_, a1, a2⟩
  exact VRel.slice (l := ⟨w.heap.size, 0, esz, _⟩) (Mu.set_same _ _ _) (fun _ => rfl) (fun hc => absurd hlt (Nat.not_lt.2 hc))

end
end Go.Ev

namespace Go.Ev
set_option linter.unusedSectionVars false
variable [Atoms]
open Go.RowKit (Below)

section
variable {B : Nat → Prop} {w0 : World} {μ : Mu} {m : Mem} {w : World} {P : Program} {C : Ctx}

theorem partV_sound (hC : C.Ok P) {t : TypeId} {cs : List Value} {off : Nat} {v : Value} {cs' : Array Value} (hc : LRel μ cs cs'.toList) (hp : partV C t cs off = some v) (w : World) :
    ∃ v', (part t cs' off).run P w = .ok v' w ∧ VRel μ v v' := by
  unfold partV at hp
  cases ht : tinfo C t with
  | none => rw [ht] at hp; cases hp
  | some ti =>
    rw [ht] at hp
    obtain ⟨d, i, hd, hi, rfl⟩ := tinfo_spec hC ht
    simp only [Option.bind_some] at hp
    unfold part
    cases hagg : isAggD d with
    | true =>
      rw [hagg] at hp
      simp only [cond_true, Option.some.injEq] at hp
      subst hp
      refine ⟨.agg (cs'.extract off (off + i.size)), by simp [run_isAgg hd, hagg, run_sizeOf hi], ?_⟩
      have : (cs'.extract off (off + i.size)) = ⟨(cs'.toList.drop off).take i.size⟩ := by
        apply Array.ext'
        simp
      rw [this]
      exact .agg' ((hc.drop off).take i.size)
    | false =>
      rw [hagg] at hp
      simp only [cond_false] at hp
      obtain ⟨v', h1, h2⟩ := hc.get hp
      have h1' : cs'[off]? = some v' := by simpa using h1
      exact ⟨v', by simp [run_isAgg hd, hagg, h1'], h2⟩

theorem fieldOf_spec (hC : C.Ok P) {t : TypeId} {f : Nat} {g : Field} (h : fieldOf C t f = some g) : ∃ fs, P.underlying t = some (.struct fs) ∧ fs[f]? = some g := by
  unfold fieldOf at h
  split at h
  · rename_i fs hu; exact ⟨fs, hC.under hu, h⟩
  · cases h

theorem field_sound (hC : C.Ok P) (h : Rel B w0 μ m w) {t : TypeId} {x x' v : Value} {f : Nat}
    (hp : (match x with | .agg cs => (fieldOf C t f).bind fun g => partV C g.type cs.toList g.offset | _ => none) = some v) (hx : VRel μ x x') : OpRes P B w0 μ m (Instr.field t x' f) w v m := by
  cases hx with
  | agg h1 h2 =>
    rename_i as bs
    simp only at hp
    cases hf : fieldOf C t f with
    | none => rw [hf] at hp; cases hp
    | some g =>
      rw [hf] at hp
      simp only [Option.bind_some] at hp
      obtain ⟨fs, hu, hg⟩ := fieldOf_spec hC hf
      obtain ⟨v', hr, hv⟩ := partV_sound hC (cs' := ⟨bs⟩) ⟨h1, h2⟩ hp w
      exact ⟨v', w, by simp [Instr.field, run_underlying hu, hg, asAgg, hr], .same h hv⟩
  | _ => cases hp

theorem fieldAddr_sound (hC : C.Ok P) (h : Rel B w0 μ m w) {t : TypeId} {x x' : Value} {f o off n : Nat} {g : Field} (hx : VRel μ x x') (he : x = .pointer (some ⟨o, off, none⟩))
    (hf : fieldOf C t f = some g) (hn : C.size g.type = some n) (hz : n ≠ 0) : OpRes P B w0 μ m (Instr.fieldAt t x' f) w (ptr o (off + g.offset)) m := by
  subst he
  cases hx with
  | ptr ho =>
    rename_i l
    obtain ⟨fs, hu, hg⟩ := fieldOf_spec hC hf
    obtain ⟨i, hi, hs⟩ := hC.size hn
    refine ⟨.pointer (some ⟨l.blk, l.base + off + g.offset, none⟩), w, ?_, .same h ?_⟩
    · simp [Instr.fieldAt, run_underlying hu, hg, Instr.sureAddr, fieldPlace, run_sizeOf hi, hs, hz, addr_add]
    · rw [show l.base + off + g.offset = l.base + (off + g.offset) from by omega]
      exact .ptr ho

theorem indexAddr_sound (hC : C.Ok P) (h : Rel B w0 μ m w) {t e : TypeId} {x x' ix' : Value} {o off i n : Nat} {k : IntKind} (hx : VRel μ x x') (hix : ix' = .int k i) (hn : C.size e = some n)
    (hcase : (∃ len c, C.under t = some (.slice e) ∧ x = .slice (some ⟨o, off, none⟩) len c ∧ i < len) ∨
      (∃ len, C.under t = some (.array len e) ∧ x = .pointer (some ⟨o, off, none⟩) ∧ i < len)) :
    OpRes P B w0 μ m (Instr.indexAt t x' ix') w (ptr o (off + i * n)) m := by
  subst hix
  obtain ⟨inf, hi, hs⟩ := hC.size hn
  rcases hcase with ⟨len, c, hu, rfl, hlt⟩ | ⟨len, hu, rfl, hlt⟩
  · have hu' := hC.under hu
    cases hx with
    | slice ho h1 h2 =>
      rename_i c' l
      refine ⟨.pointer (some ⟨l.blk, l.base + off + i * n, none⟩), w, ?_, .same h ?_⟩
      · simp [Instr.indexAt, asIntOf, run_underlying hu', run_sizeOf hi, hs, hlt, addr_add]
      · rw [show l.base + off + i * n = l.base + (off + i * n) from by omega]
        exact .ptr ho
    | semp => omega
  · have hu' := hC.under hu
    cases hx with
    | ptr ho =>
      rename_i l
      refine ⟨.pointer (some ⟨l.blk, l.base + off + i * n, none⟩), w, ?_, .same h ?_⟩
      · simp [Instr.indexAt, asIntOf, run_underlying hu', run_sizeOf hi, hs, hlt, addr_add, Instr.sureAddr]
      · rw [show l.base + off + i * n = l.base + (off + i * n) from by omega]
        exact .ptr ho

theorem bytes_get (s : ByteArray) (i : Nat) : s[i]? = s.data.toList[i]? := by
  by_cases h : i < s.size
  · rw [ByteArray.getElem?_lt' s i h]
    have : i < s.data.toList.length := by simpa using h
    rw [List.getElem?_eq_getElem this]
    simp
    rfl
  · rw [ByteArray.getElem?_ge' s i h]
    symm
    rw [List.getElem?_eq_none]
    simp only [Array.length_toList]
    exact Nat.not_lt.1 h

theorem index_sound (hC : C.Ok P) (h : Rel B w0 μ m w) {t : TypeId} {x x' ix' v : Value} {i : Nat} {k : IntKind} (hix : ix' = .int k i)
    (hp : (match C.under t, x with
     | some (.array len e), .agg cs => bif Nat.blt i len then (C.size e).bind fun n => partV C e cs.toList (i * n) else none
     | some .string, .string s => (match s.data.toList[i]? with | some b => some (.int .u8 b.toNat) | none => none)
     | _, _ => none) = some v) (hx : VRel μ x x') : OpRes P B w0 μ m (Instr.index t x' ix') w v m := by
  subst hix
  split at hp
  · rename_i len e cs hu
    have hu' := hC.under hu
    cases hx with
    | agg h1 h2 =>
      rename_i as bs
      cases hlt : Nat.blt i len with
      | false => rw [hlt] at hp; cases hp
      | true =>
        rw [hlt] at hp
        simp only [cond_true] at hp
        have hlt' : i < len := Nat.le_of_ble_eq_true hlt
        cases hn : C.size e with
        | none => rw [hn] at hp; cases hp
        | some n =>
          rw [hn] at hp
          simp only [Option.bind_some] at hp
          obtain ⟨inf, hi, hs⟩ := hC.size hn
          obtain ⟨v', hr, hv⟩ := partV_sound hC (cs' := ⟨bs⟩) ⟨h1, h2⟩ hp w
          exact ⟨v', w, by simp [Instr.index, asIntOf, run_underlying hu', run_sizeOf hi, hs, hlt', hr], .same h hv⟩
  · rename_i s hu
    have hu' := hC.under hu
    cases hx with
    | string s =>
      cases hg : s.data.toList[i]? with
      | none => rw [hg] at hp; cases hp
      | some b =>
        rw [hg] at hp
        simp only [Option.some.injEq] at hp
        subst hp
        refine ⟨_, w, ?_, .same h (.int .u8 _)⟩
        have hb : s[i]? = some b := by rw [bytes_get]; exact hg
        simp [Instr.index, asIntOf, run_underlying hu', hb]
  · cases hp

/-- how a bound reaches the model -/
def Bound (v : Option Value) (d n : Nat) : Prop := (v = none ∧ n = d) ∨ ∃ k, v = some (.int k n)

theorem bound_of {a a' : Option Value} {d n : Nat} (ha : ∀ u, a = some u → ∃ u', a' = some u' ∧ VRel μ u u') (han : a = none → a' = none) (hn : optN d a = some n) : Bound a' d n := by
  cases a with
  | none => simp only [optN, Option.some.injEq] at hn; exact .inl ⟨han rfl, hn.symm⟩
  | some u =>
    obtain ⟨u', h1, h2⟩ := ha u rfl
    obtain ⟨k, rfl⟩ := asN_some hn
    cases h2
    exact .inr ⟨k, h1⟩

theorem run_bound (k : IntKind) (n y : Nat) (code : BoundsCode) (w : World) (hle : n ≤ y) : (Instr.sliceBound (.int k n) y code).run P w = .ok n w := by
  have : (n : Int) ≤ (y : Int) := by omega
  simp [Instr.sliceBound, asIntOf, this]

theorem slice_run {t e : TypeId} {i : TypeInfo} (hu : P.underlying t = some (.slice e)) (hi : P.info? e = some i) {a : Option Addr} {len cap l h m : Nat} {lo hi' mx : Option Value}
    (hl : Bound lo 0 l) (hh : Bound hi' len h) (hm : Bound mx cap m) (hmx : mx.isNone = true ∨ hi'.isSome = true) (h1 : l ≤ h) (h2 : h ≤ m) (h3 : m ≤ cap) (w : World) :
    (Instr.sliceAt t (.slice a len cap) lo hi' mx).run P w = .ok (.slice (if m = l then a else a.map (·.add (l * i.size))) (h - l) (m - l)) w := by
  rcases hm with ⟨rfl, rfl⟩ | ⟨km, rfl⟩ <;> rcases hh with ⟨rfl, rfl⟩ | ⟨kh, rfl⟩ <;> rcases hl with ⟨rfl, rfl⟩ | ⟨kl, rfl⟩
  · simp [Instr.sliceAt, run_underlying hu, Instr.slice, Instr.sliceBounds, run_sizeOf hi]
  · simp [Instr.sliceAt, run_underlying hu, Instr.slice, Instr.sliceBounds, run_sizeOf hi, run_bound _ _ _ _ _ h1]
  · simp [Instr.sliceAt, run_underlying hu, Instr.slice, Instr.sliceBounds, run_sizeOf hi, run_bound _ _ _ _ _ h2]
  · simp [Instr.sliceAt, run_underlying hu, Instr.slice, Instr.sliceBounds, run_sizeOf hi, run_bound _ _ _ _ _ h1, run_bound _ _ _ _ _ h2]
  · rcases hmx with q | q <;> cases q
  · rcases hmx with q | q <;> cases q
  · simp [Instr.sliceAt, run_underlying hu, Instr.slice, Instr.sliceBounds, run_sizeOf hi, run_bound _ _ _ _ _ h2, run_bound _ _ _ _ _ h3]
  · simp [Instr.sliceAt, run_underlying hu, Instr.slice, Instr.sliceBounds, run_sizeOf hi, run_bound _ _ _ _ _ h1, run_bound _ _ _ _ _ h2, run_bound _ _ _ _ _ h3]

theorem map_add (b o n : Nat) : (some (⟨b, o, none⟩ : Addr)).map (·.add n) = some ⟨b, o + n, none⟩ := by rw [Option.map_some, addr_add]

theorem ble_true {a b : Nat} (h : a ≤ b) : Nat.ble a b = true := Nat.ble_eq_true_of_le h
theorem ble_false {a b : Nat} (h : b < a) : Nat.ble a b = false := by
  cases hq : Nat.ble a b with
  | false => rfl
  | true => have := Nat.le_of_ble_eq_true hq; omega
theorem lt_of_ble_false {a b : Nat} (h : Nat.ble a b = false) : b < a := by
  rcases Nat.lt_or_ge b a with q | q
  · exact q
  · rw [ble_true q] at h; cases h
theorem ne_of_beq_false {a b : Nat} (h : Nat.beq a b = false) : a ≠ b := by
  rintro rfl; rw [Nat.beq_refl] at h; cases h

theorem slice_sound (hC : C.Ok P) (h : Rel B w0 μ m w) {t : TypeId} {x x' v : Value} {lo hi mx lo' hi' mx' : Option Value} (hx : VRel μ x x')
    (hlo : ∀ a, lo = some a → ∃ a', lo' = some a' ∧ VRel μ a a') (hlon : lo = none → lo' = none)
    (hhi : ∀ a, hi = some a → ∃ a', hi' = some a' ∧ VRel μ a a') (hhin : hi = none → hi' = none)
    (hmx : ∀ a, mx = some a → ∃ a', mx' = some a' ∧ VRel μ a a') (hmxn : mx = none → mx' = none)
    (hp : sliceV C t x lo hi mx = some v) : OpRes P B w0 μ m (Instr.sliceAt t x' lo' hi' mx') w v m := by
  unfold sliceV at hp
  cases hu : C.under t with
  | none => rw [hu] at hp; cases hp
  | some d =>
  rw [hu] at hp
  have hu' := hC.under hu
  cases hx with
  | string s =>
    cases d <;> try (cases hp; done)
    simp only at hp
    cases hh : optN s.data.size hi with
    | none => rw [hh] at hp; cases hp
    | some hv =>
      rw [hh] at hp
      simp only [Option.bind_some] at hp
      cases hl : optN 0 lo with
      | none => rw [hl] at hp; cases hp
      | some lv =>
        rw [hl] at hp
        simp only [Option.bind_some] at hp
        cases hc : (Nat.ble lv hv && Nat.ble hv s.data.size && mx.isNone) with
        | false => rw [hc] at hp; cases hp
        | true =>
          rw [hc] at hp
          rw [Bool.and_eq_true, Bool.and_eq_true] at hc
          have h1 := Nat.le_of_ble_eq_true hc.1.1
          have h2 := Nat.le_of_ble_eq_true hc.1.2
          have h3 : mx = none := Option.isNone_iff_eq_none.1 hc.2
          have h4 := hmxn h3
          simp only [cond_true, Option.some.injEq] at hp
          subst hp
          have hext : s.extract lv hv = ⟨⟨(s.data.toList.drop lv).take (hv - lv)⟩⟩ := by
            have := ByteArray.extract_mk s.data.toList lv hv
            simpa using this
          refine ⟨.string (s.extract lv hv), w, ?_, .same h (by rw [hext]; exact .string _)⟩
          subst h4
          have h2 : hv ≤ s.size := h2
          have hh : optN s.size hi = some hv := hh
          rcases bound_of hhi hhin hh with ⟨rfl, rfl⟩ | ⟨k, rfl⟩ <;> rcases bound_of hlo hlon hl with ⟨rfl, rfl⟩ | ⟨k', rfl⟩
          · simp [Instr.sliceAt, run_underlying hu', Instr.slice, Instr.sliceBounds]
          · simp [Instr.sliceAt, run_underlying hu', Instr.slice, Instr.sliceBounds, run_bound _ _ _ _ _ h1]
          · simp [Instr.sliceAt, run_underlying hu', Instr.slice, Instr.sliceBounds, run_bound _ _ _ _ _ h2]
          · simp [Instr.sliceAt, run_underlying hu', Instr.slice, Instr.sliceBounds, run_bound _ _ _ _ _ h2, run_bound _ _ _ _ _ h1]
  | snil =>
    cases d <;> try (cases hp; done)
    rename_i e
    simp only at hp
    cases hi2 : C.info e with
    | none => rw [hi2] at hp; cases hp
    | some i =>
      rw [hi2] at hp
      have hi3 := hC.info hi2
      simp only [Option.bind_some] at hp
      cases hm : optCap 0 0 mx with
      | none => rw [hm] at hp; cases hp
      | some mv =>
        rw [hm] at hp
        simp only [Option.bind_some] at hp
        cases hh : optN 0 hi with
        | none => rw [hh] at hp; cases hp
        | some hv =>
          rw [hh] at hp
          simp only [Option.bind_some] at hp
          cases hl : optN 0 lo with
          | none => rw [hl] at hp; cases hp
          | some lv =>
            rw [hl] at hp
            simp only [Option.bind_some] at hp
            have hm0 : Bound mx' 0 mv ∧ mv = 0 := by
              cases mx with
              | none => simp only [optCap, Option.some.injEq] at hm; subst hm; exact ⟨.inl ⟨hmxn rfl, rfl⟩, rfl⟩
              | some u =>
                simp only [optCap] at hm
                cases hn : asN u with
                | none => rw [hn] at hm; cases hm
                | some n =>
                  rw [hn] at hm
                  simp only [Option.bind_some] at hm
                  cases hb : (Nat.ble n (capOf 0 0) && Nat.blt n UNK && !Nat.beq 0 UNK) with
                  | false => rw [hb] at hm; cases hm
                  | true =>
                    rw [hb] at hm
                    simp only [cond_true, Option.some.injEq] at hm
                    subst hm
                    rw [Bool.and_eq_true, Bool.and_eq_true] at hb
                    have hle := Nat.le_of_ble_eq_true hb.1.1
                    have hc0 : capOf 0 0 = 0 := by unfold capOf; rw [ble_false (by rw [UNK_eq]; omega)]; rfl
                    rw [hc0] at hle
                    have : n = 0 := by omega
                    subst this
                    exact ⟨bound_of (d := 0) hmx (fun q => by cases q) (by simpa [optN] using hn), rfl⟩
            obtain ⟨hmb, rfl⟩ := hm0
            have hc0 : capOf 0 0 = 0 := by unfold capOf; rw [ble_false (by rw [UNK_eq]; omega)]; rfl
            rw [hc0] at hp
            cases hc : (Nat.ble lv hv && Nat.ble hv 0 && (Nat.ble 0 UNK || Nat.beq (szOf 0) i.size) && (mx.isNone || hi.isSome)) with
            | false => rw [hc] at hp; cases hp
            | true =>
              rw [hc] at hp
              rw [Bool.and_eq_true, Bool.and_eq_true, Bool.and_eq_true] at hc
              have h1 := Nat.le_of_ble_eq_true hc.1.1.1
              have h2 := Nat.le_of_ble_eq_true hc.1.1.2
              have hv0 : hv = 0 := by omega
              subst hv0
              have lv0 : lv = 0 := by omega
              subst lv0
              simp only [cond_true, Option.some.injEq] at hp
              subst hp
              have hq : mx'.isNone = true ∨ hi'.isSome = true := by
                rcases Bool.or_eq_true _ _ |>.mp hc.2 with q | q
                · left; rw [hmxn (Option.isNone_iff_eq_none.1 q)]; rfl
                · right
                  obtain ⟨u, hu2⟩ := Option.isSome_iff_exists.1 q
                  obtain ⟨u', h5, _⟩ := hhi u hu2
                  rw [h5]; rfl
              have hr := slice_run hu' hi3 (a := none) (len := 0) (cap := 0) (bound_of hlo hlon hl) (bound_of hhi hhin hh) hmb hq (Nat.le_refl _) (Nat.le_refl _) (Nat.le_refl _) w
              refine ⟨_, w, hr, .same h ?_⟩
              unfold sliceIn
              rw [ble_false (by rw [UNK_eq]; omega)]
              exact .snil
  | slice ho hcap hunk =>
    rename_i o off len cap cap' l
    cases d <;> try (cases hp; done)
    rename_i e
    simp only at hp
    cases hi2 : C.info e with
    | none => rw [hi2] at hp; cases hp
    | some i =>
      rw [hi2] at hp
      have hi3 := hC.info hi2
      simp only [Option.bind_some] at hp
      cases hm : optCap len cap mx with
      | none => rw [hm] at hp; cases hp
      | some mv =>
        rw [hm] at hp
        simp only [Option.bind_some] at hp
        cases hh : optN len hi with
        | none => rw [hh] at hp; cases hp
        | some hv =>
          rw [hh] at hp
          simp only [Option.bind_some] at hp
          cases hl : optN 0 lo with
          | none => rw [hl] at hp; cases hp
          | some lv =>
            rw [hl] at hp
            simp only [Option.bind_some] at hp
            cases hc : (Nat.ble lv hv && Nat.ble hv (capOf len mv) && (Nat.ble mv UNK || Nat.beq (szOf mv) i.size) && (mx.isNone || hi.isSome)) with
            | false => rw [hc] at hp; cases hp
            | true =>
              rw [hc] at hp
              rw [Bool.and_eq_true, Bool.and_eq_true, Bool.and_eq_true] at hc
              have h1 := Nat.le_of_ble_eq_true hc.1.1.1
              have h2 := Nat.le_of_ble_eq_true hc.1.1.2
              have h3 := hc.1.2
              simp only [cond_true, Option.some.injEq] at hp
              subst hp
              have hq : mx'.isNone = true ∨ hi'.isSome = true := by
                rcases Bool.or_eq_true _ _ |>.mp hc.2 with q | q
                · left; rw [hmxn (Option.isNone_iff_eq_none.1 q)]; rfl
                · right
                  obtain ⟨u, hu2⟩ := Option.isSome_iff_exists.1 q
                  obtain ⟨u', h5, _⟩ := hhi u hu2
                  rw [h5]; rfl
              -- the capacity that the model has
              obtain ⟨mv', hmb, hmlt, hmge, hmle⟩ : ∃ mv', Bound mx' cap' mv' ∧ (mv < UNK → mv' = mv) ∧ (UNK ≤ mv → mv = cap ∧ mv' = cap') ∧ mv' ≤ cap' := by
                cases mx with
                | none =>
                  simp only [optCap, Option.some.injEq] at hm
                  subst hm
                  exact ⟨cap', .inl ⟨hmxn rfl, rfl⟩, hcap, fun _ => ⟨rfl, rfl⟩, Nat.le_refl _⟩
                | some u =>
                  simp only [optCap] at hm
                  cases hn : asN u with
                  | none => rw [hn] at hm; cases hm
                  | some n =>
                    rw [hn] at hm
                    simp only [Option.bind_some] at hm
                    cases hb : (Nat.ble n (capOf len cap) && Nat.blt n UNK && !Nat.beq cap UNK) with
                    | false => rw [hb] at hm; cases hm
                    | true =>
                      rw [hb] at hm
                      simp only [cond_true, Option.some.injEq] at hm
                      subst hm
                      rw [Bool.and_eq_true, Bool.and_eq_true] at hb
                      have hle := Nat.le_of_ble_eq_true hb.1.1
                      have hlt : n < UNK := Nat.le_of_ble_eq_true hb.1.2
                      refine ⟨n, bound_of hmx (fun q => by cases q) (by simpa [optN] using hn), fun _ => rfl, fun hge => absurd hlt (Nat.not_lt.2 hge), ?_⟩
                      unfold capOf at hle
                      cases hu2 : Nat.ble UNK cap with
                      | true =>
                        rw [hu2] at hle
                        simp only [cond_true] at hle
                        have := (hunk (Nat.le_of_ble_eq_true hu2)).2.2.2
                        have := (hunk (Nat.le_of_ble_eq_true hu2)).1.2.1
                        cases hq : Nat.ble len (lbOf cap) <;> rw [hq] at hle <;> simp only [cond_true, cond_false] at hle <;> omega
                      | false =>
                        rw [hu2] at hle
                        simp only [cond_false] at hle
                        rw [hcap (lt_of_ble_false hu2)]
                        exact hle
              have hhm : hv ≤ mv' := by
                unfold capOf at h2
                cases hu2 : Nat.ble UNK mv with
                | true =>
                  rw [hu2] at h2
                  simp only [cond_true] at h2
                  have hge := Nat.le_of_ble_eq_true hu2
                  obtain ⟨e1, e2⟩ := hmge hge
                  subst e1
                  have := (hunk hge).2.2.2
                  have := (hunk hge).1.2.1
                  cases hq : Nat.ble len (lbOf mv) <;> rw [hq] at h2 <;> simp only [cond_true, cond_false] at h2 <;> omega
                | false =>
                  rw [hu2] at h2
                  simp only [cond_false] at h2
                  rw [hmlt (lt_of_ble_false hu2)]
                  exact h2
              have hr := slice_run hu' hi3 (a := some ⟨l.blk, l.base + off, none⟩) (len := len) (cap := cap') (bound_of hlo hlon hl) (bound_of hhi hhin hh) hmb hq h1 hhm hmle w
              refine ⟨_, w, hr, .same h ?_⟩
              unfold sliceIn moved
              cases hu2 : Nat.ble UNK mv with
              | false =>
                have hlt := lt_of_ble_false hu2
                have e1 := hmlt hlt
                subst e1
                simp only [cond_false]
                by_cases hml : mv' = lv
                · subst hml
                  simp only [Nat.beq_refl, cond_true, if_true]
                  exact VRel.slice ho (fun _ => rfl) (fun q => absurd q (by rw [UNK_eq] at *; omega))
                · have hb : Nat.beq mv' lv = false := by
                    cases hb : Nat.beq mv' lv with
                    | false => rfl
                    | true => exact absurd (Nat.eq_of_beq_eq_true hb) hml
                  simp only [hb, cond_false, if_neg hml, Option.map_some, addr_add]
                  rw [show l.base + off + lv * i.size = l.base + (off + lv * i.size) from by omega]
                  exact VRel.slice ho (fun _ => rfl) (fun q => absurd q (by rw [UNK_eq] at *; omega))
              | true =>
                have hge := Nat.le_of_ble_eq_true hu2
                obtain ⟨e1, e2⟩ := hmge hge
                subst e1; subst e2
                obtain ⟨u1, u2, u3, u4⟩ := hunk hge
                have e0 : szOf UNK = 0 := by decide
                have hsz : i.size = l.esz := by
                  rcases Bool.or_eq_true _ _ |>.mp h3 with q | q
                  · have := Nat.le_of_ble_eq_true q
                    have e1 : mv = UNK := by omega
                    rw [e1] at u1
                    omega
                  · have := Nat.eq_of_beq_eq_true q; omega
                have hne : Nat.beq mv UNK = false := by
                  cases hb : Nat.beq mv UNK with
                  | false => rfl
                  | true => have := Nat.eq_of_beq_eq_true hb; rw [this] at u1; omega
                simp only [cond_true, hne, cond_false]
                cases hl0 : Nat.beq lv 0 with
                | true =>
                  have := Nat.eq_of_beq_eq_true hl0
                  subst this
                  simp only [cond_true, Nat.zero_mul, Option.map_some, addr_add, Nat.add_zero, ite_self, Nat.sub_zero]
                  exact VRel.slice ho (fun q => absurd q (by omega)) (fun _ => ⟨u1, u2, u3, hhm⟩)
                | false =>
                  simp only [cond_false]
                  cases hlt : Nat.blt lv (capOf len mv) with
                  | true =>
                    have hlt' : lv < capOf len mv := Nat.le_of_ble_eq_true hlt
                    have hcm : capOf len mv ≤ mv' := by
                      unfold capOf
                      rw [hu2]
                      simp only [cond_true]
                      have := u1.2.1
                      cases Nat.ble len (lbOf mv) <;> simp only [cond_true, cond_false] <;> omega
                    have hml : mv' ≠ lv := by omega
                    simp only [cond_true, if_neg hml, Option.map_some, addr_add]
                    rw [show l.base + off + lv * i.size = l.base + (off + lv * i.size) from by omega]
                    have hk : (bif Nat.ble lv (lbOf mv) then lv else lbOf mv) ≤ lbOf mv := by
                      cases hq : Nat.ble lv (lbOf mv) with
                      | true => exact Nat.le_of_ble_eq_true hq
                      | false => exact Nat.le_refl _
                    obtain ⟨v1, v2, v3⟩ := unk_sub hge hk
                    refine VRel.slice ho (fun q => absurd q (by omega)) (fun _ => ⟨⟨v2.trans u1.1, ?_, Nat.lt_of_le_of_lt (Nat.sub_le _ _) u1.2.2⟩, u2, ?_, by omega⟩)
                    · rw [v3]
                      have := u1.2.1
                      cases hq : Nat.ble lv (lbOf mv) with
                      | true => simp only [cond_true]; omega
                      | false => simp only [cond_false]; omega
                    · rw [hsz]
                      have e3 : (mv' - lv) * l.esz + lv * l.esz = mv' * l.esz := by rw [← Nat.add_mul]; congr 1; omega
                      omega
                  | false =>
                    have hge2 : capOf len mv ≤ lv := by
                      rcases Nat.lt_or_ge lv (capOf len mv) with q | q
                      · have := ble_true q; unfold Nat.blt at hlt; rw [this] at hlt; cases hlt
                      · exact q
                    have e4 : hv - lv = 0 := by omega
                    simp only [cond_false, e4]
                    split
                    · exact .semp
                    · simp only [Option.map_some, addr_add]; exact .semp
  | semp =>
    rename_i a a' cap'
    cases d <;> try (cases hp; done)
    rename_i e
    simp only at hp
    cases hi2 : C.info e with
    | none => rw [hi2] at hp; cases hp
    | some i =>
      rw [hi2] at hp
      have hi3 := hC.info hi2
      simp only [Option.bind_some] at hp
      cases hm : optCap 0 UNK mx with
      | none => rw [hm] at hp; cases hp
      | some mv =>
        rw [hm] at hp
        simp only [Option.bind_some] at hp
        cases hh : optN 0 hi with
        | none => rw [hh] at hp; cases hp
        | some hv =>
          rw [hh] at hp
          simp only [Option.bind_some] at hp
          cases hl : optN 0 lo with
          | none => rw [hl] at hp; cases hp
          | some lv =>
            rw [hl] at hp
            simp only [Option.bind_some] at hp
            cases hc : (Nat.ble lv hv && Nat.ble hv (capOf 0 mv) && (Nat.ble mv UNK || Nat.beq (szOf mv) i.size) && (mx.isNone || hi.isSome)) with
            | false => rw [hc] at hp; cases hp
            | true =>
              rw [hc] at hp
              rw [Bool.and_eq_true, Bool.and_eq_true, Bool.and_eq_true] at hc
              have h1 := Nat.le_of_ble_eq_true hc.1.1.1
              have h2 := Nat.le_of_ble_eq_true hc.1.1.2
              simp only [cond_true, Option.some.injEq] at hp
              subst hp
              have hq : mx'.isNone = true ∨ hi'.isSome = true := by
                rcases Bool.or_eq_true _ _ |>.mp hc.2 with q | q
                · left; rw [hmxn (Option.isNone_iff_eq_none.1 q)]; rfl
                · right
                  obtain ⟨u, hu2⟩ := Option.isSome_iff_exists.1 q
                  obtain ⟨u', h5, _⟩ := hhi u hu2
                  rw [h5]; rfl
              cases mx with
              | some u =>
                -- an exact capacity of nothing
                simp only [optCap] at hm
                cases hn : asN u with
                | none => rw [hn] at hm; cases hm
                | some n =>
                  rw [hn] at hm
                  simp only [Option.bind_some] at hm
                  rw [Nat.beq_refl, Bool.not_true, Bool.and_false] at hm
                  cases hm
              | none =>
                simp only [optCap, Option.some.injEq] at hm
                subst hm
                unfold capOf at h2
                rw [ble_true (Nat.le_refl _)] at h2
                have e0 : lbOf UNK = 0 := by decide
                rw [e0] at h2
                simp only [cond_true, Nat.ble_self_eq_true] at h2
                have hv0 : hv = 0 := by omega
                subst hv0
                have lv0 : lv = 0 := by omega
                subst lv0
                have hr := slice_run hu' hi3 (a := some a') (len := 0) (cap := cap') (bound_of hlo hlon hl) (bound_of hhi hhin hh) (.inl ⟨hmxn rfl, rfl⟩) hq (Nat.le_refl _) (Nat.zero_le _) (Nat.le_refl _) w
                refine ⟨_, w, hr, .same h ?_⟩
                unfold sliceIn
                rw [ble_true (Nat.le_refl _)]
                simp only [Nat.beq_refl, cond_true]
                split
                · exact .semp
                · obtain ⟨b, of, sp⟩ := a'
                  exact .semp
  | _ => cases d <;> cases hp

end
end Go.Ev

namespace Go.Ev
set_option linter.unusedSectionVars false
variable [Atoms]
open Go.RowKit (Below)

section
variable {B : Nat → Prop} {w0 : World} {μ : Mu} {m : Mem} {w : World} {P : Program} {C : Ctx}

theorem bytesOfCells_spec : ∀ (cs : List Value) (l : List UInt8), bytesOfCells cs = some l → ∃ ns : List Int, cs = ns.map (Value.int .u8) ∧ l = ns.map fun n => UInt8.ofNat n.toNat
  | [], l, h => by simp only [bytesOfCells, Option.some.injEq] at h; subst h; exact ⟨[], rfl, rfl⟩
  | v :: r, l, h => by
    unfold bytesOfCells at h
    split at h
    · cases h
      rename_i e; cases e
    · rename_i n r' e
      cases e
      cases hb : bytesOfCells r with
      | none => rw [hb] at h; cases h
      | some l' =>
        rw [hb] at h
        simp only [Option.bind_some, Option.some.injEq] at h
        subst h
        obtain ⟨ns, e1, e2⟩ := bytesOfCells_spec r l' hb
        exact ⟨n :: ns, by rw [e1]; rfl, by rw [e2]; rfl⟩
    · cases h

theorem LRel.ints {k : IntKind} {ns : List Int} {bs : List Value} (h : LRel μ (ns.map (Value.int k)) bs) : bs = ns.map (Value.int k) := by
  apply List.ext_getElem?
  intro i
  cases hn : (ns.map (Value.int k))[i]? with
  | none =>
    rw [List.getElem?_eq_none_iff] at hn ⊢
    rw [← h.len]; exact hn
  | some u =>
    obtain ⟨v, h1, h2⟩ := h.get hn
    rw [h1]
    rw [List.getElem?_map] at hn
    cases hx : ns[i]? with
    | none => rw [hx] at hn; cases hn
    | some n =>
      rw [hx] at hn
      simp only [Option.map_some, Option.some.injEq] at hn
      subst hn
      cases h2
      rfl

theorem convert_sound (hC : C.Ok P) (h : Rel B w0 μ m w) {s d : TypeId} {x x' v : Value} {m' : Mem} (hx : VRel μ x x') (hp : convertV C s d x m = some (v, m')) :
    OpRes P B w0 μ m (convert s d x') w v m' := by
  unfold convertV at hp
  cases hs : C.under s with
  | none => rw [hs] at hp; cases hp
  | some ds =>
  cases hd : C.under d with
  | none => rw [hs, hd] at hp; cases hp
  | some dd =>
  rw [hs, hd] at hp
  have hs' := hC.under hs
  have hd' := hC.under hd
  cases hx with
  | int k n =>
    cases dd <;> try (cases ds <;> cases hp; done)
    rename_i k'
    have : some (Value.int k' (wrapF k' n), m) = some (v, m') := by cases ds <;> exact hp
    simp only [Option.some.injEq, Prod.mk.injEq] at this
    obtain ⟨rfl, rfl⟩ := this
    refine ⟨.int k' (k'.wrap n), w, ?_, .same h (by rw [wrapF_eq]; exact .int _ _)⟩
    simp [convert, run_underlying hs', run_underlying hd', Conv.intToInt]
  | string b =>
    cases dd with
    | string =>
      have : some (Value.string b, m) = some (v, m') := by cases ds <;> exact hp
      simp only [Option.some.injEq, Prod.mk.injEq] at this
      obtain ⟨rfl, rfl⟩ := this
      refine ⟨.string b, w, ?_, .same h (.string _)⟩
      simp [convert, run_underlying hs', run_underlying hd']
    | slice e =>
      have hp' : (match C.under e with
         | some (.int .u8) => bif Nat.ble b.data.size BIG then some (Value.slice (some ⟨m.next, 0, none⟩) b.data.size (UNK + 1), m.new (.cells (b.data.toList.map fun b => .int .u8 b.toNat) 1 .sole)) else none
         | _ => none) = some (v, m') := by cases ds <;> first | exact hp | cases hp
      split at hp'
      · rename_i he
        have he' := hC.under he
        cases hbig : Nat.ble b.data.size BIG with
        | false => rw [hbig] at hp'; cases hp'
        | true =>
        rw [hbig] at hp'
        simp only [cond_true, Option.some.injEq, Prod.mk.injEq] at hp'
        obtain ⟨rfl, rfl⟩ := hp'
        refine ⟨_, _, Lib.run_convert_string_bytes (P := P) w s d e b hs' hd' he', ?_⟩
        have hn := h.unnamed (Nat.le_refl m.next)
        have hcap := grownCap_ge w b.size 0 e
        have hsz : (Lib.bytesCells w e b).size = grownCap w b.size 0 e := by
          unfold Lib.bytesCells
          rw [Array.size_append, Array.size_map, Array.size_replicate]
          have : b.data.size = b.size := rfl
          omega
        have hbelow : Below w.heap.size w (Lib.bytesWorld w e b) := ⟨rfl, rfl, rfl, by rw [Lib.bytesWorld_size]; omega, fun k hk => Lib.bytesWorld_at_old w e b k hk⟩
        refine ⟨μ.set m.next ⟨w.heap.size, 0, 1, (Lib.bytesCells w e b).size⟩, ?_, ?_, Ext.set (Nat.le_refl _) Ext.new hn⟩
        · refine VRel.slice (l := ⟨w.heap.size, 0, 1, _⟩) (Mu.set_same _ _ _) (fun q => absurd q (by omega)) (fun _ => ⟨⟨(by decide : szOf (UNK + 1) = 1), Nat.le_trans (by decide : lbOf (UNK + 1) ≤ 0) (Nat.zero_le _), grownCap_lt (Nat.lt_of_le_of_lt (Nat.le_of_ble_eq_true hbig) (by decide))⟩, Nat.le_refl _, ?_, hcap⟩)
          simp only [hsz]; omega
        · refine (h.new_obj _).bind_cells (o := m.next) (by simp) hn (by rw [Mem.get_new, if_pos rfl]) (fun g hg => by cases hg) hbelow (Lib.bytesWorld_size w e b) (Lib.bytesWorld_at_new w e b) ?_ ?_ ?_
          · exact ⟨fun i hi => by simp only; omega, .inl rfl⟩
          · rw [hsz]; simp only [List.length_map, Array.length_toList]; exact hcap
          · intro i u hu
            rw [List.getElem?_map] at hu
            cases hb : b.data.toList[i]? with
            | none => rw [hb] at hu; cases hu
            | some c =>
              rw [hb] at hu
              simp only [Option.map_some, Option.some.injEq] at hu
              subst hu
              refine ⟨.int .u8 c.toNat, ?_, .int _ _⟩
              have hi : i < b.data.size := by simpa using (List.getElem?_eq_some_iff.1 hb).1
              unfold Lib.bytesCells
              rw [Array.getElem?_append_left (by simpa using hi)]
              rw [Array.getElem?_toList] at hb
              simp [hb]
      · cases hp'
    | int k => cases ds <;> cases hp
    | _ => cases ds <;> cases hp
  | snil =>
    cases ds with
    | slice e =>
      cases dd with
      | string =>
        simp only at hp
        split at hp
        · rename_i he
          have he' := hC.under he
          simp only [Option.some.injEq, Prod.mk.injEq] at hp
          obtain ⟨rfl, rfl⟩ := hp
          exact ⟨_, w, run_convert_bytes_nil (P := P) w s e hs' he' 0 0 d hd', .same h (.string _)⟩
        · cases hp
      | _ => cases hp
    | _ => cases dd <;> cases hp
  | slice ho h1 h2 =>
    rename_i o off n c c' l
    cases ds with
    | slice e =>
      cases dd with
      | string =>
        simp only at hp
        split at hp
        · rename_i he
          have he' := hC.under he
          cases hl : m.loadN o off n with
          | none => rw [hl] at hp; cases hp
          | some cs =>
            rw [hl] at hp
            simp only [Option.bind_some] at hp
            cases hb : bytesOfCells cs with
            | none => rw [hb] at hp; cases hp
            | some bs =>
              rw [hb] at hp
              simp only [Option.bind_some, Option.some.injEq, Prod.mk.injEq] at hp
              obtain ⟨rfl, rfl⟩ := hp
              obtain ⟨cs', hr, hlen, hcell⟩ := h.load ho hl
              obtain ⟨ns, e1, e2⟩ := bytesOfCells_spec cs bs hb
              subst e1
              have e3 := hr.ints
              subst e3
              refine ⟨_, w, run_convert_bytes_arg (P := P) w s e hs' he' l.blk (l.base + off) n c' ns (by simpa using hlen) (fun i hi => ?_) d hd', .same h ?_⟩
              · have hi' : i < ns.length := by simp at hlen; omega
                have := hcell i (.int .u8 (ns.getD i 0)) (by simp [List.getD, List.getElem?_eq_getElem hi'])
                exact this
              · have : strOfNums ns = ⟨⟨bs⟩⟩ := by rw [e2]; rfl
                rw [this]
                exact .string _
        · cases hp
      | _ => cases hp
    | _ => cases dd <;> cases hp
  | semp =>
    rename_i a a' c'
    cases ds with
    | slice e =>
      cases dd with
      | string =>
        simp only at hp
        split at hp
        · rename_i he
          have he' := hC.under he
          obtain ⟨o, off, sp⟩ := a
          cases sp with
          | some q => cases hp
          | none =>
            simp only at hp
            cases hl : m.loadN o off 0 with
            | none => rw [hl] at hp; cases hp
            | some cs =>
              rw [hl] at hp
              simp only [Option.bind_some] at hp
              have hcs : cs = [] := by
                unfold Mem.loadN at hl
                cases hc : m.cells o with
                | none => rw [hc] at hl; cases hl
                | some vs =>
                  rw [hc] at hl
                  simp only [Option.bind_some] at hl
                  cases hb : Nat.ble (off + 0) vs.length with
                  | false => rw [hb] at hl; cases hl
                  | true => rw [hb] at hl; simpa using hl.symm
              subst hcs
              simp only [bytesOfCells, Option.bind_some, Option.some.injEq, Prod.mk.injEq] at hp
              obtain ⟨rfl, rfl⟩ := hp
              refine ⟨.string ByteArray.empty, w, ?_, .same h (.string _)⟩
              rw [run_convert_bytes_string (P := P) w s d e _ 0 c' hs' he' hd']
              simp [Conv.bytesToString, loadCells, loadCellsFrom]
        · cases hp
      | _ => cases hp
    | _ => cases dd <;> cases hp
  | _ => cases ds <;> cases dd <;> cases hp

theorem lenA_sound (hC : C.Ok P) (h : Rel B w0 μ m w) {t ty : TypeId} {x x' v : Value} {m' : Mem} (hx : VRel μ x x') (hp : lenA C t x m = some (v, m')) :
    OpRes P B w0 μ m (Builtin.len_ #[t] ty #[x']) w v m' := by
  unfold lenA at hp
  cases hu : C.under t with
  | none => rw [hu] at hp; cases hp
  | some d =>
  rw [hu] at hp
  have hu' := hC.under hu
  have arr : ∀ n e, d = .array n e → OpRes P B w0 μ m (Builtin.len_ #[t] ty #[x']) w (.int .i64 n) m := by
    rintro n e rfl
    refine ⟨goInt n, w, ?_, .same h (.int _ _)⟩
    cases x' <;> simp [Builtin.len_, run_underlying hu', goInt]
  cases d with
  | array n e =>
    have : some (Value.int .i64 (n : Nat), m) = some (v, m') := by cases x <;> exact hp
    simp only [Option.some.injEq, Prod.mk.injEq] at this
    obtain ⟨rfl, rfl⟩ := this
    exact arr n e rfl
  | string =>
    cases hx <;> try (cases hp; done)
    · rename_i j
      obtain ⟨n, hn, hp⟩ := Option.bind_eq_some_iff.1 hp
      simp only [Option.some.injEq, Prod.mk.injEq] at hp
      obtain ⟨rfl, rfl⟩ := hp
      obtain ⟨s, e, hs⟩ := hC.lens j n hn
      rw [e]
      refine ⟨goInt s.size, w, ?_, .same h (hs _)⟩
      simp [Builtin.len_, run_underlying hu']
    · rename_i s
      simp only [Option.some.injEq, Prod.mk.injEq] at hp
      obtain ⟨rfl, rfl⟩ := hp
      refine ⟨goInt s.size, w, ?_, .same h (.int _ _)⟩
      simp [Builtin.len_, run_underlying hu']
  | slice e =>
    cases hx <;> try (cases hp; done)
    all_goals
      simp only [Option.some.injEq, Prod.mk.injEq] at hp
      obtain ⟨rfl, rfl⟩ := hp
      refine ⟨_, w, ?_, .same h (.int _ _)⟩
      simp [Builtin.len_, run_underlying hu', goInt]
  | map k e =>
    cases hx <;> try (cases hp; done)
    · simp only [Option.some.injEq, Prod.mk.injEq] at hp
      obtain ⟨rfl, rfl⟩ := hp
      refine ⟨goInt 0, w, ?_, .same h (.int _ _)⟩
      simp [Builtin.len_, run_underlying hu']
    · rename_i r l hr
      simp only at hp
      cases hg : m.get r with
      | none => rw [hg] at hp; cases hp
      | some obj =>
        rw [hg] at hp
        cases obj with
        | cells => cases hp
        | group => cases hp
        | map es ck =>
          simp only [Option.some.injEq, Prod.mk.injEq] at hp
          obtain ⟨rfl, rfl⟩ := hp
          have hob := h.obj r l hr
          rw [hg] at hob
          obtain ⟨fs, ck', h1, h2⟩ := hob.blk
          refine ⟨goInt fs.size, w, ?_, .same h (by rw [h2.len]; exact .int _ _)⟩
          simp [Builtin.len_, run_underlying hu', getObj, Sem.run, h1]
  | _ => cases hx <;> cases hp

theorem capA_sound (hC : C.Ok P) (h : Rel B w0 μ m w) {t ty : TypeId} {x x' v : Value} (hx : VRel μ x x') (hp : capA C t x = some v) :
    OpRes P B w0 μ m (Builtin.cap_ #[t] ty #[x']) w v m := by
  unfold capA at hp
  split at hp
  · rename_i e a n c hu
    have hu' := hC.under hu
    cases hc : Nat.ble UNK c with
    | true => rw [hc] at hp; cases hp
    | false =>
      rw [hc] at hp
      simp only [cond_false, Option.some.injEq] at hp
      subst hp
      have hlt := lt_of_ble_false hc
      cases hx with
      | snil => exact ⟨_, w, by simp [Builtin.cap_, run_underlying hu', goInt], .same h (.int _ _)⟩
      | slice ho h1 h2 =>
        rename_i c' _ _
        have := h1 hlt
        subst this
        exact ⟨_, w, by simp [Builtin.cap_, run_underlying hu', goInt], .same h (.int _ _)⟩
      | semp => omega
  · cases hp

end
end Go.Ev

namespace Go.Ev
set_option linter.unusedSectionVars false
variable [Atoms]
open Go.RowKit (Below)

section
variable {B : Nat → Prop} {w0 : World} {μ : Mu} {m : Mem} {w : World} {P : Program} {C : Ctx}

theorem mapTypes_spec (hC : C.Ok P) {t : TypeId} {d : TypeDesc} {e : TypeId} (h : mapTypes C t = some (d, e)) : ∃ k, P.underlying t = some (.map k e) ∧ P.underlying k = some d ∧ basicKey d = true := by
  unfold mapTypes at h
  split at h
  · rename_i k e' hu
    cases hk : C.under k with
    | none => rw [hk] at h; cases h
    | some d' =>
      rw [hk] at h
      simp only [Option.bind_some] at h
      cases hb : basicKey d' with
      | false => rw [hb] at h; cases h
      | true =>
        rw [hb] at h
        simp only [cond_true, Option.some.injEq, Prod.mk.injEq] at h
        obtain ⟨rfl, rfl⟩ := h
        exact ⟨k, hC.under hu, hC.under hk, hb⟩
  · cases h

theorem beqBytes (a b : ByteArray) : (a == b) = strEq a.data.toList b.data.toList := by
  rw [beq_toListBytes, ByteArray.toList_eq, ByteArray.toList_eq, strEq_iff]

theorem keyEq_spec {d : TypeDesc} {k a k' a' : Value} {b : Bool} (hk : VRel μ k k') (ha : VRel μ a a') (h : keyEq d k a = some b) :
    Instr.sameNow d k' a' = some b ∧ (b = true → ∀ n, Instr.sameBits (n + 1) a' k' = true) := by
  unfold keyEq at h
  split at h
  · rename_i q j x j' y
    cases hk; cases ha
    cases hd : decide (j = j') with
    | false => rw [hd] at h; cases h
    | true =>
      rw [hd] at h
      simp only [cond_true, Option.some.injEq] at h
      have := of_decide_eq_true hd
      subst this; subst h
      refine ⟨by simp [Instr.sameNow]; rfl, fun ht n => ?_⟩
      have := of_decide_eq_true ht
      subst this
      simp [Instr.sameBits]
  · rename_i x y
    cases hk; cases ha
    simp only [Option.some.injEq] at h
    subst h
    refine ⟨by simp [Instr.sameNow, beqBytes], fun ht n => ?_⟩
    simp only [Instr.sameBits, beqBytes]
    rw [strEq_iff] at ht ⊢
    rw [beq_iff_eq] at ht ⊢
    exact ht.symm
  · rename_i x y
    cases hk; cases ha
    simp only [Option.some.injEq] at h
    subst h
    refine ⟨by simp [Instr.sameNow], fun ht n => ?_⟩
    simp only [Instr.sameBits]
    rw [beq_iff_eq] at ht ⊢
    exact ht.symm
  · cases h

theorem findKey_spec {d : TypeDesc} {k k' : Value} (hk : VRel μ k k') : ∀ (es : List (Value × Value)) (fs : List MapEntry) (i : Nat), es.length = fs.length →
    (∀ (j : Nat) (a v : Value) (e : MapEntry), es[j]? = some (a, v) → fs[j]? = some e → VRel μ a e.key ∧ VRel μ v e.val) → ∀ r, findKey d k es = some r →
    (r = none → Instr.findNow d k' fs i = some none) ∧ (∀ v, r = some v → ∃ j v', Instr.findNow d k' fs i = some (some (i + j, v')) ∧ VRel μ v v' ∧ (∃ e, fs[j]? = some e ∧ e.val = v' ∧ ∀ n, Instr.sameBits (n + 1) e.key k' = true))
  | [], fs, i, hl, _, r, h => by
    cases fs with
    | nil => simp only [findKey, Option.some.injEq] at h; subst h; exact ⟨fun _ => rfl, fun v hv => by cases hv⟩
    | cons => simp at hl
  | (a, v) :: es, fs, i, hl, hr, r, h => by
    cases fs with
    | nil => simp at hl
    | cons e fs =>
      obtain ⟨h1, h2⟩ := hr 0 a v e rfl rfl
      simp only [findKey] at h
      cases hb : keyEq d k a with
      | none => rw [hb] at h; cases h
      | some b =>
        rw [hb] at h
        simp only [Option.bind_some] at h
        obtain ⟨h3, h4⟩ := keyEq_spec hk h1 hb
        cases b with
        | true =>
          simp only [cond_true, Option.some.injEq] at h
          subst h
          refine ⟨(fun q => by cases q), fun v' hv' => ?_⟩
          cases hv'
          exact ⟨0, e.val, by simp [Instr.findNow, h3], h2, e, rfl, rfl, h4 rfl⟩
        | false =>
          simp only [cond_false] at h
          obtain ⟨h5, h6⟩ := findKey_spec hk es fs (i + 1) (by simpa using hl) (fun j x y z hx hz => hr (j + 1) x y z (by simpa using hx) (by simpa using hz)) r h
          refine ⟨fun q => by simp only [Instr.findNow, h3]; exact h5 q, fun u hu => ?_⟩
          obtain ⟨j, v', h7, h8, e', h9, h10⟩ := h6 u hu
          exact ⟨j + 1, v', by simp only [Instr.findNow, h3]; rw [h7]; congr 3; omega, h8, e', by simpa using h9, h10⟩

theorem run_checkKey {k : TypeId} {d : TypeDesc} (hu : P.underlying k = some d) (hb : basicKey d = true) (empty : Bool) (n : Nat) (v : Value) (w : World) :
    (Instr.checkKey empty (n + 1) k v).run P w = .ok () w := by
  cases d <;> try (cases hb; done)
  all_goals (cases v <;> simp [Instr.checkKey, run_underlying hu])

theorem run_findKey {k : TypeId} {d : TypeDesc} (hu : P.underlying k = some d) {key : Value} {fs : List MapEntry} {r : Option (Nat × Value)} (h : Instr.findNow d key fs 0 = some r) (w : World) :
    (Instr.findKey k key fs).run P w = .ok r w := by
  simp [Instr.findKey, run_underlying hu, h]

theorem lookup_sound (hC : C.Ok P) (h : Rel B w0 μ m w) {t : TypeId} {x x' k k' v : Value} {ok : Bool} (hx : VRel μ x x') (hk : VRel μ k k') (hp : alookup C t x k ok m = some v) :
    OpRes P B w0 μ m (Instr.lookup t x' k' ok) w v m := by
  unfold alookup at hp
  cases hm : mapTypes C t with
  | none => rw [hm] at hp; cases hp
  | some de =>
  obtain ⟨d, e⟩ := de
  rw [hm] at hp
  obtain ⟨kt, hu, hku, hb⟩ := mapTypes_spec hC hm
  simp only [Option.bind_some] at hp
  have fin : ∀ (es : List (Value × Value)) (fs : Array MapEntry), ERel μ es fs → (findKey d k es).bind (fun r => match r with
          | some v => some (bif ok then .tuple ⟨[v, .bool true]⟩ else v)
          | none => (C.info e).bind fun i => i.zero.bind fun z => some (bif ok then .tuple ⟨[z, .bool false]⟩ else z)) = some v →
      ∃ r vv, (Instr.findKey kt k' fs.toList).run P w = .ok r w ∧ VRel μ v vv ∧
        ((∃ j v', r = some (j, v') ∧ vv = (if ok then .tuple #[v', .bool true] else v')) ∨ (r = none ∧ ∃ z, (zeroValue e).run P w = .ok z w ∧ vv = (if ok then .tuple #[z, .bool false] else z))) := by
    intro es fs he hp
    cases hf : findKey d k es with
    | none => rw [hf] at hp; cases hp
    | some r =>
      rw [hf] at hp
      simp only [Option.bind_some] at hp
      obtain ⟨h1, h2⟩ := findKey_spec (d := d) hk es fs.toList 0 (by simpa using he.len) (fun j a u en ha hen => he.rel j a u en ha (by simpa using hen)) r hf
      cases r with
      | some u =>
        simp only [Option.some.injEq] at hp
        obtain ⟨j, v', h3, h4, _⟩ := h2 u rfl
        refine ⟨some (0 + j, v'), (if ok then .tuple #[v', .bool true] else v'), run_findKey hku h3 w, ?_, .inl ⟨_, v', rfl, rfl⟩⟩
        subst hp
        cases ok
        · exact h4
        · exact .tuple' (.cons h4 (.cons (.bool _) .nil))
      | none =>
        simp only at hp
        cases hi : C.info e with
        | none => rw [hi] at hp; cases hp
        | some i =>
          rw [hi] at hp
          simp only [Option.bind_some] at hp
          cases hz : i.zero with
          | none => rw [hz] at hp; cases hp
          | some z =>
            rw [hz] at hp
            simp only [Option.bind_some, Option.some.injEq] at hp
            have hzr := hC.zeroRel hi hz μ
            refine ⟨none, (if ok then .tuple #[z, .bool false] else z), run_findKey hku (h1 rfl) w, ?_, .inr ⟨rfl, z, run_zeroValue (hC.info hi) hz w, rfl⟩⟩
            subst hp
            cases ok
            · exact hzr
            · exact .tuple' (.cons hzr (.cons (.bool _) .nil))
  cases hx with
  | mnil =>
    simp only [Option.bind_some] at hp
    obtain ⟨r, vv, h1, h2, h3⟩ := fin [] #[] ⟨rfl, fun i _ _ _ hh => by simp at hh⟩ hp
    refine ⟨vv, w, ?_, .same h h2⟩
    rcases h3 with ⟨j, v', rfl, rfl⟩ | ⟨rfl, z, hz, rfl⟩
    · simp only [Instr.lookup, Sem.run_bind, run_underlying hu, Result.andThen_ok, Sem.run_pure, run_checkKey hku hb _ 9999, h1]
    · simp only [Instr.lookup, Sem.run_bind, run_underlying hu, Result.andThen_ok, Sem.run_pure, run_checkKey hku hb _ 9999, h1, hz]
  | map hr =>
    rename_i r l
    cases hg : m.get r with
    | none => simp only [hg] at hp; cases hp
    | some obj =>
      simp only [hg] at hp
      cases obj with
      | cells => cases hp
      | group => cases hp
      | map es ck =>
        simp only [Option.bind_some] at hp
        have hob := h.obj r l hr
        rw [hg] at hob
        obtain ⟨fs, ck', hb1, hb2⟩ := hob.blk
        obtain ⟨r', vv, h1, h2, h3⟩ := fin es fs hb2 hp
        have hget : (getObj l.blk).run P w = .ok (.map fs ck') w := by simp [getObj, Sem.run, hb1]
        refine ⟨vv, w, ?_, .same h h2⟩
        rcases h3 with ⟨j, v', rfl, rfl⟩ | ⟨rfl, z, hz, rfl⟩
        · simp only [Instr.lookup, Sem.run_bind, run_underlying hu, Result.andThen_ok, Sem.run_pure, hget, run_checkKey hku hb _ 9999, h1]
        · simp only [Instr.lookup, Sem.run_bind, run_underlying hu, Result.andThen_ok, Sem.run_pure, hget, run_checkKey hku hb _ 9999, h1, hz]
  | _ => cases hp

theorem setKey_spec {d : TypeDesc} {k k' x x' : Value} (hk : VRel μ k k') (hx : VRel μ x x') : ∀ (es : List (Value × Value)) (fs : List MapEntry) (i : Nat), es.length = fs.length →
    (∀ (j : Nat) (a v : Value) (e : MapEntry), es[j]? = some (a, v) → fs[j]? = some e → VRel μ a e.key ∧ VRel μ v e.val) → ∀ r, setKey d k x es = some r →
    (Instr.findNow d k' fs i = some none ∧ r = es ++ [(k, x)]) ∨
    (∃ j v', Instr.findNow d k' fs i = some (some (i + j, v')) ∧ (∃ e, fs[j]? = some e ∧ ∀ n, Instr.sameBits (n + 1) e.key k' = true) ∧ j < es.length ∧ r = es.set j (k, x))
  | [], fs, i, hl, _, r, h => by
    cases fs with
    | nil => simp only [setKey, Option.some.injEq] at h; subst h; exact .inl ⟨rfl, rfl⟩
    | cons => simp at hl
  | (a, v) :: es, fs, i, hl, hr, r, h => by
    cases fs with
    | nil => simp at hl
    | cons e fs =>
      obtain ⟨h1, h2⟩ := hr 0 a v e rfl rfl
      simp only [setKey] at h
      cases hb : keyEq d k a with
      | none => rw [hb] at h; cases h
      | some b =>
        rw [hb] at h
        simp only [Option.bind_some] at h
        obtain ⟨h3, h4⟩ := keyEq_spec hk h1 hb
        cases b with
        | true =>
          simp only [cond_true, Option.some.injEq] at h
          subst h
          exact .inr ⟨0, e.val, by simp [Instr.findNow, h3], ⟨e, rfl, h4 rfl⟩, by simp, rfl⟩
        | false =>
          simp only [cond_false] at h
          cases hs : setKey d k x es with
          | none => rw [hs] at h; cases h
          | some r' =>
            rw [hs] at h
            simp only [Option.bind_some, Option.some.injEq] at h
            subst h
            rcases setKey_spec hk hx es fs (i + 1) (by simpa using hl) (fun j x y z hx hz => hr (j + 1) x y z (by simpa using hx) (by simpa using hz)) r' hs with ⟨h5, h6⟩ | ⟨j, v', h5, ⟨e', h6, h7⟩, h8, h9⟩
            · left; exact ⟨by simp only [Instr.findNow, h3]; exact h5, by rw [h6]; rfl⟩
            · right
              exact ⟨j + 1, v', by simp only [Instr.findNow, h3]; rw [h5]; congr 3; omega, ⟨e', by simpa using h6, h7⟩, by simp; omega, by rw [h9]; rfl⟩

theorem delKey_spec {d : TypeDesc} {k k' : Value} (hk : VRel μ k k') : ∀ (es : List (Value × Value)) (fs : List MapEntry) (i : Nat), es.length = fs.length →
    (∀ (j : Nat) (a v : Value) (e : MapEntry), es[j]? = some (a, v) → fs[j]? = some e → VRel μ a e.key ∧ VRel μ v e.val) → ∀ r, delKey d k es = some r →
    (Instr.findNow d k' fs i = some none ∧ r = es) ∨
    (∃ j v', Instr.findNow d k' fs i = some (some (i + j, v')) ∧ j < es.length ∧ r = es.eraseIdx j)
  | [], fs, i, hl, _, r, h => by
    cases fs with
    | nil => simp only [delKey, Option.some.injEq] at h; subst h; exact .inl ⟨rfl, rfl⟩
    | cons => simp at hl
  | (a, v) :: es, fs, i, hl, hr, r, h => by
    cases fs with
    | nil => simp at hl
    | cons e fs =>
      obtain ⟨h1, h2⟩ := hr 0 a v e rfl rfl
      simp only [delKey] at h
      cases hb : keyEq d k a with
      | none => rw [hb] at h; cases h
      | some b =>
        rw [hb] at h
        simp only [Option.bind_some] at h
        obtain ⟨h3, h4⟩ := keyEq_spec hk h1 hb
        cases b with
        | true =>
          simp only [cond_true, Option.some.injEq] at h
          subst h
          exact .inr ⟨0, e.val, by simp [Instr.findNow, h3], by simp, rfl⟩
        | false =>
          simp only [cond_false] at h
          cases hs : delKey d k es with
          | none => rw [hs] at h; cases h
          | some r' =>
            rw [hs] at h
            simp only [Option.bind_some, Option.some.injEq] at h
            subst h
            rcases delKey_spec hk es fs (i + 1) (by simpa using hl) (fun j x y z hx hz => hr (j + 1) x y z (by simpa using hx) (by simpa using hz)) r' hs with ⟨h5, h6⟩ | ⟨j, v', h5, h8, h9⟩
            · left; exact ⟨by simp only [Instr.findNow, h3]; exact h5, by rw [h6]⟩
            · right
              exact ⟨j + 1, v', by simp only [Instr.findNow, h3]; rw [h5]; congr 3; omega, by simp; omega, by rw [h9]; rfl⟩

/-- a map's entries turn -/
theorem Rel.put_map (h : Rel B w0 μ m w) {r : Nat} {l : Loc} {es es2 : List (Value × Value)} {k k2 : Nat} (hl : μ r = some l) (hg : m.get r = some (.map es k)) {fs2 : Array MapEntry} {ck : Nat}
    (he : ERel μ es2 fs2) : Rel B w0 μ (m.put r (.map es2 k2)) { w with heap := w.heap.setIfInBounds l.blk (.map fs2 ck) } ∧ Ext μ m μ (m.put r (.map es2 k2)) := by
  refine ⟨?_, Ext.put ⟨l, hl⟩⟩
  have hob := h.obj r l hl
  rw [hg] at hob
  obtain ⟨fs, ck', hb1, hb2⟩ := hob.blk
  have hB := hob.own
  have hlt := (h.dom r l hl).2
  have hother : ∀ k, k ≠ l.blk → (w.heap.setIfInBounds l.blk (.map fs2 ck))[k]? = w.heap[k]? := fun k hk => by rw [Array.getElem?_setIfInBounds_ne (Ne.symm hk)]
  have halive : ∀ st : Stat, (m.put r (.map es2 k2)).alive st = true → m.alive st = true := by
    intro st' ha
    cases hs' : st'.grp with
    | none => cases st' <;> first | rfl | cases hs'
    | some k =>
      have hk := alive_grp ha hs'
      rw [Mem.get_put] at hk
      split at hk
      · cases hk
      · exact alive_of_grp hs' hk
  have alone : ∀ o' l', o' ≠ r → μ o' = some l' → l'.blk ≠ l.blk := by
    intro o' l' hne e1 e2
    have := h.sep r o' l l' hne.symm hl e1 e2.symm
    rw [hg] at this
    cases hx : m.get o' with
    | none => rw [hx] at this; exact this
    | some x => rw [hx] at this; cases x <;> exact this
  refine ⟨h.below.trans ⟨rfl, rfl, rfl, by simp, fun k hk => hother k (fun e => hB (e ▸ hk))⟩, by simpa using h.base, fun o' l' e => by simpa using h.dom o' l' e, ?_, ?_⟩
  · intro o' l' e
    by_cases hoo : o' = r
    · subst hoo
      rw [hl] at e; cases e
      rw [Mem.get_put, if_pos rfl]
      exact ⟨hB, fs2, ck, by simp [hlt], he⟩
    · rw [Mem.get_put, if_neg hoo]
      exact ((h.obj o' l' e).weaken (by simp) fun _ _ st' _ ha => halive st' ha).heap (hother _ (alone o' l' hoo e))
  · intro o1 o2 l1 l2 hne e1 e2 hb
    by_cases h1 : o1 = r
    · subst h1
      rw [hl] at e1; cases e1
      exact absurd hb.symm (alone o2 l2 hne.symm e2)
    · by_cases h2 : o2 = r
      · subst h2
        rw [hl] at e2; cases e2
        exact absurd hb (alone o1 l1 hne e1)
      · rw [Mem.get_put, Mem.get_put, if_neg h1, if_neg h2]
        exact (h.sep o1 o2 l1 l2 hne e1 e2 hb).weaken fun _ _ st' _ ha => halive st' ha

theorem run_setObj {r : Nat} {o o2 : Obj} (h : w.heap[r]? = some o) (hc : ∀ c e f, o ≠ .cells c e f) : (setObj r o2).run P w = .ok () { w with heap := w.heap.setIfInBounds r o2 } := by
  cases o <;> simp [setObj, Sem.run, h]
  rename_i c e f
  exact absurd rfl (hc c e f)

theorem mapUpdate_sound (hC : C.Ok P) (h : Rel B w0 μ m w) {t : TypeId} {x x' k k' v v' : Value} {m' : Mem} (hx : VRel μ x x') (hk : VRel μ k k') (hv : VRel μ v v') (hp : aupdate C t x k v m = some m') :
    ∃ w', (Instr.mapUpdate t x' k' v').run P w = .ok () w' ∧ Rel B w0 μ m' w' ∧ Ext μ m μ m' := by
  unfold aupdate at hp
  cases hm : mapTypes C t with
  | none => rw [hm] at hp; cases hp
  | some de =>
  obtain ⟨d, e⟩ := de
  rw [hm] at hp
  obtain ⟨kt, hu, hku, hb⟩ := mapTypes_spec hC hm
  simp only [Option.bind_some] at hp
  cases hx with
  | map hr =>
    rename_i r l
    cases hg : m.get r with
    | none => simp only [hg] at hp; cases hp
    | some obj =>
      simp only [hg] at hp
      cases obj with
      | cells => cases hp
      | group => cases hp
      | map es ck =>
        simp only at hp
        cases hs : setKey d k v es with
        | none => rw [hs] at hp; cases hp
        | some es2 =>
          rw [hs] at hp
          simp only [Option.bind_some, Option.some.injEq] at hp
          subst hp
          have hob := h.obj r l hr
          rw [hg] at hob
          obtain ⟨fs, ck', hb1, hb2⟩ := hob.blk
          have hget : (getObj l.blk).run P w = .ok (.map fs ck') w := by simp [getObj, Sem.run, hb1]
          have hset : ∀ o2, (setObj l.blk o2).run P w = .ok () { w with heap := w.heap.setIfInBounds l.blk o2 } := fun o2 => run_setObj hb1 (fun _ _ _ q => by cases q)
          rcases setKey_spec hk hv es fs.toList 0 (by simpa using hb2.len) (fun j a u en ha hen => hb2.rel j a u en ha (by simpa using hen)) es2 hs with ⟨h1, h2⟩ | ⟨j, v2, h1, ⟨en, h2, h3⟩, h4, h5⟩
          · obtain ⟨a1, a2⟩ := h.put_map hr hg (es2 := es2) (k2 := ck) (fs2 := fs.push { key := k', val := v', born := ck' }) (ck := ck' + 1) (by
              subst h2
              refine ⟨by simp [hb2.len], fun i a u en ha hen => ?_⟩
              by_cases hi : i < es.length
              · rw [List.getElem?_append_left hi] at ha
                rw [Array.getElem?_push_lt (by rw [← hb2.len]; exact hi)] at hen
                exact hb2.rel i a u en ha (by rw [Array.getElem?_eq_getElem]; exact hen)
              · rw [List.getElem?_append_right (by omega)] at ha
                have hi0 : i - es.length = 0 := by
                  have := (List.getElem?_eq_some_iff.1 ha).1
                  simp at this; omega
                rw [hi0] at ha
                simp only [List.getElem?_cons_zero, Option.some.injEq, Prod.mk.injEq] at ha
                have : i = fs.size := by have := hb2.len; omega
                subst this
                simp only [Array.getElem?_push_size, Option.some.injEq] at hen
                subst hen
                exact ⟨ha.1 ▸ hk, ha.2 ▸ hv⟩)
            refine ⟨_, ?_, a1, a2⟩
            simp only [Instr.mapUpdate, Sem.run_bind, run_underlying hu, Result.andThen_ok, hget, run_checkKey hku hb _ 9999, run_findKey hku h1, hset]
          · obtain ⟨a1, a2⟩ := h.put_map hr hg (es2 := es2) (k2 := ck) (fs2 := fs.modify (0 + j) fun e => { e with key := k', val := v' }) (ck := ck') (by
              subst h5
              refine ⟨by simp [hb2.len], fun i a u en ha hen => ?_⟩
              rw [Nat.zero_add, Array.getElem?_modify] at hen
              rw [List.getElem?_set] at ha
              by_cases hij : j = i
              · subst hij
                rw [if_pos rfl, if_pos h4] at ha
                rw [if_pos rfl] at hen
                simp only [Option.some.injEq, Prod.mk.injEq] at ha
                cases hf : fs[j]? with
                | none => rw [hf] at hen; cases hen
                | some e0 =>
                  rw [hf] at hen
                  simp only [Option.map_some, Option.some.injEq] at hen
                  subst hen
                  exact ⟨ha.1 ▸ hk, ha.2 ▸ hv⟩
              · rw [if_neg hij] at ha hen
                exact hb2.rel i a u en ha hen)
            have hstay : (Instr.keyThatStays (((fs[0 + j]?).map (·.key)).getD k') k').run P w = .ok k' w := by
              have e1 : fs[0 + j]? = some en := by rw [Nat.zero_add]; simpa using h2
              rw [e1]
              simp only [Instr.keyThatStays, Option.map_some, Option.getD_some, h3 9999, if_true, Sem.run_pure]
            refine ⟨_, ?_, a1, a2⟩
            simp only [Instr.mapUpdate, Sem.run_bind, run_underlying hu, Result.andThen_ok, hget, run_checkKey hku hb _ 9999, run_findKey hku h1, hset, hstay]
  | _ => cases hp

theorem delete_sound (hC : C.Ok P) (h : Rel B w0 μ m w) {t u ty : TypeId} {x x' k k' : Value} {m' : Mem} (hx : VRel μ x x') (hk : VRel μ k k') (hp : adelete C t x k m = some m') :
    ∃ w', (Builtin.delete_ #[t, u] ty #[x', k']).run P w = .ok (.tuple #[]) w' ∧ Rel B w0 μ m' w' ∧ Ext μ m μ m' := by
  unfold adelete at hp
  cases hm : mapTypes C t with
  | none => rw [hm] at hp; cases hp
  | some de =>
  obtain ⟨d, e⟩ := de
  rw [hm] at hp
  obtain ⟨kt, hu, hku, hb⟩ := mapTypes_spec hC hm
  simp only [Option.bind_some] at hp
  cases hx with
  | mnil =>
    simp only [Option.some.injEq] at hp
    subst hp
    exact ⟨w, by simp [Builtin.delete_, run_underlying hu, run_checkKey hku hb _ 9999], h, Ext.refl _ _⟩
  | map hr =>
    rename_i r l
    cases hg : m.get r with
    | none => simp only [hg] at hp; cases hp
    | some obj =>
      simp only [hg] at hp
      cases obj with
      | cells => cases hp
      | group => cases hp
      | map es ck =>
        simp only at hp
        cases hs : delKey d k es with
        | none => rw [hs] at hp; cases hp
        | some es2 =>
          rw [hs] at hp
          simp only [Option.bind_some, Option.some.injEq] at hp
          subst hp
          have hob := h.obj r l hr
          rw [hg] at hob
          obtain ⟨fs, ck', hb1, hb2⟩ := hob.blk
          have hget : (getObj l.blk).run P w = .ok (.map fs ck') w := by simp [getObj, Sem.run, hb1]
          have hset : ∀ o2, (setObj l.blk o2).run P w = .ok () { w with heap := w.heap.setIfInBounds l.blk o2 } := fun o2 => run_setObj hb1 (fun _ _ _ q => by cases q)
          rcases delKey_spec hk es fs.toList 0 (by simpa using hb2.len) (fun j a u en ha hen => hb2.rel j a u en ha (by simpa using hen)) es2 hs with ⟨h1, h2⟩ | ⟨j, v2, h1, h4, h5⟩
          · subst h2
            obtain ⟨a1, a2⟩ := h.put_map hr hg (k2 := ck) (fs2 := fs) (ck := ck') hb2
            refine ⟨_, ?_, a1, a2⟩
            simp only [Builtin.delete_, List.getElem?_toArray, List.getElem?_cons_zero, List.getElem?_cons_succ, Sem.run_bind, run_underlying hu, Result.andThen_ok, hget, run_checkKey hku hb _ 9999, run_findKey hku h1, hset]
            rfl
          · obtain ⟨a1, a2⟩ := h.put_map hr hg (es2 := es2) (k2 := ck) (fs2 := fs.eraseIdxIfInBounds (0 + j)) (ck := ck') (by
              subst h5
              have hl := hb2.len
              have hto : (fs.eraseIdxIfInBounds (0 + j)).toList = fs.toList.eraseIdx j := by rw [Nat.zero_add]; simp
              refine ⟨?_, fun i a u en ha hen => ?_⟩
              · rw [← Array.length_toList, hto, List.length_eraseIdx, List.length_eraseIdx]; simp [hl]
              · rw [← Array.getElem?_toList, hto, List.getElem?_eraseIdx] at hen
                rw [List.getElem?_eraseIdx] at ha
                split at ha
                · rename_i q; rw [if_pos q] at hen; exact hb2.rel i a u en ha (by simpa using hen)
                · rename_i q; rw [if_neg q] at hen; exact hb2.rel (i + 1) a u en ha (by simpa using hen))
            refine ⟨_, ?_, a1, a2⟩
            simp only [Builtin.delete_, List.getElem?_toArray, List.getElem?_cons_zero, List.getElem?_cons_succ, Sem.run_bind, run_underlying hu, Result.andThen_ok, hget, run_checkKey hku hb _ 9999, run_findKey hku h1, hset]
            rfl
  | _ => cases hp

end
end Go.Ev

namespace Go.Ev
set_option linter.unusedSectionVars false
variable [Atoms]
open Go.RowKit (Below)

section
variable {B : Nat → Prop} {w0 : World} {μ : Mu} {m : Mem} {w : World} {P : Program} {C : Ctx}

theorem copy_sound (hC : C.Ok P) (h : Rel B w0 μ m w) {t u ty : TypeId} {d d' x x' v : Value} {m' : Mem} (hd : VRel μ d d') (hx : VRel μ x x') (hp : acopy C t d x m = some (v, m')) :
    OpRes P B w0 μ m (Builtin.copy_ #[t, u] ty #[d', x']) w v m' := by
  unfold acopy at hp
  cases he : elemSz C t with
  | none => rw [he] at hp; cases hp
  | some esz =>
  rw [he] at hp
  obtain ⟨e, i, z, hi⟩ := elemSz_info hC he
  have hsz := hi.size
  subst hsz
  simp only [Option.bind_some] at hp
  obtain ⟨k, hk⟩ : ∃ k, lenV x = some k := by
    cases d <;> try (cases hp; done)
    cases hl : lenV x with
    | none => simp only [hl] at hp; cases hp
    | some k => exact ⟨k, rfl⟩
  have hlen : ∀ w', (Builtin.lenOf x').run P w' = .ok k w' := by
    cases hx <;> (try (cases hk; done)) <;> (simp only [lenV, Option.some.injEq] at hk; subst hk; intro w'; rfl)
  -- nothing to copy
  have zero : ∀ dlen base' c', min k dlen = 0 → (Builtin.copy_ #[t, u] ty #[.slice base' dlen c', x']).run P w = .ok (goInt 0) w := by
    intro dlen base' c' h0
    have hf : (Builtin.firstCells i.size 0 x').run P w = .ok #[] w := by
      cases hx <;> (try (cases hk; done))
      · simp [Builtin.firstCells]
      · exact run_firstCells_none w _ _ _ _
      · exact run_firstCells_some w _ _ _ _ _ [] (by simp) (by simp)
      · exact run_firstCells_some w _ _ _ _ _ [] (by simp) (by simp)
    have h0' : Nat.min k dlen = 0 := h0
    cases base' <;> simp [Builtin.copy_, run_underlying hi.ty, hlen, h0', run_sizeOf hi.info, hf, storeCells]
  have hmin : ∀ n, min k n = Nat.min k n := fun n => rfl
  cases hd with
  | snil =>
    simp only [hk, Option.bind_some] at hp
    have h0 : min k 0 = 0 := Nat.min_zero k
    rw [h0] at hp
    simp only [Nat.beq_refl, cond_true, Option.some.injEq, Prod.mk.injEq] at hp
    obtain ⟨rfl, rfl⟩ := hp
    exact ⟨_, w, zero 0 none 0 h0, .same h (.int _ _)⟩
  | semp =>
    rename_i a a' c'
    simp only [hk, Option.bind_some] at hp
    have h0 : min k 0 = 0 := Nat.min_zero k
    rw [h0] at hp
    simp only [Nat.beq_refl, cond_true, Option.some.injEq, Prod.mk.injEq] at hp
    obtain ⟨rfl, rfl⟩ := hp
    exact ⟨_, w, zero 0 (some a') c' h0, .same h (.int _ _)⟩
  | slice ho hcap hunk =>
    rename_i o off dlen cap cap' l
    simp only [hk, Option.bind_some] at hp
    cases h0 : Nat.beq (min k dlen) 0 with
    | true =>
      rw [h0] at hp
      simp only [cond_true, Option.some.injEq, Prod.mk.injEq] at hp
      obtain ⟨rfl, rfl⟩ := hp
      exact ⟨_, w, zero dlen _ cap' (Nat.eq_of_beq_eq_true h0), .same h (.int _ _)⟩
    | false =>
      rw [h0] at hp
      simp only [cond_false] at hp
      have hne := ne_of_beq_false h0
      -- what is copied
      have key : ∀ cs, copyCells i.size (min k dlen) x m = some cs →
          ∃ cs', LRel μ cs cs' ∧ (Builtin.firstCells i.size (min k dlen) x').run P w = .ok ⟨cs'⟩ w := by
        intro cs hcs
        cases hx <;> (try (cases hk; done))
        · rename_i s
          simp only [copyCells] at hcs
          cases hb : Nat.beq i.size 1 with
          | false => rw [hb] at hcs; cases hcs
          | true =>
            rw [hb] at hcs
            simp only [cond_true, Option.some.injEq] at hcs
            subst hcs
            refine ⟨_, LRel.same (fun q hq => ?_), ?_⟩
            · obtain ⟨b, _, rfl⟩ := List.mem_map.1 hq
              exact .int _ _
            · simp only [Builtin.firstCells, Sem.run_pure, Result.ok.injEq, and_true]
              have := ByteArray.extract_mk s.data.toList 0 (min k dlen)
              simp at this
              rw [this]
              simp
        · simp only [copyCells, srcCells, h0, cond_false] at hcs; cases hcs
        · rename_i o2 off2 k2 c2 c2' l2 ho2 _ _
          simp only [copyCells, srcCells, h0, cond_false] at hcs
          obtain ⟨cs', hr, hl2, hcell⟩ := h.load ho2 hcs
          exact ⟨cs', hr, run_firstCells_some w _ _ _ _ _ cs' (by rw [← hr.len]; exact hl2) (fun j u hu => by rw [addr_add]; exact hcell j u hu)⟩
        · simp only [lenV, Option.some.injEq] at hk
          subst hk
          exact absurd (Nat.zero_min dlen) hne
      cases hcs : copyCells i.size (min k dlen) x m with
      | none => rw [hcs] at hp; cases hp
      | some cs =>
        rw [hcs] at hp
        simp only [Option.bind_some] at hp
        obtain ⟨cs', hr, hrun⟩ := key cs hcs
        cases hst : m.storeN o off cs with
        | none => rw [hst] at hp; cases hp
        | some m2 =>
          rw [hst] at hp
          simp only [Option.bind_some, Option.some.injEq, Prod.mk.injEq] at hp
          obtain ⟨rfl, rfl⟩ := hp
          obtain ⟨w', r1, r2, r3⟩ := h.store (P := P) ho hst hr
          refine ⟨goInt (min k dlen : Nat), w', ?_, μ, .int _ _, r2, r3⟩
          have hrun' : (Builtin.firstCells i.size (Nat.min k dlen) x').run P w = .ok ⟨cs'⟩ w := hrun
          simp [Builtin.copy_, run_underlying hi.ty, hlen, run_sizeOf hi.info, hrun', r1]
  | _ => cases hp

theorem clear_sound (hC : C.Ok P) (h : Rel B w0 μ m w) {t ty : TypeId} {x x' : Value} {m' : Mem} (hx : VRel μ x x') (hp : clearA C t x m = some m') :
    ∃ w', (Builtin.clear_ #[t] ty #[x']).run P w = .ok (.tuple #[]) w' ∧ Rel B w0 μ m' w' ∧ Ext μ m μ m' := by
  unfold clearA at hp
  cases hu : C.under t with
  | none => rw [hu] at hp; cases hp
  | some dd =>
  rw [hu] at hp
  have hu' := hC.under hu
  simp only [Option.bind_some] at hp
  cases hx with
  | snil =>
    simp only [Nat.beq_refl, cond_true, Option.some.injEq] at hp
    subst hp
    exact ⟨w, by cases dd <;> simp [Builtin.clear_, run_underlying hu'], h, Ext.refl _ _⟩
  | semp =>
    simp only [Nat.beq_refl, cond_true, Option.some.injEq] at hp
    subst hp
    exact ⟨w, by cases dd <;> simp [Builtin.clear_, run_underlying hu'], h, Ext.refl _ _⟩
  | slice ho hcap hunk =>
    rename_i o off n cap cap' l
    simp only at hp
    cases h0 : Nat.beq n 0 with
    | true =>
      have := Nat.eq_of_beq_eq_true h0
      subst this
      simp only [Nat.beq_refl, cond_true, Option.some.injEq] at hp
      subst hp
      exact ⟨w, by cases dd <;> simp [Builtin.clear_, run_underlying hu'], h, Ext.refl _ _⟩
    | false =>
      rw [h0] at hp
      simp only [cond_false] at hp
      cases he : elemSz C t with
      | none => rw [he] at hp; cases hp
      | some esz =>
      rw [he] at hp
      simp only [Option.bind_some] at hp
      cases h2 : sliceElem C t with
      | none => rw [h2] at hp; cases hp
      | some e =>
      rw [h2] at hp
      simp only [Option.bind_some] at hp
      cases h3 : C.info e with
      | none => rw [h3] at hp; cases hp
      | some i =>
      rw [h3] at hp
      simp only [Option.bind_some] at hp
      cases h4 : i.zero with
      | none => rw [h4] at hp; cases hp
      | some z =>
      rw [h4] at hp
      simp only [Option.bind_some] at hp
      have hi := elemSz_parts hC he h2 h3 h4
      have hzr := (hC.zeroRel h3 h4 μ).cells (hC.zeroNoJ h3 h4)
      have hpos := hi.pos
      have hzs := hi.zsize
      have hrr : LRel μ (rep n (Val.cells z)) (rep n (Val.cells z)) := by
        refine LRel.same fun u hu => ?_
        unfold rep at hu
        obtain ⟨l', hl', hu'⟩ := List.mem_flatten.1 hu
        rw [List.eq_of_mem_replicate hl'] at hu'
        obtain ⟨k, hk⟩ := List.getElem?_of_mem hu'
        obtain ⟨u', h5, h6⟩ := hzr.get hk
        rw [Val.cells_eq] at hk
        rw [hk] at h5; cases h5
        exact h6
      obtain ⟨w', r1, r2, r3⟩ := h.store (P := P) ho hp hrr
      refine ⟨w', ?_, r2, r3⟩
      have hz : (Builtin.zeroCells z.cells n).toList = rep n (Val.cells z) := by
        have := range_map_zero z.cells n (by omega)
        rw [Val.cells_eq, ← this]
        rfl
      have hne := ne_of_beq_false h0
      obtain ⟨n', rfl⟩ : ∃ n', n = n' + 1 := ⟨n - 1, by omega⟩
      simp [Builtin.clear_, run_underlying hi.ty, run_zeroValue hi.info hi.zero, hz, r1]
  | _ => cases hp

theorem max_sound (w : World) : ∀ (r r' : List Value) (x x' v : Value), VRel μ x x' → LRel μ r r' → r.foldl (fun acc y => acc.bind fun a => minmax2 true a y) (some x) = some v →
    ∃ v', (r'.foldlM Builtin.max2 x').run P w = .ok v' w ∧ VRel μ v v'
  | [], r', x, x', v, hx, hr, h => by
    rw [hr.nil_left]
    simp only [List.foldl_nil, Option.some.injEq] at h
    subst h
    exact ⟨x', rfl, hx⟩
  | y :: r, r', x, x', v, hx, hr, h => by
    obtain ⟨y', r'', rfl, hy, hr'⟩ := hr.cons_left
    simp only [List.foldl_cons, Option.bind_some] at h
    have hnone : ∀ l : List Value, l.foldl (fun acc y => acc.bind fun a => minmax2 true a y) none = none := by
      intro l; induction l with
      | nil => rfl
      | cons a l ih => simpa using ih
    cases hm : minmax2 true x y with
    | none => rw [hm, hnone] at h; cases h
    | some u =>
      rw [hm] at h
      unfold minmax2 at hm
      split at hm
      · rename_i k a k' b
        cases hx; cases hy
        cases hd : decide (k = k') with
        | false => rw [hd] at hm; cases hm
        | true =>
          rw [hd] at hm
          simp only [cond_true, Option.some.injEq] at hm
          have hu : (Builtin.max2 (.int k a) (.int k' b)).run P w = .ok u w := by
            subst hm
            by_cases hab : b > a <;> simp [Builtin.max2, hab]
          have hur : VRel μ u u := by subst hm; exact .int _ _
          obtain ⟨v', h1, h2⟩ := max_sound w r r'' u u v hur hr' h
          refine ⟨v', ?_, h2⟩
          simp only [List.foldlM_cons, Sem.run_bind, hu, Result.andThen_ok, h1]
      · cases hm

theorem min_sound (w : World) : ∀ (r r' : List Value) (x x' v : Value), VRel μ x x' → LRel μ r r' → r.foldl (fun acc y => acc.bind fun a => minmax2 false a y) (some x) = some v →
    ∃ v', (r'.foldlM Builtin.min2 x').run P w = .ok v' w ∧ VRel μ v v'
  | [], r', x, x', v, hx, hr, h => by
    rw [hr.nil_left]
    simp only [List.foldl_nil, Option.some.injEq] at h
    subst h
    exact ⟨x', rfl, hx⟩
  | y :: r, r', x, x', v, hx, hr, h => by
    obtain ⟨y', r'', rfl, hy, hr'⟩ := hr.cons_left
    simp only [List.foldl_cons, Option.bind_some] at h
    have hnone : ∀ l : List Value, l.foldl (fun acc y => acc.bind fun a => minmax2 false a y) none = none := by
      intro l; induction l with
      | nil => rfl
      | cons a l ih => simpa using ih
    cases hm : minmax2 false x y with
    | none => rw [hm, hnone] at h; cases h
    | some u =>
      rw [hm] at h
      unfold minmax2 at hm
      split at hm
      · rename_i k a k' b
        cases hx; cases hy
        cases hd : decide (k = k') with
        | false => rw [hd] at hm; cases hm
        | true =>
          rw [hd] at hm
          simp only [cond_true, Option.some.injEq] at hm
          have hu : (Builtin.min2 (.int k a) (.int k' b)).run P w = .ok u w := by
            subst hm
            by_cases hab : b < a <;> simp [Builtin.min2, hab]
          have hur : VRel μ u u := by subst hm; exact .int _ _
          obtain ⟨v', h1, h2⟩ := min_sound w r r'' u u v hur hr' h
          refine ⟨v', ?_, h2⟩
          simp only [List.foldlM_cons, Sem.run_bind, hu, Result.andThen_ok, h1]
      · cases hm

end
end Go.Ev

namespace Go.Ev
set_option linter.unusedSectionVars false
variable [Atoms]
open Go.RowKit (Below)

section
variable {B : Nat → Prop} {w0 : World} {μ : Mu} {m : Mem} {w : World} {P : Program} {C : Ctx}

/-- the struct types whose values may be compared -/
structure Ctx.EqOk (C : Ctx) (P : Program) : Prop where
  stood : ∀ t, C.eqs.contains t = true → P.stoodInHeld t = false
  guard : ∀ t, C.eqs.contains t = true → P.eqGuardType P.depth t = false

theorem name_ne {s : String} (h : (s == "_") = false) : s ≠ "_" := by
  rintro rfl; simp at h

theorem eqFields_sound (hC : C.Ok P) {f : TypeId → Value → Value → Option Bool} {d : Nat}
    (hf : ∀ t x y x' y' b, VRel μ x x' → VRel μ y y' → f t x y = some b → ∀ w, (Op.equalIn d t x' y').run P w = .ok b w) :
    ∀ (fs : List Field) (xs ys : List Value) (xs' ys' : Array Value) (b : Bool), LRel μ xs xs'.toList → LRel μ ys ys'.toList → eqFields C f xs ys fs = some b → ∀ w, (Op.eqFields d xs' ys' fs).run P w = .ok b w
  | [], xs, ys, xs', ys', b, hx, hy, h, w => by
    simp only [eqFields, Option.some.injEq] at h
    subst h
    rfl
  | g :: r, xs, ys, xs', ys', b, hx, hy, h, w => by
    simp only [eqFields] at h
    cases hn : (g.name == "_") with
    | true => rw [hn] at h; cases h
    | false =>
      rw [hn] at h
      simp only [cond_false] at h
      cases hu : partV C g.type xs g.offset with
      | none => rw [hu] at h; cases h
      | some u =>
        rw [hu] at h
        simp only [Option.bind_some] at h
        cases hv : partV C g.type ys g.offset with
        | none => rw [hv] at h; cases h
        | some v =>
          rw [hv] at h
          simp only [Option.bind_some] at h
          cases hb : f g.type u v with
          | none => rw [hb] at h; cases h
          | some b' =>
            rw [hb] at h
            simp only [Option.bind_some] at h
            obtain ⟨u', h1, h2⟩ := partV_sound hC hx hu w
            obtain ⟨v', h3, h4⟩ := partV_sound hC hy hv w
            have h5 := hf _ _ _ _ _ _ h2 h4 hb w
            simp only [Op.eqFields]
            rw [if_pos (name_ne hn)]
            simp only [Sem.run_bind, h1, Result.andThen_ok, h3, h5]
            cases b' with
            | true =>
              simp only [cond_true] at h
              simpa using eqFields_sound hC hf r xs ys xs' ys' b hx hy h w
            | false =>
              simp only [cond_false, Option.some.injEq] at h
              subst h
              simp

theorem nilEq_sound {d : Nat} {t : TypeId} {dd : TypeDesc} (hu : P.underlying t = some dd) {x y x' y' : Value} {b : Bool} (hx : VRel μ x x') (hy : VRel μ y y') (h : nilEq x y = some b)
    (hk : (∃ e, dd = .pointer e ∧ ∃ a, x = .pointer a) ∨ (∃ e, dd = .slice e ∧ ∃ a n c, x = .slice a n c) ∨ (∃ k e, dd = .map k e ∧ ∃ a, x = .map a) ∨ (∃ p r v, dd = .func p r v ∧ (x = .nilFunc ∨ ∃ f a c, x = .func f a c))) (w : World) :
    (Op.equalIn (d + 1) t x' y').run P w = .ok b w := by
  rcases hk with ⟨e, rfl, a, rfl⟩ | ⟨e, rfl, a, n, c, rfl⟩ | ⟨k, e, rfl, a, rfl⟩ | ⟨p, r, v, rfl, hf⟩
  · cases hx <;> (cases hy <;> first | (cases h; done) | (simp only [nilEq, Option.some.injEq] at h; subst h; simp [Op.equalIn, run_underlying hu]))
  · cases hx <;> (cases hy <;> first | (cases h; done) | (simp only [nilEq, Option.some.injEq] at h; subst h; simp [Op.equalIn, run_underlying hu]))
  · cases hx <;> (cases hy <;> first | (cases h; done) | (simp only [nilEq, Option.some.injEq] at h; subst h; simp [Op.equalIn, run_underlying hu]))
  · rcases hf with rfl | ⟨f, a, c, rfl⟩
    · cases hx <;> (cases hy <;> first | (cases h; done) | (simp only [nilEq, Option.some.injEq] at h; subst h; simp [Op.equalIn, run_underlying hu]))
    · cases hx <;> (cases hy <;> first | (cases h; done) | (simp only [nilEq, Option.some.injEq] at h; subst h; simp [Op.equalIn, run_underlying hu]))

theorem flatV_int (hC : C.Ok P) {x x' : Value} (hx : VRel μ x x') (h : flatV C false x = true) : ∃ k n, x' = .int k n := by
  cases hx <;> simp only [flatV] at h <;> try (cases h; done)
  · rename_i j
    cases hk : C.kind j with
    | none => rw [hk] at h; cases h
    | some b =>
      rw [hk] at h
      exact (hC.kinds j b hk).2 (by simpa using h)
  · exact ⟨_, _, rfl⟩

theorem flatV_str (hC : C.Ok P) {x x' : Value} (hx : VRel μ x x') (h : flatV C true x = true) : ∃ s, x' = .string s := by
  cases hx <;> simp only [flatV] at h <;> try (cases h; done)
  · rename_i j
    cases hk : C.kind j with
    | none => rw [hk] at h; cases h
    | some b =>
      rw [hk] at h
      exact (hC.kinds j b hk).1 (by simpa using h)
  · exact ⟨_, rfl⟩

theorem factB_sound (hC : C.Ok P) {d : Nat} {t : TypeId} {str : Bool} {x y x' y' : Value} {b : Bool} (hx : VRel μ x x') (hy : VRel μ y y') (h : factB C str x y = some b)
    (ht : (str = false ∧ ∃ k, P.underlying t = some (.int k)) ∨ (str = true ∧ P.underlying t = some .string)) (w : World) : (Op.equalIn (d + 1) t x' y').run P w = .ok b w := by
  unfold factB at h
  cases hf : (flatV C str x && flatV C str y) with
  | false => rw [hf] at h; cases h
  | true =>
  rw [hf] at h
  simp only [cond_true] at h
  simp only [Bool.and_eq_true] at hf
  split at h
  · rename_i c hc
    simp only [Option.some.injEq] at h
    subst h
    obtain ⟨x1, y1, r1, r2, hh⟩ := hC.facts _ _ _ _ hc
    have e1 := r1 μ x' hx
    have e2 := r2 μ y' hy
    rcases ht with ⟨rfl, kk, ht⟩ | ⟨rfl, ht⟩
    · obtain ⟨k1, n1, f1⟩ := flatV_int hC hx hf.1
      rcases hh with ⟨k, m, n, rfl, rfl, h1⟩ | ⟨s, u, rfl, rfl, h1⟩
      · rw [e1, e2]
        simp only [intOp, Option.some.injEq, Value.bool.injEq] at h1
        subst h1
        have := run_equalIn_int (P := P) w d t k kk m n ht
        rw [this]
        rfl
      · rw [e1] at f1; cases f1
    · obtain ⟨s1, f1⟩ := flatV_str hC hx hf.1
      rcases hh with ⟨k, m, n, rfl, rfl, h1⟩ | ⟨s, u, rfl, rfl, h1⟩
      · rw [e1] at f1; cases f1
      · rw [e1, e2]
        simp only [strOp, Option.some.injEq, Value.bool.injEq] at h1
        subst h1
        rw [run_equalIn_string w d t _ _ ht, ByteArray.toList_eq, ByteArray.toList_eq, strEq_iff]
  · cases h

theorem eqv_sound (hC : C.Ok P) (hE : C.EqOk P) : ∀ (n : Nat) (d : Nat) (t : TypeId) (x y x' y' : Value) (b : Bool), n ≤ d → VRel μ x x' → VRel μ y y' → eqv C n t x y = some b →
    ∀ w, (Op.equalIn d t x' y').run P w = .ok b w
  | 0, _, _, _, _, _, _, _, _, _, _, h, _ => by cases h
  | n + 1, d, t, x, y, x', y', b, hle, hx, hy, h, w => by
    obtain ⟨d, rfl⟩ : ∃ d', d = d' + 1 := ⟨d - 1, by omega⟩
    unfold eqv at h
    cases hu : C.under t with
    | none => rw [hu] at h; cases h
    | some dd =>
    rw [hu] at h
    simp only [Option.bind_some] at h
    have hu' := hC.under hu
    cases dd with
    | bool =>
      simp only [eqD] at h
      cases hx <;> try (cases h; done)
      cases hy <;> try (cases h; done)
      simp only [Option.some.injEq] at h
      subst h
      exact run_equalIn_bool w d t _ _ hu'
    | int kk =>
      simp only [eqD] at h
      split at h
      case h_2 => exact factB_sound hC hx hy h (.inl ⟨rfl, kk, hu'⟩) w
      rename_i k a k' a'
      cases hx
      cases hy
      cases hd : decide (k = k') with
      | false => rw [hd] at h; cases h
      | true =>
        rw [hd] at h
        simp only [cond_true, Option.some.injEq] at h
        have := of_decide_eq_true hd
        subst this; subst h
        have := run_equalIn_int (P := P) w d t k kk a a' hu'
        rw [this]
        rfl
    | string =>
      simp only [eqD] at h
      split at h
      case h_2 => exact factB_sound hC hx hy h (.inr ⟨rfl, hu'⟩) w
      cases hx
      cases hy
      simp only [Option.some.injEq] at h
      subst h
      rw [run_equalIn_string w d t _ _ hu', ByteArray.toList_eq, ByteArray.toList_eq, strEq_iff]
    | pointer e =>
      simp only [eqD] at h
      split at h
      · exact nilEq_sound hu' hx hy h (.inl ⟨e, rfl, _, rfl⟩) w
      · cases h
    | slice e =>
      simp only [eqD] at h
      split at h
      · exact nilEq_sound hu' hx hy h (.inr (.inl ⟨e, rfl, _, _, _, rfl⟩)) w
      · cases h
    | map k e =>
      simp only [eqD] at h
      split at h
      · exact nilEq_sound hu' hx hy h (.inr (.inr (.inl ⟨k, e, rfl, _, rfl⟩))) w
      · cases h
    | func ps rs va =>
      simp only [eqD] at h
      split at h
      · exact nilEq_sound hu' hx hy h (.inr (.inr (.inr ⟨ps, rs, va, rfl, .inl rfl⟩))) w
      · exact nilEq_sound hu' hx hy h (.inr (.inr (.inr ⟨ps, rs, va, rfl, .inr ⟨_, _, _, rfl⟩⟩))) w
      · cases h
    | struct fs =>
      simp only [eqD] at h
      cases hx <;> try (cases h; done)
      rename_i as bs h1 h2
      cases hy <;> try (cases h; done)
      rename_i cs ds h3 h4
      simp only at h
      cases he : C.eqs.contains t with
      | false => rw [he] at h; cases h
      | true =>
        rw [he] at h
        simp only [cond_true] at h
        have hfs : P.fieldsOf t = fs := by simp [Program.fieldsOf, hu']
        rw [run_equalIn_struct w d t _ _ (by rw [hfs]; exact hu') (hE.stood t he), hfs]
        exact eqFields_sound hC (f := eqv C n) (d := d) (fun t x y x' y' b hx hy hb w => eqv_sound hC hE n d t x y x' y' b (by omega) hx hy hb w) fs.toList as cs ⟨bs⟩ ⟨ds⟩ b ⟨h1, h2⟩ ⟨h3, h4⟩ h w
    | _ => cases h

theorem eqv_agg {n : Nat} {t : TypeId} {xs ys : Array Value} {b : Bool} (h : eqv C (n + 1) t (.agg xs) (.agg ys) = some b) : C.eqs.contains t = true := by
  unfold eqv at h
  cases hu : C.under t with
  | none => rw [hu] at h; cases h
  | some dd =>
    rw [hu] at h
    simp only [Option.bind_some] at h
    cases dd <;> simp only [eqD] at h <;> try (cases h; done)
    cases he : C.eqs.contains t with
    | false => rw [he] at h; cases h
    | true => rfl

theorem eqv_nilIface {n : Nat} {t : TypeId} {y : Value} : eqv C (n + 1) t .nilIface y = none := by
  unfold eqv
  cases hu : C.under t with
  | none => rfl
  | some dd => cases dd <;> rfl

theorem intOp_sound {op : BinOp} {k : IntKind} {a b : Int} {v : Value} (h : intOp op k a b = some v) (w : World) (k' : IntKind) (t : TypeId) (hk : op = .shl ∨ op = .shr ∨ k' = k) :
    (binOp op t (.int k a) (.int k' b)).run P w = .ok v w := by
  have hsame : (op ≠ .shl ∧ op ≠ .shr) → k' = k := by
    rintro ⟨q1, q2⟩
    rcases hk with q | q | q
    · exact absurd q q1
    · exact absurd q q2
    · exact q
  cases op <;> simp only [intOp] at h
  case add => have := hsame (by simp); subst this; simp only [Option.some.injEq] at h; subst h; simp [binOp, Op.intArith, wrapF_eq]
  case sub => have := hsame (by simp); subst this; simp only [Option.some.injEq] at h; subst h; simp [binOp, Op.intArith, wrapF_eq]
  case mul => have := hsame (by simp); subst this; simp only [Option.some.injEq] at h; subst h; simp [binOp, Op.intArith, wrapF_eq]
  case quo =>
    have := hsame (by simp); subst this
    cases hb : decide (b = 0) with
    | true => rw [hb] at h; cases h
    | false =>
      rw [hb] at h
      simp only [cond_false, Option.some.injEq] at h
      subst h
      have := of_decide_eq_false hb
      simp [binOp, Op.intDiv, this, wrapF_eq]
  case rem =>
    have := hsame (by simp); subst this
    cases hb : decide (b = 0) with
    | true => rw [hb] at h; cases h
    | false =>
      rw [hb] at h
      simp only [cond_false, Option.some.injEq] at h
      subst h
      have := of_decide_eq_false hb
      simp [binOp, Op.intDiv, this]
  case eql => have := hsame (by simp); subst this; simp only [Option.some.injEq] at h; subst h; simp [binOp, Op.intCmp]; rfl
  case neq => have := hsame (by simp); subst this; simp only [Option.some.injEq] at h; subst h; simp [binOp, Op.intCmp]; rfl
  case lss => have := hsame (by simp); subst this; simp only [Option.some.injEq] at h; subst h; simp [binOp, Op.intCmp]
  case leq => have := hsame (by simp); subst this; simp only [Option.some.injEq] at h; subst h; simp [binOp, Op.intCmp]
  case gtr => have := hsame (by simp); subst this; simp only [Option.some.injEq] at h; subst h; simp [binOp, Op.intCmp]
  case geq => have := hsame (by simp); subst this; simp only [Option.some.injEq] at h; subst h; simp [binOp, Op.intCmp]
  case and => have := hsame (by simp); subst this; simp only [Option.some.injEq] at h; subst h; rw [bit_and]; simp [binOp, Op.intBits]
  case or => have := hsame (by simp); subst this; simp only [Option.some.injEq] at h; subst h; rw [bit_or]; simp [binOp, Op.intBits]
  case xor => have := hsame (by simp); subst this; simp only [Option.some.injEq] at h; subst h; rw [bit_xor]; simp [binOp, Op.intBits]
  case shl =>
    cases hb : decide (b < 0) with
    | true => rw [hb] at h; cases h
    | false =>
      rw [hb] at h
      simp only [cond_false, Option.some.injEq] at h
      subst h
      have := of_decide_eq_false hb
      simp [binOp, Op.shift, this, wrapF_eq]
  case shr =>
    cases hb : decide (b < 0) with
    | true => rw [hb] at h; cases h
    | false =>
      rw [hb] at h
      simp only [cond_false, Option.some.injEq] at h
      subst h
      have := of_decide_eq_false hb
      have hfd : a.fdiv (2 ^ (min b.toNat k.bits)) = a / (2 ^ (min b.toNat k.bits)) := Int.fdiv_eq_ediv_of_nonneg _ (Int.pow_nonneg (by decide))
      simp [binOp, Op.shift, this, hfd]
  all_goals cases h

theorem strOp_sound {op : BinOp} {a b : ByteArray} {v : Value} (h : strOp op a b = some v) (w : World) (t : TypeId) : (binOp op t (.string a) (.string b)).run P w = .ok v w := by
  have e1 : ∀ x : ByteArray, x.toList = x.data.toList := ByteArray.toList_eq
  cases op <;> simp only [strOp] at h <;> try (cases h; done)
  case add =>
    cases hb : Nat.ble (a.data.size + b.data.size) 4294967296 with
    | false => rw [hb] at h; cases h
    | true =>
      rw [hb] at h
      simp only [cond_true, Option.some.injEq] at h
      subst h
      have hle := Nat.le_of_ble_eq_true hb
      have hn : ¬ (((a.size + b.size : Nat) : Int) > IntKind.i64.max) := by
        have e : a.size + b.size = a.data.size + b.data.size := rfl
        rw [e]
        have e2 : IntKind.i64.max = 9223372036854775807 := by decide
        rw [e2]; omega
      have happ : a ++ b = ⟨⟨a.data.toList ++ b.data.toList⟩⟩ := by
        apply ByteArray.ext
        simp
      simp only [binOp, Op.stringOp]
      rw [if_neg hn, happ]
      rfl
  case eql => simp only [Option.some.injEq] at h; subst h; simp [binOp, Op.stringOp, e1, strEq_iff]
  case neq => simp only [Option.some.injEq] at h; subst h; simp [binOp, Op.stringOp, e1, strEq_iff]
  case lss => simp only [Option.some.injEq] at h; subst h; simp [binOp, Op.stringOp, e1, strLess_iff]
  case leq => simp only [Option.some.injEq] at h; subst h; simp only [binOp, Op.stringOp, e1, strLess_iff, bytesLess_total]; rfl
  case gtr => simp only [Option.some.injEq] at h; subst h; simp only [binOp, Op.stringOp, e1, strLess_iff, bytesLess_total, Bool.not_not]; rfl
  case geq => simp only [Option.some.injEq] at h; subst h; simp [binOp, Op.stringOp, e1, strLess_iff]

theorem intOp_rel {op : BinOp} {k : IntKind} {a b : Int} {v : Value} (h : intOp op k a b = some v) (μ : Mu) : VRel μ v v := by
  cases op <;> simp only [intOp] at h
  all_goals first
    | (cases h; done)
    | (simp only [Option.some.injEq] at h; subst h; first | exact .int _ _ | exact .bool _)
    | skip
  case quo => cases hb : decide (b = 0) <;> rw [hb] at h <;> first | (cases h; done) | (simp only [cond_false, Option.some.injEq] at h; subst h; exact .int _ _)
  case rem => cases hb : decide (b = 0) <;> rw [hb] at h <;> first | (cases h; done) | (simp only [cond_false, Option.some.injEq] at h; subst h; exact .int _ _)
  case shl => cases hb : decide (b < 0) <;> rw [hb] at h <;> first | (cases h; done) | (simp only [cond_false, Option.some.injEq] at h; subst h; exact .int _ _)
  case shr => cases hb : decide (b < 0) <;> rw [hb] at h <;> first | (cases h; done) | (simp only [cond_false, Option.some.injEq] at h; subst h; exact .int _ _)

theorem strOp_rel {op : BinOp} {a b : ByteArray} {v : Value} (h : strOp op a b = some v) (μ : Mu) : VRel μ v v := by
  cases op <;> simp only [strOp] at h
  all_goals first
    | (cases h; done)
    | (simp only [Option.some.injEq] at h; subst h; first | exact .string _ | exact .bool _)
    | skip
  case add => cases hb : Nat.ble (a.data.size + b.data.size) 4294967296 <;> rw [hb] at h <;> first | (cases h; done) | (simp only [cond_true, Option.some.injEq] at h; subst h; exact .string _)

theorem eqv_agg2 {C : Ctx} {d : Nat} {t : TypeId} {cs : Array Value} {y : Value} {b : Bool} (h : eqv C d t (.agg cs) y = some b) : ∃ ys, y = .agg ys := by
  cases d with
  | zero => cases h
  | succ d =>
    simp only [eqv] at h
    obtain ⟨dd, _, h⟩ := Option.bind_eq_some_iff.1 h
    cases dd <;> simp only [eqD] at h <;> try (cases h; done)
    all_goals first
      | (simp [factB, flatV] at h; done)
      | (cases y <;> first | exact ⟨_, rfl⟩ | cases h)

theorem eqB_sound (hC : C.Ok P) (hE : C.EqOk P) (h : Rel B w0 μ m w) {op : BinOp} {t : TypeId} {xo yo : Operand} {x y x' y' v : Value} (hx : VRel μ x x') (hy : VRel μ y y') (hp : eqB C op t x y = some v)
    (hni : ∀ k a, x ≠ .int k a) (hns : ∀ s, x ≠ .string s) (hna : ∀ j i l, x ≠ .pointer (some ⟨j, i, some l⟩)) :
    OpRes P B w0 μ m (do eqGuard op t xo yo x' y'; binOp op t x' y') w v m := by
  obtain ⟨b, he, hop⟩ : ∃ b, eqv C 20 t x y = some b ∧ ((op = .eql ∧ v = .bool b) ∨ (op = .neq ∧ v = .bool (!b))) := by
    cases op <;> simp only [eqB] at hp <;> try (cases hp; done)
    all_goals
      cases he : eqv C 20 t x y with
      | none => rw [he] at hp; cases hp
      | some b =>
        rw [he] at hp
        simp only [Option.bind_some, Option.some.injEq] at hp
        first | exact ⟨b, rfl, .inl ⟨rfl, hp.symm⟩⟩ | exact ⟨b, rfl, .inr ⟨rfl, hp.symm⟩⟩
  have hrun := eqv_sound (P := P) hC hE 20 10000 t x y x' y' b (by omega) hx hy he w
  have hg : (eqGuard op t xo yo x' y').run P w = .ok () w := by
    cases hx with
    | agg h1 h2 =>
      cases hy with
      | agg h3 h4 => exact run_eqGuard_agg w op t xo yo _ _ (hE.guard t (eqv_agg he))
      | atom j => rcases Atoms.flat j with ⟨k, n, e⟩ | ⟨s, e⟩ <;> rw [e] <;> rcases hop with ⟨rfl, _⟩ | ⟨rfl, _⟩ <;> simp [eqGuard]
      | junk v => obtain ⟨ys, e⟩ := eqv_agg2 he; cases e
      | _ => rcases hop with ⟨rfl, _⟩ | ⟨rfl, _⟩ <;> simp [eqGuard]
    | nilIface => rw [eqv_nilIface] at he; cases he
    | atom j => exact absurd rfl (hna j 0 0)
    | junk v => exact absurd rfl (hna 0 1 0)
    | _ => rcases hop with ⟨rfl, _⟩ | ⟨rfl, _⟩ <;> simp [eqGuard]
  have hb : (binOp op t x' y').run P w = .ok v w := by
    cases hx with
    | int k n => exact absurd rfl (hni k n)
    | string s => exact absurd rfl (hns s)
    | atom j => exact absurd rfl (hna j 0 0)
    | junk v => exact absurd rfl (hna 0 1 0)
    | _ => rcases hop with ⟨rfl, rfl⟩ | ⟨rfl, rfl⟩ <;> simp [binOp, Op.equal, Op.maxDepth, hrun]
  refine ⟨v, w, ?_, .same h ?_⟩
  · simp only [Sem.run_bind, hg, Result.andThen_ok, hb]
  · rcases hop with ⟨_, rfl⟩ | ⟨_, rfl⟩ <;> exact .bool _

theorem fact_sound (hC : C.Ok P) (h : Rel B w0 μ m w) {op : BinOp} {t : TypeId} {xo yo : Operand} {x y x' y' v : Value} (hx : VRel μ x x') (hy : VRel μ y y') (hp : C.fact op x y = some v) :
    OpRes P B w0 μ m (do eqGuard op t xo yo x' y'; binOp op t x' y') w v m := by
  obtain ⟨x1, y1, r1, r2, hh⟩ := hC.facts _ _ _ _ hp
  rw [r1 μ x' hx, r2 μ y' hy]
  rcases hh with ⟨k, a, b, rfl, rfl, h1⟩ | ⟨s, u, rfl, rfl, h1⟩
  · have hg : (eqGuard op t xo yo (.int k a) (.int k b)).run P w = .ok () w := by cases op <;> simp [eqGuard]
    refine ⟨v, w, ?_, .same h (intOp_rel h1 μ)⟩
    simp only [Sem.run_bind, hg, Result.andThen_ok]
    exact intOp_sound h1 w k t (.inr (.inr rfl))
  · have hg : (eqGuard op t xo yo (.string s) (.string u)).run P w = .ok () w := by cases op <;> simp [eqGuard]
    refine ⟨v, w, ?_, .same h (strOp_rel h1 μ)⟩
    simp only [Sem.run_bind, hg, Result.andThen_ok]
    exact strOp_sound h1 w t

theorem binV_sound (hC : C.Ok P) (hE : C.EqOk P) (h : Rel B w0 μ m w) {op : BinOp} {t : TypeId} {xo yo : Operand} {x y x' y' v : Value} (hx : VRel μ x x') (hy : VRel μ y y') (hp : binV C op t x y = some v) :
    OpRes P B w0 μ m (do eqGuard op t xo yo x' y'; binOp op t x' y') w v m := by
  unfold binV at hp
  split at hp
  · -- numbers
    rename_i k a
    split at hp
    · rename_i k' b
      cases hx; cases hy
      have hg : (eqGuard op t xo yo (.int k a) (.int k' b)).run P w = .ok () w := by cases op <;> simp [eqGuard]
      obtain ⟨h1, h2⟩ : intOp op k a b = some v ∧ (op = .shl ∨ op = .shr ∨ k' = k) := by
        unfold intB at hp
        split at hp
        · exact ⟨hp, .inl rfl⟩
        · exact ⟨hp, .inr (.inl rfl)⟩
        · cases hd : decide (k = k') with
          | false => rw [hd] at hp; cases hp
          | true => rw [hd] at hp; exact ⟨hp, .inr (.inr (of_decide_eq_true hd).symm)⟩
      refine ⟨v, w, ?_, .same h (intOp_rel h1 μ)⟩
      simp only [Sem.run_bind, hg, Result.andThen_ok]
      exact intOp_sound h1 w k' t h2
    · exact fact_sound hC h hx hy hp
  · -- strings
    rename_i a
    split at hp
    · rename_i b
      cases hx; cases hy
      have hg : (eqGuard op t xo yo (.string a) (.string b)).run P w = .ok () w := by cases op <;> simp [eqGuard]
      refine ⟨v, w, ?_, .same h (strOp_rel hp μ)⟩
      simp only [Sem.run_bind, hg, Result.andThen_ok]
      exact strOp_sound hp w t
    · exact fact_sound hC h hx hy hp
  · exact fact_sound hC h hx hy hp
  · rename_i hni hns hna
    exact eqB_sound hC hE h hx hy hp (fun k a e => hni k a e) (fun s e => hns s e) (fun j i l e => hna j i l e)

end
end Go.Ev
