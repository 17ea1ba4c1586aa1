/- A part of an evaluator of the model and of the proof that what it answers the model does; no condition. -/
import Derived.Test.YtcjmogljihkfnaaEvRelD
set_option linter.unusedVariables false
set_option linter.unusedSimpArgs false
namespace Go.Ev
set_option linter.unusedSectionVars false
variable [Atoms]
open Go.RowKit (Below)

def Sim (B : Nat) (w0 : World) (μ : Mu) (m : Mem) (v : Value) (m' : Mem) (v' : Value) (w' : World) : Prop :=
  ∃ μ', VRel μ' v v' ∧ Rel B w0 μ' m' w' ∧ Ext μ m μ' m'

theorem Val.cells_eq (v : Value) : Val.cells v = v.cells.toList := by cases v <;> rfl

section
variable {B : Nat} {w0 : World} {μ : Mu} {m : Mem} {w : World}

theorem Rel.drew (h : Rel B w0 μ m w) : Rel B w0 μ m w.drew where
  below := h.below.drew
  base := h.base
  dom := h.dom
  obj o l e := (h.obj o l e).mono (Mu.le_refl μ) (show w.drew.heap[l.blk]? = w.heap[l.blk]? from rfl)
  sep := h.sep

theorem Rel.bind_cells (h : Rel B w0 μ m w) {o : Nat} (ho : o < m.next) (hn : μ o = none) {vs : List Value} {e : Nat} {st : Stat} (hget : m.get o = some (.cells vs e st))
    (hgrp : ∀ g, st.grp = some g → g < m.next) {w' : World} (hw : Below w.heap.size w w') (hh : w'.heap.size = w.heap.size + 1) {c : Array Value} {el : TypeId} {fz : Nat × Nat}
    (hx : w'.heap[w.heap.size]? = some (.cells c el fz)) (hfz : ∀ i : Nat, i < c.size → ¬ (fz.1 ≤ i ∧ i < fz.2)) (hlen : vs.length ≤ c.size)
    (hrel : ∀ (i : Nat) (v : Value), vs[i]? = some v → ∃ v', c[i]? = some v' ∧ VRel μ v v') : Rel B w0 (μ.set o ⟨w.heap.size, 0, e, c.size⟩) m w' := by
  refine h.bind ho hn hw hh rfl ?_
  rw [hget]
  refine ⟨rfl, hgrp, c, el, fz, hx, rfl, by simpa using hlen, fun _ => ⟨h.base, hfz⟩, fun _ i v hv => ?_⟩
  obtain ⟨v', h1, h2⟩ := hrel i v hv
  exact ⟨v', by simpa using h1, h2.mono (Mu.le_set _ hn)⟩

theorem Ext.set {o : Nat} {l : Loc} (h1 : m.next ≤ o) {m' : Mem} (hm : Ext μ m μ m') (hn : μ o = none) : Ext μ m (μ.set o l) m' where
  next := hm.next
  mu k hk := by rw [Mu.set_other _ _ (by omega)]
  frame := hm.frame
  grow := Mu.le_set l hn

/-- a new object in a new block -/
theorem Rel.alloc_cells (h : Rel B w0 μ m w) {vs cs : List Value} (hr : LRel μ vs (cs.take vs.length)) (hlen : vs.length ≤ cs.length) (e : Nat) {st : Stat} (hgrp : ∀ g, st.grp = some g → g < m.next) (el : TypeId) :
    Rel B w0 (μ.set m.next ⟨w.heap.size, 0, e, cs.length⟩) (m.new (.cells vs e st)) (w.alloc (.cells ⟨cs⟩ el)) ∧
    Ext μ m (μ.set m.next ⟨w.heap.size, 0, e, cs.length⟩) (m.new (.cells vs e st)) := by
  have hn := h.unnamed (Nat.le_refl m.next)
  refine ⟨?_, Ext.set (Nat.le_refl _) Ext.new hn⟩
  refine (h.new_obj (.cells vs e st)).bind_cells (o := m.next) (by simp) hn (by rw [Mem.get_new, if_pos rfl]) (fun g hg => by have := hgrp g hg; simp; omega) (below_alloc w _) (by simp) (c := ⟨cs⟩) (heap_alloc_new w _)
    (by intro i _; simp) (by simpa using hlen) ?_
  intro i v hv
  obtain ⟨v', h1, h2⟩ := hr.get hv
  refine ⟨v', ?_, h2⟩
  rw [List.getElem?_take] at h1
  split at h1
  · simpa using h1
  · cases h1

theorem Rel.alloc_var (h : Rel B w0 μ m w) {v v' : Value} (hv : VRel μ v v') (e : Nat) (el : TypeId) :
    Sim B w0 μ m (ptr m.next 0) (m.new (.cells (Val.cells v) e .sole)) (.pointer (some ⟨w.heap.size, 0, none⟩)) (w.alloc (.cells v'.cells el)) := by
  have hc := hv.cells
  obtain ⟨h1, h2⟩ := h.alloc_cells (vs := Val.cells v) (cs := v'.cells.toList) (by rw [hc.len, List.take_length]; exact hc) (by rw [hc.len]; exact Nat.le_refl _) e (st := .sole) (fun g hg => by cases hg) el
  refine ⟨_, ?_, h1, h2⟩
  exact .ptr (l := ⟨w.heap.size, 0, e, _⟩) (Mu.set_same _ _ _)

theorem growBy_le (N : Nat) : ∀ (r c : Nat), c ≤ 2 * N + 1024 → Builtin.growBy N r c ≤ 2 * N + 1024
  | 0, c, h => by simpa [Builtin.growBy] using h
  | r + 1, c, h => by
    unfold Builtin.growBy
    split
    · exact h
    · exact growBy_le N r _ (by omega)
theorem nextslicecap_le {N old : Nat} (h : old < N) : Builtin.nextslicecap N old ≤ 2 * N + 1024 := by
  unfold Builtin.nextslicecap
  split
  · omega
  · split
    · omega
    · exact growBy_le N 4 old (by omega)

theorem zeroCells_length (z : Array Value) (n : Nat) : (Builtin.zeroCells z n).size = n * z.size := by simp [Builtin.zeroCells]

structure ElemInfo (P : Program) (st : TypeId) (esz : Nat) (e : TypeId) (i : TypeInfo) (z : Value) : Prop where
  ty : P.underlying st = some (.slice e)
  info : P.info? e = some i
  zero : i.zero = some z
  size : i.size = esz
  zsize : z.cells.size = esz
  pos : 1 ≤ esz
  bytes : i.bytes ≤ 65536
  small : esz < UNK

def plain1 : Value → Bool
  | .bool _ | .int _ _ | .string _ | .pointer none | .slice none 0 0 | .map none | .nilFunc | .nilIface => true
  | .func _ a b => a.toList.isEmpty && b.toList.isEmpty
  | _ => false

def plainV : Value → Bool
  | .agg cs => cs.toList.all plain1
  | .tuple cs => cs.toList.all plain1
  | v => plain1 v

theorem plain1_rel {v : Value} (h : plain1 v = true) (μ : Mu) : VRel μ v v := by
  cases v with
  | bool b => exact .bool b
  | int k n => exact .int k n
  | string s => exact .string s
  | pointer a => cases a <;> first | exact .pnil | cases h
  | slice a n c => cases a <;> cases n <;> cases c <;> first | exact .snil | cases h
  | map r => cases r <;> first | exact .mnil | cases h
  | func fn a b =>
    obtain ⟨a⟩ := a; obtain ⟨b⟩ := b
    simp only [plain1, Bool.and_eq_true, List.isEmpty_iff] at h
    obtain ⟨rfl, rfl⟩ := h
    exact .func rfl (fun i u v h => by simp at h) rfl (fun i u v h => by simp at h)
  | nilFunc => exact .nilFunc
  | nilIface => exact .nilIface
  | _ => cases h

theorem plainV_rel {v : Value} (h : plainV v = true) (μ : Mu) : VRel μ v v := by
  cases v with
  | agg cs => exact .agg' (LRel.same fun u hu => plain1_rel (List.all_eq_true.1 h u hu) μ)
  | tuple cs => exact .tuple' (LRel.same fun u hu => plain1_rel (List.all_eq_true.1 h u hu) μ)
  | _ => exact plain1_rel (by simpa only [plainV] using h) μ

/-- what a value stands for -/
def Res (x x1 : Value) : Prop := ∀ μ x', VRel μ x x' → x' = x1

structure Ctx.Ok (C : Ctx) (P : Program) : Prop where
  facts : ∀ op x y v, C.fact op x y = some v → ∃ x1 y1, Res x x1 ∧ Res y y1 ∧ ((∃ k m n, x1 = .int k m ∧ y1 = .int k n ∧ intOp op k m n = some v) ∨ ∃ s t, x1 = .string s ∧ y1 = .string t ∧ strOp op s t = some v)
  kinds : ∀ j b, C.kind j = some b → (b = true → ∃ s, Atoms.val j = .string s) ∧ (b = false → ∃ k n, Atoms.val j = .int k n)
  lens : ∀ j v, C.len j = some v → ∃ s : ByteArray, Atoms.val j = .string s ∧ ∀ μ, VRel μ v (.int .i64 s.data.size)
  types : ∀ t i, C.types.get t = some i → P.info? t = some i
  zero : ∀ t i z, C.types.get t = some i → i.zero = some z → plainV z = true

theorem Ctx.Ok.info {C : Ctx} {P : Program} (hC : C.Ok P) {t : TypeId} {i : TypeInfo} (h : C.info t = some i) : P.info? t = some i := hC.types t i h
theorem Ctx.Ok.zeroRel {C : Ctx} {P : Program} (hC : C.Ok P) {t : TypeId} {i : TypeInfo} {z : Value} (h : C.info t = some i) (hz : i.zero = some z) (μ : Mu) : VRel μ z z :=
  plainV_rel (hC.zero t i z h hz) μ
theorem Ctx.Ok.under {C : Ctx} {P : Program} (hC : C.Ok P) {t : TypeId} {d : TypeDesc} (h : C.under t = some d) : P.underlying t = some d := by
  unfold Ctx.under at h
  unfold Program.underlying
  cases ht : C.types.get t with
  | none => rw [ht] at h; cases h
  | some i =>
    rw [ht] at h
    rw [hC.types t i ht]
    obtain ⟨desc, _⟩ := i
    cases desc with
    | named n u =>
      simp only at h ⊢
      cases hu : C.types.get u with
      | none => rw [hu] at h; cases h
      | some j =>
        rw [hu] at h
        rw [hC.types u j hu]
        exact h
    | _ => exact h
theorem Ctx.Ok.size {C : Ctx} {P : Program} (hC : C.Ok P) {t : TypeId} {n : Nat} (h : C.size t = some n) : ∃ i, P.info? t = some i ∧ i.size = n := by
  unfold Ctx.size at h
  cases ht : C.types.get t with
  | none => rw [ht] at h; cases h
  | some i =>
    rw [ht] at h
    simp only [Option.some.injEq] at h
    exact ⟨i, hC.types t i ht, h⟩

theorem elemSz_info {C : Ctx} {P : Program} (hC : C.Ok P) {st : TypeId} {esz : Nat} (h : elemSz C st = some esz) : ∃ e i z, ElemInfo P st esz e i z := by
  unfold elemSz sliceElem at h
  cases hu : C.under st with
  | none => rw [hu] at h; cases h
  | some d =>
    rw [hu] at h
    cases d <;> try (cases h; done)
    rename_i e
    simp only [Option.bind_some] at h
    cases hi : C.info e with
    | none => rw [hi] at h; cases h
    | some i =>
      rw [hi] at h
      simp only [Option.bind_some] at h
      cases hz : i.zero with
      | none => rw [hz] at h; cases h
      | some z =>
        rw [hz] at h
        simp only [Option.bind_some] at h
        cases hc : (Nat.beq (Val.cells z).length i.size && Nat.ble 1 i.size && Nat.ble i.bytes 65536 && Nat.ble i.size 65536) with
        | false => rw [hc] at h; cases h
        | true =>
          rw [hc] at h
          simp only [cond_true, Option.some.injEq] at h
          subst h
          rw [Bool.and_eq_true, Bool.and_eq_true, Bool.and_eq_true] at hc
          have h1 := Nat.eq_of_beq_eq_true hc.1.1.1
          have h2 := Nat.le_of_ble_eq_true hc.2
          rw [Val.cells_eq] at h1
          exact ⟨e, i, z, hC.under hu, hC.info hi, hz, rfl, by simpa using h1, Nat.le_of_ble_eq_true hc.1.1.2, Nat.le_of_ble_eq_true hc.1.2, Nat.lt_of_le_of_lt h2 (by decide)⟩

/-- the source of an append or a copy -/
theorem src_sound {C : Ctx} {P : Program} (hC : C.Ok P) (h : Rel B w0 μ m w) {esz n : Nat} {xt : TypeId} {x x' : Value} {new : List Value} (hok : srcOk C xt = true) (hx : VRel μ x x') (hn : lenV x = some n)
    (hs : srcCells esz n x m = some new) (hc : new.all isCell = true) : ∃ new', LRel μ new new' ∧ Src P esz xt x' n new' w := by
  unfold srcOk at hok
  cases hx with
  | string s =>
    have hn' : s.data.size = n := by simpa [lenV] using hn
    subst hn'
    simp only [srcCells] at hs
    cases hb : Nat.beq esz 1 with
    | false => rw [hb] at hs; cases hs
    | true =>
      have := Nat.eq_of_beq_eq_true hb
      subst this
      simp only [hb, Bool.true_and, Nat.beq_refl, cond_true, Option.some.injEq] at hs
      subst hs
      refine ⟨byteCells s, LRel.same ?_, ?_⟩
      · intro u hu
        obtain ⟨b, _, rfl⟩ := List.mem_map.1 hu
        exact .int _ _
      · cases hu : C.under xt with
        | none => rw [hu] at hok; cases hok
        | some d =>
          rw [hu] at hok
          cases d <;> try (cases hok; done)
          · exact Src.ofString w (hC.under hu) s
          · rename_i e'
            have := Src.ofString (P := P) w (tx := xt)
            exact ⟨.inl ⟨e', hC.under hu⟩, fun _ => rfl, firstCells_string s w, firstCells_string s w.drew, by rw [byteCells_length, Nat.mul_one]; rfl, fun u hu => by
              obtain ⟨_, _, rfl⟩ := List.mem_map.1 hu
              rfl⟩
  | snil =>
    simp only [lenV, Option.some.injEq] at hn
    subst hn
    simp only [srcCells, Nat.beq_refl, cond_true, Option.some.injEq] at hs
    subst hs
    refine ⟨[], .nil, ?_⟩
    refine ⟨?_, fun _ => rfl, run_firstCells_none w esz 0 0 0, run_firstCells_none w.drew esz 0 0 0, by simp, fun _ h => by cases h⟩
    cases hu : C.under xt with
    | none => rw [hu] at hok; cases hok
    | some d =>
      rw [hu] at hok
      cases d <;> first | (cases hok; done) | exact .inr (hC.under hu) | exact .inl ⟨_, hC.under hu⟩
  | semp =>
    rename_i a a' c'
    simp only [lenV, Option.some.injEq] at hn
    subst hn
    simp only [srcCells, Nat.beq_refl, cond_true, Option.some.injEq] at hs
    subst hs
    refine ⟨[], .nil, ?_, fun _ => rfl, run_firstCells_some w esz 0 a' 0 c' [] (by simp) (by simp), run_firstCells_some w.drew esz 0 a' 0 c' [] (by simp) (by simp), by simp, fun _ h => by cases h⟩
    cases hu : C.under xt with
    | none => rw [hu] at hok; cases hok
    | some d =>
      rw [hu] at hok
      cases d <;> first | (cases hok; done) | exact .inr (hC.under hu) | exact .inl ⟨_, hC.under hu⟩
  | slice hl h1 h2 =>
    rename_i o off k c c' l
    simp only [lenV, Option.some.injEq] at hn
    subst hn
    have kind : (∃ e', P.underlying xt = some (.slice e')) ∨ P.underlying xt = some .string := by
      cases hu : C.under xt with
      | none => rw [hu] at hok; cases hok
      | some d =>
        rw [hu] at hok
        cases d <;> first | (cases hok; done) | exact .inr (hC.under hu) | exact .inl ⟨_, hC.under hu⟩
    simp only [srcCells] at hs
    cases hb : Nat.beq k 0 with
    | true =>
      have := Nat.eq_of_beq_eq_true hb
      subst this
      simp only [hb, cond_true, Option.some.injEq] at hs
      subst hs
      exact ⟨[], .nil, kind, fun _ => rfl, run_firstCells_some w esz 0 _ 0 c' [] (by simp) (by simp), run_firstCells_some w.drew esz 0 _ 0 c' [] (by simp) (by simp), by simp, fun _ h => by cases h⟩
    | false =>
      simp only [hb, cond_false] at hs
      obtain ⟨cs', hr, hlen, hcell⟩ := h.load hl hs
      have hl' : cs'.length = k * esz := by rw [← hr.len]; exact hlen
      have hcell' : ∀ (j : Nat) (u : Value), cs'[j]? = some u → w.cell? (Addr.add ⟨l.blk, l.base + off, none⟩ j) = some u := fun j u hu => by rw [addr_add]; exact hcell j u hu
      exact ⟨cs', hr, kind, fun _ => rfl, run_firstCells_some w esz k _ k c' cs' hl' hcell', run_firstCells_some w.drew esz k _ k c' cs' hl' (by simpa using hcell'), hl', fun u hu => hr.isCell hc u hu⟩
  | _ => cases hn

end
end Go.Ev
