/- A part of an evaluator of the model and of the proof that what it answers the model does; no condition. -/
import Derived.Test.YtcjmogljihkfnaaEvRel
set_option linter.unusedVariables false
set_option linter.unusedSimpArgs false
namespace Go.Ev
set_option linter.unusedSectionVars false
variable [Atoms]
open Go.RowKit (Below)

theorem splice_length (vs new : List Value) (off : Nat) (h : off + new.length ≤ vs.length) : (splice vs off new).length = vs.length := by
  unfold splice; simp; omega
theorem splice_get (vs new : List Value) (off i : Nat) (h : off + new.length ≤ vs.length) :
    (splice vs off new)[i]? = if off ≤ i ∧ i < off + new.length then new[i - off]? else vs[i]? := by
  unfold splice
  by_cases h1 : i < off
  · rw [if_neg (by omega), List.append_assoc, List.getElem?_append_left (by simp; omega), List.getElem?_take, if_pos h1]
  · by_cases h2 : i < off + new.length
    · rw [if_pos ⟨by omega, h2⟩, List.append_assoc, List.getElem?_append_right (by simp; omega), List.getElem?_append_left (by simp; omega)]
      congr 1; simp; omega
    · rw [if_neg (by omega), List.getElem?_append_right (by simp; omega), List.getElem?_drop]
      congr 1; simp; omega

section
variable {B : Nat} {w0 : World} {μ : Mu} {m : Mem} {w : World}

theorem alive_put_other {m : Mem} {o : Nat} {x : AObj} {st : Stat} (h : ∀ g, st.grp = some g → g ≠ o) : (m.put o x).alive st = m.alive st := by
  cases st with
  | ro => rfl
  | sole => rfl
  | tip g => simp only [Mem.alive]; rw [Mem.get_put, if_neg (h g rfl)]
  | old g => simp only [Mem.alive]; rw [Mem.get_put, if_neg (h g rfl)]
theorem alive_new_old {m : Mem} {x : AObj} {st : Stat} (h : ∀ g, st.grp = some g → g < m.next) : (m.new x).alive st = m.alive st := by
  cases st with
  | ro => rfl
  | sole => rfl
  | tip g => simp only [Mem.alive]; rw [Mem.get_new, if_neg (by have := h g rfl; omega)]
  | old g => simp only [Mem.alive]; rw [Mem.get_new, if_neg (by have := h g rfl; omega)]
theorem alive_grp {m : Mem} {st : Stat} (h : m.alive st = true) {g : Nat} (hg : st.grp = some g) : m.get g = some (.group true) := by
  cases st with
  | ro => cases hg
  | sole => cases hg
  | tip k =>
    cases hg
    simp only [Mem.alive] at h
    split at h
    · assumption
    · cases h
  | old k =>
    cases hg
    simp only [Mem.alive] at h
    split at h
    · assumption
    · cases h
theorem alive_of_grp {m : Mem} {st : Stat} {g : Nat} (hg : st.grp = some g) (h : m.get g = some (.group true)) : m.alive st = true := by
  cases st with
  | ro => cases hg
  | sole => cases hg
  | tip k => cases hg; simp only [Mem.alive, h]
  | old k => cases hg; simp only [Mem.alive, h]
theorem dead_of_grp {m : Mem} {st : Stat} {g : Nat} (hg : st.grp = some g) (h : m.get g = some (.group false)) : m.alive st = false := by
  cases st with
  | ro => cases hg
  | sole => cases hg
  | tip k => cases hg; simp only [Mem.alive, h]
  | old k => cases hg; simp only [Mem.alive, h]

theorem Rel.mapped (h : Rel B w0 μ m w) {o : Nat} {l : Loc} (ho : μ o = some l) : ∀ a : Bool, m.get o ≠ some (.group a) := by
  intro a e
  have := h.obj o l ho
  rw [e] at this
  exact this

/-- the memory turns where nothing has a name, and what lives was alive -/
theorem Rel.weaken (h : Rel B w0 μ m w) {m' : Mem} (hn : m.next ≤ m'.next) (hg : ∀ o l, μ o = some l → m'.get o = m.get o)
    (ha : ∀ st : Stat, (∀ g, st.grp = some g → g < m.next) → m'.alive st = true → m.alive st = true) : Rel B w0 μ m' w where
  below := h.below
  base := h.base
  dom o l e := ⟨Nat.lt_of_lt_of_le (h.dom o l e).1 hn, (h.dom o l e).2⟩
  obj o l e := by
    rw [hg o l e]
    have hob := h.obj o l e
    cases hobj : m.get o with
    | none => rw [hobj] at hob; exact hob
    | some x =>
      rw [hobj] at hob
      cases x with
      | cells vs e st =>
        obtain ⟨c, el, fz, h1, h2, h3, h4, h5⟩ := hob.blk
        exact ⟨hob.esz, fun g hg => Nat.lt_of_lt_of_le (hob.grp g hg) hn, c, el, fz, h1, h2, h3, h4, fun hal => h5 (ha st hob.grp hal)⟩
      | map es k => exact hob
      | group a => exact hob
  sep o1 o2 l1 l2 hne e1 e2 hb := by
    rw [hg o1 l1 e1, hg o2 l2 e2]
    have hs := h.sep o1 o2 l1 l2 hne e1 e2 hb
    have k1 := h.obj o1 l1 e1
    have k2 := h.obj o2 l2 e2
    cases hx : m.get o1 with
    | none => rw [hx] at k1; exact k1.elim
    | some x =>
      cases hy : m.get o2 with
      | none => rw [hy] at k2; exact k2.elim
      | some y =>
        rw [hx] at k1 hs; rw [hy] at k2 hs
        cases x with
        | cells vs1 e1 st1 =>
          cases y with
          | cells vs2 e2 st2 => exact fun a1 a2 => hs (ha st1 k1.grp a1) (ha st2 k2.grp a2)
          | map es k => exact hs
          | group a => exact hs
        | map es k => exact hs
        | group a => exact hs

theorem Rel.unnamed (h : Rel B w0 μ m w) {o : Nat} (ho : m.next ≤ o) : μ o = none := by
  cases e : μ o with
  | none => rfl
  | some l => have := (h.dom o l e).1; omega

/-- a new object without a name -/
theorem Rel.new_obj (h : Rel B w0 μ m w) (x : AObj) : Rel B w0 μ (m.new x) w :=
  h.weaken (by simp) (fun o l e => by rw [Mem.get_new, if_neg (by have := (h.dom o l e).1; omega)]) fun st hst ha => by
    rwa [alive_new_old hst] at ha

/-- a group dies -/
theorem Rel.kill (h : Rel B w0 μ m w) {g : Nat} (hg : ∃ a, m.get g = some (.group a)) : Rel B w0 μ (m.put g (.group false)) w :=
  h.weaken (by simp) (fun o l e => by
    rw [Mem.get_put, if_neg]
    rintro rfl
    obtain ⟨a, ha⟩ := hg
    exact h.mapped e a ha) fun st hst ha => by
    cases hs : st.grp with
    | none => cases st <;> first | rfl | cases hs
    | some k =>
      by_cases hk : k = g
      · subst hk
        rw [dead_of_grp hs (by rw [Mem.get_put, if_pos rfl])] at ha
        cases ha
      · rwa [alive_put_other (fun g' hg' => by rw [hs] at hg'; cases hg'; exact hk)] at ha

def Mu.set (μ : Mu) (o : Nat) (l : Loc) : Mu := fun k => if k = o then some l else μ k
theorem Mu.set_same (μ : Mu) (o : Nat) (l : Loc) : μ.set o l o = some l := by simp [Mu.set]
theorem Mu.set_other (μ : Mu) {o k : Nat} (l : Loc) (h : k ≠ o) : μ.set o l k = μ k := by simp [Mu.set, h]
theorem Mu.le_set {μ : Mu} {o : Nat} (l : Loc) (h : μ o = none) : Mu.le μ (μ.set o l) := fun k l' e => by
  rw [Mu.set_other]; exact e
  rintro rfl; rw [h] at e; cases e

theorem ObjRel.mono {μ ν : Mu} (hle : Mu.le μ ν) {w w' : World} {l : Loc} {x : Option AObj} (hb : w'.heap[l.blk]? = w.heap[l.blk]?) (h : ObjRel B μ m w l x) : ObjRel B ν m w' l x := by
  cases x with
  | none => exact h
  | some x =>
    cases x with
    | cells vs e st =>
      obtain ⟨c, el, fz, h1, h2, h3, h4, h5⟩ := h.blk
      exact ⟨h.esz, h.grp, c, el, fz, hb.trans h1, h2, h3, h4, fun ha i v hv => let ⟨v', a, b⟩ := h5 ha i v hv; ⟨v', a, b.mono hle⟩⟩
    | map es k =>
      obtain ⟨fs, ck, h1, h2⟩ := h.blk
      exact ⟨h.own, fs, ck, hb.trans h1, h2.len, fun i k v e a b => let ⟨x, y⟩ := h2.rel i k v e a b; ⟨x.mono hle, y.mono hle⟩⟩
    | group a => exact h

/-- an object without a name gets one: a new block -/
theorem Rel.bind (h : Rel B w0 μ m w) {o : Nat} (ho : o < m.next) (hn : μ o = none) {w' : World} (hw : Below w.heap.size w w') (hh : w'.heap.size = w.heap.size + 1)
    {l : Loc} (hl : l.blk = w.heap.size)
    (hob : ObjRel B (μ.set o l) m w' l (m.get o)) : Rel B w0 (μ.set o l) m w' where
  below := h.below.trans (hw.mono h.base)
  base := by have := h.base; omega
  dom k lk e := by
    by_cases hk : k = o
    · subst hk; rw [Mu.set_same] at e; cases e; exact ⟨ho, by omega⟩
    · rw [Mu.set_other _ _ hk] at e; have := h.dom k lk e; exact ⟨this.1, by omega⟩
  obj k lk e := by
    by_cases hk : k = o
    · subst hk; rw [Mu.set_same] at e; cases e; exact hob
    · rw [Mu.set_other _ _ hk] at e
      exact (h.obj k lk e).mono (Mu.le_set l hn) (hw.block _ (h.dom k lk e).2)
  sep o1 o2 l1 l2 hne e1 e2 hb := by
    by_cases h1 : o1 = o
    · subst h1
      rw [Mu.set_same] at e1; cases e1
      rw [Mu.set_other _ _ (fun e => hne e.symm)] at e2
      have := (h.dom o2 l2 e2).2; omega
    · by_cases h2 : o2 = o
      · subst h2
        rw [Mu.set_same] at e2; cases e2
        rw [Mu.set_other _ _ h1] at e1
        have := (h.dom o1 l1 e1).2; omega
      · rw [Mu.set_other _ _ h1] at e1; rw [Mu.set_other _ _ h2] at e2
        exact h.sep o1 o2 l1 l2 hne e1 e2 hb

theorem below_alloc (w : World) (x : Obj) : Below w.heap.size w (w.alloc x) := (Below.refl _ _).alloc (Nat.le_refl _) x
theorem heap_alloc_new (w : World) (x : Obj) : (w.alloc x).heap[w.heap.size]? = some x := by
  show (w.heap.push x)[w.heap.size]? = some x
  simp

/-- a load -/
theorem Rel.load (h : Rel B w0 μ m w) {o off n : Nat} {l : Loc} {cs : List Value} (hl : μ o = some l) (hc : m.loadN o off n = some cs) :
    ∃ cs', LRel μ cs cs' ∧ cs.length = n ∧ ∀ (j : Nat) (v' : Value), cs'[j]? = some v' → w.cell? ⟨l.blk, l.base + off + j, none⟩ = some v' := by
  unfold Mem.loadN Mem.cells at hc
  have hob := h.obj o l hl
  cases hx : m.get o with
  | none => rw [hx] at hc; cases hc
  | some x =>
    rw [hx] at hc hob
    cases x with
    | cells vs e st =>
      obtain ⟨c, el, fz, h1, h2, h3, h4, h5⟩ := hob.blk
      simp only at hc
      cases hal : m.alive st with
      | false => rw [hal] at hc; cases hc
      | true =>
        rw [hal] at hc
        simp only [cond_true, Option.bind_some] at hc
        cases hle : Nat.ble (off + n) vs.length with
        | false => rw [hle] at hc; cases hc
        | true =>
          rw [hle] at hc
          simp only [cond_true, Option.some.injEq] at hc
          have hle' : off + n ≤ vs.length := Nat.le_of_ble_eq_true hle
          have hrel := h5 hal
          refine ⟨(c.toList.drop (l.base + off)).take n, ⟨?_, ?_⟩, ?_, ?_⟩
          · subst hc; simp; omega
          · intro i u v hu hv
            subst hc
            rw [List.getElem?_take] at hu hv
            split at hu
            · rename_i hi
              rw [if_pos hi] at hv
              rw [List.getElem?_drop] at hu hv
              obtain ⟨v', hv', hr⟩ := hrel _ _ hu
              rw [show l.base + off + i = l.base + (off + i) from by omega] at hv
              rw [← Array.getElem?_toList] at hv'
              rw [hv'] at hv
              cases hv
              exact hr
            · cases hu
          · subst hc; simp; omega
          · intro j v' hv
            rw [List.getElem?_take] at hv
            split at hv
            · rw [List.getElem?_drop, Array.getElem?_toList] at hv
              simp only [World.cell?, h1]
              simpa using hv
            · cases hv
    | map es k => cases hc
    | group a => cases hc

end
end Go.Ev
