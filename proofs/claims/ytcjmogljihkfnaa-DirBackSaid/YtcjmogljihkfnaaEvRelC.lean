/- A part of an evaluator of the model and of the proof that what it answers the model does; no condition. -/
import Derived.Test.YtcjmogljihkfnaaEvRelB
set_option linter.unusedVariables false
set_option linter.unusedSimpArgs false
namespace Go.Ev
set_option linter.unusedSectionVars false
variable [Atoms]
open Go.RowKit (Below)

/-- the world behind a write of several cells into one block -/
structure Wrote (w w' : World) (b : Nat) : Prop where
  os : w'.os = w.os
  tape : w'.tape = w.tape
  output : w'.output = w.output
  size : w'.heap.size = w.heap.size
  other : ∀ k, k ≠ b → w'.heap[k]? = w.heap[k]?

theorem Wrote.refl (w : World) (b : Nat) : Wrote w w b := ⟨rfl, rfl, rfl, rfl, fun _ _ => rfl⟩
theorem Wrote.trans {w w' w'' : World} {b : Nat} (h : Wrote w w' b) (k : Wrote w' w'' b) : Wrote w w'' b :=
  ⟨k.os.trans h.os, k.tape.trans h.tape, k.output.trans h.output, k.size.trans h.size, fun i hi => (k.other i hi).trans (h.other i hi)⟩
theorem Wrote.below {w w' : World} {b B : Nat} (h : Wrote w w' b) (hb : B ≤ b) : Below B w w' :=
  ⟨h.os, h.tape, h.output, by have := h.size; omega, fun k hk => h.other k (by omega)⟩

theorem heap_setCell_same {w : World} {b o : Nat} {c : Array Value} {el : TypeId} {fz : Nat × Nat} {v : Value} (h : w.heap[b]? = some (.cells c el fz)) :
    (w.setCell ⟨b, o, none⟩ v).heap[b]? = some (.cells (c.setIfInBounds o v) el fz) := by
  simp only [World.setCell, Array.getElem?_modify, if_pos, h, Option.map_some]
  rfl
theorem wrote_setCell (w : World) (b o : Nat) (v : Value) : Wrote w (w.setCell ⟨b, o, none⟩ v) b :=
  ⟨rfl, rfl, rfl, by simp, fun k hk => by simp only [World.setCell, Array.getElem?_modify]; rw [if_neg (by simpa using fun e => hk e.symm)]⟩

theorem addr_add (b o n : Nat) : Addr.add ⟨b, o, none⟩ n = ⟨b, o + n, none⟩ := by
  unfold Addr.add
  split
  · rename_i h; subst h; rfl
  · rfl

theorem run_store_cell {P : Program} {w : World} {b o : Nat} {c : Array Value} {el : TypeId} {fz : Nat × Nat} {v : Value} (h : w.heap[b]? = some (.cells c el fz))
    (ho : o < c.size) (hf : ¬ (fz.1 ≤ o ∧ o < fz.2)) (hv : v.oneCell' = true) : (store ⟨b, o, none⟩ v).run P w = .ok () (w.setCell ⟨b, o, none⟩ v) := by
  rw [run_store P w _ _ _ hv]
  have hc : w.cell? ⟨b, o, none⟩ = some c[o] := by simp [World.cell?, h, ho]
  have hz : w.frozen? ⟨b, o, none⟩ = false := by
    simp only [World.frozen?, h]
    simpa using hf
  rw [hc]
  simp [hz]

/-- storeCells: a run of cells of one block -/
theorem run_storeCells {P : Program} (b : Nat) : ∀ (vs : List Value) (i o : Nat) (w : World) (c : Array Value) (el : TypeId) (fz : Nat × Nat),
    w.heap[b]? = some (.cells c el fz) → o + i + vs.length ≤ c.size → (∀ j : Nat, j < c.size → ¬ (fz.1 ≤ j ∧ j < fz.2)) → (∀ v ∈ vs, v.oneCell' = true) →
    ∃ w' c', (storeCells ⟨b, o, none⟩ vs i).run P w = .ok () w' ∧ Wrote w w' b ∧ w'.heap[b]? = some (.cells c' el fz) ∧ c'.toList = splice c.toList (o + i) vs
  | [], i, o, w, c, el, fz, h, _, _, _ => ⟨w, c, rfl, .refl _ _, h, by simp [splice]⟩
  | v :: r, i, o, w, c, el, fz, h, hle, hf, hv => by
    simp only [List.length_cons] at hle
    have h1 := run_store_cell (P := P) (v := v) h (o := o + i) (by omega) (hf _ (by omega)) (hv v (by simp))
    obtain ⟨w', c', hr, hw, hb, hc⟩ := run_storeCells b r (i + 1) o (w.setCell ⟨b, o + i, none⟩ v) (c.setIfInBounds (o + i) v) el fz (heap_setCell_same h) (by simp; omega) (by simpa using hf) (fun u hu => hv u (by simp [hu]))
    refine ⟨w', c', ?_, (wrote_setCell _ _ _ _).trans hw, hb, ?_⟩
    · simp only [storeCells, Sem.run_bind, addr_add, h1, Result.andThen_ok]
      exact hr
    · rw [hc]
      apply List.ext_getElem?
      intro j
      have hlen : o + (i + 1) + r.length ≤ (c.setIfInBounds (o + i) v).toList.length := by simp; omega
      rw [splice_get _ _ _ _ hlen, splice_get _ _ _ _ (by simp; omega)]
      simp only [List.length_cons]
      by_cases hj : o + i ≤ j ∧ j < o + i + (r.length + 1)
      · rw [if_pos hj]
        by_cases hj1 : j = o + i
        · subst hj1
          rw [if_neg (by omega)]
          simp [show o + i < c.size from by omega]
        · rw [if_pos (by omega)]
          rw [show j - (o + i) = (j - (o + (i + 1))) + 1 from by omega]
          simp
      · rw [if_neg hj, if_neg (by omega)]
        simp only [Array.toList_setIfInBounds]
        rw [List.getElem?_set_ne (by omega)]

section
variable {B : Nat} {w0 : World} {μ : Mu} {m : Mem} {w : World}

theorem ObjRel.heap {x : Option AObj} {w w' : World} {l : Loc} (h : ObjRel B μ m w l x) (hb : w'.heap[l.blk]? = w.heap[l.blk]?) : ObjRel B μ m w' l x := h.mono (Mu.le_refl μ) hb

theorem Share.weaken {m m' : Mem} {l1 l2 : Loc} {x y : Option AObj} (h : Share m l1 l2 x y)
    (ha : ∀ vs e st, x = some (.cells vs e st) ∨ y = some (.cells vs e st) → m'.alive st = true → m.alive st = true) : Share m' l1 l2 x y := by
  cases x with
  | none => exact h
  | some x =>
    cases y with
    | none => cases x <;> exact h
    | some y =>
      cases x with
      | cells vs1 e1 st1 =>
        cases y with
        | cells vs2 e2 st2 => exact fun a1 a2 => h (ha _ _ _ (.inl rfl) a1) (ha _ _ _ (.inr rfl) a2)
        | map es k => exact h
        | group a => exact h
      | map es k => exact h
      | group a => exact h

theorem ObjRel.weaken {m m' : Mem} {l : Loc} {x : Option AObj} (h : ObjRel B μ m w l x) (hn : m.next ≤ m'.next)
    (ha : ∀ vs e st, x = some (.cells vs e st) → m'.alive st = true → m.alive st = true) : ObjRel B μ m' w l x := by
  cases x with
  | none => exact h
  | some x =>
    cases x with
    | cells vs e st =>
      obtain ⟨c, el, fz, h1, h2, h3, h4, h5⟩ := h.blk
      exact ⟨h.esz, fun g hg => Nat.lt_of_lt_of_le (h.grp g hg) hn, c, el, fz, h1, h2, h3, h4, fun hal => h5 (ha _ _ _ rfl hal)⟩
    | map es k => exact h
    | group a => exact h

/-- whoever shares a block with a live object that belongs to no group is dead -/
theorem Rel.sole_alone (h : Rel B w0 μ m w) {o : Nat} {l : Loc} {vs : List Value} {e : Nat} (hl : μ o = some l) (ho : m.get o = some (.cells vs e .sole))
    {o' : Nat} {l' : Loc} (hne : o' ≠ o) (hl' : μ o' = some l') (hb : l'.blk = l.blk) : ∃ vs' e' st', m.get o' = some (.cells vs' e' st') ∧ m.alive st' = false := by
  have hs := h.sep o o' l l' hne.symm hl hl' hb.symm
  rw [ho] at hs
  cases hx : m.get o' with
  | none => rw [hx] at hs; exact hs.elim
  | some x =>
    rw [hx] at hs
    cases x with
    | cells vs' e' st' =>
      refine ⟨vs', e', st', rfl, ?_⟩
      cases ha : m.alive st' with
      | false => rfl
      | true =>
        rcases hs rfl ha with ⟨h1, _⟩ | ⟨g, h1, _⟩
        · cases h1
        · cases h1
    | map es k => exact hs.elim
    | group a => exact hs.elim

/-- whoever shares a block with an object of a live group belongs to it, or is dead -/
theorem Rel.group_alone (h : Rel B w0 μ m w) {o g : Nat} {l : Loc} {vs : List Value} {e : Nat} {st : Stat} (hl : μ o = some l) (ho : m.get o = some (.cells vs e st)) (hg : st.grp = some g)
    (ha : m.alive st = true) {o' : Nat} {l' : Loc} (hne : o' ≠ o) (hl' : μ o' = some l') (hb : l'.blk = l.blk) :
    ∃ vs' e' st', m.get o' = some (.cells vs' e' st') ∧ (m.alive st' = true → st'.grp = some g ∧ (st = .tip g → st' = .old g ∧ l'.base + vs'.length ≤ l.base + vs.length)) := by
  have hs := h.sep o o' l l' hne.symm hl hl' hb.symm
  rw [ho] at hs
  cases hx : m.get o' with
  | none => rw [hx] at hs; exact hs.elim
  | some x =>
    rw [hx] at hs
    cases x with
    | cells vs' e' st' =>
      refine ⟨vs', e', st', rfl, fun ha' => ?_⟩
      rcases hs ha ha' with ⟨h1, _⟩ | ⟨k, h1, h2, h3⟩
      · rw [h1] at hg; cases hg
      · rw [hg] at h1; cases h1
        exact ⟨h2, h3⟩
    | map es k => exact hs.elim
    | group a => exact hs.elim

/-- the contents of one block turn; all that lives there is o, which now is alone there; o's contents are what is written -/
theorem Rel.rewrite (h : Rel B w0 μ m w) {m' : Mem} {w' : World} {o : Nat} {l : Loc} (hl : μ o = some l) (hw : Wrote w w' l.blk) (hB : B ≤ l.blk)
    (hn : m.next ≤ m'.next) (hg : ∀ o' l', o' ≠ o → μ o' = some l' → m'.get o' = m.get o')
    (ha : ∀ st : Stat, (∀ g, st.grp = some g → g < m.next) → m'.alive st = true → m.alive st = true)
    (hdead : ∀ o' l', o' ≠ o → μ o' = some l' → l'.blk = l.blk → ∃ vs e st, m.get o' = some (.cells vs e st) ∧ m'.alive st = false)
    (hshape : ∀ c el fz, w.heap[l.blk]? = some (.cells c el fz) → ∃ c', w'.heap[l.blk]? = some (.cells c' el fz) ∧ c'.size = c.size)
    (hob : ObjRel B μ m' w' l (m'.get o)) : Rel B w0 μ m' w' where
  below := h.below.trans (hw.below hB)
  base := by have := h.base; rw [hw.size]; exact this
  dom o' l' e := ⟨Nat.lt_of_lt_of_le (h.dom o' l' e).1 hn, by rw [hw.size]; exact (h.dom o' l' e).2⟩
  obj o' l' e := by
    by_cases hoo : o' = o
    · subst hoo; rw [hl] at e; cases e; exact hob
    · rw [hg o' l' hoo e]
      have k := h.obj o' l' e
      by_cases hb : l'.blk = l.blk
      · obtain ⟨vs, ee, st, hx, hd⟩ := hdead o' l' hoo e hb
        rw [hx] at k ⊢
        obtain ⟨c, el, fz, h1, h2, h3, h4, h5⟩ := k.blk
        obtain ⟨c', h1', hsz⟩ := hshape c el fz (hb ▸ h1)
        refine ⟨k.esz, fun g hg => Nat.lt_of_lt_of_le (k.grp g hg) hn, c', el, fz, hb ▸ h1', by rw [hsz]; exact h2, by rw [hsz]; exact h3, by rw [hsz]; exact h4, fun hal => ?_⟩
        rw [hd] at hal; cases hal
      · exact (k.weaken hn fun vs e' st hx hal => ha st (by rw [hx] at k; exact k.grp) hal).heap (hw.other _ hb)
  sep o1 o2 l1 l2 hne e1 e2 hb := by
    have key : ∀ o1 o2 l1 l2, o1 ≠ o2 → μ o1 = some l1 → μ o2 = some l2 → l1.blk = l2.blk → o1 = o ∨ o2 = o → Share m' l1 l2 (m'.get o1) (m'.get o2) := by
      intro o1 o2 l1 l2 hne e1 e2 hb hor
      have hob1 : ∃ c el fz, w'.heap[l.blk]? = some (.cells c el fz) := by
        rcases hor with rfl | rfl
        · rw [hl] at e1; cases e1
          obtain ⟨vs, e, st, hx, _⟩ := hdead o2 l2 hne.symm e2 hb.symm
          have k := h.obj o2 l2 e2
          rw [hx] at k
          obtain ⟨c, el, fz, h1, _⟩ := k.blk
          obtain ⟨c', h1', _⟩ := hshape c el fz (hb ▸ h1)
          exact ⟨c', el, fz, h1'⟩
        · rw [hl] at e2; cases e2
          obtain ⟨vs, e, st, hx, _⟩ := hdead o1 l1 hne e1 hb
          have k := h.obj o1 l1 e1
          rw [hx] at k
          obtain ⟨c, el, fz, h1, _⟩ := k.blk
          obtain ⟨c', h1', _⟩ := hshape c el fz (hb ▸ h1)
          exact ⟨c', el, fz, h1'⟩
      obtain ⟨c, el, fz, hcell⟩ := hob1
      have ho : ∃ vs e st, m'.get o = some (.cells vs e st) := by
        cases hx : m'.get o with
        | none => rw [hx] at hob; exact hob.elim
        | some x =>
          cases x with
          | cells vs e st => exact ⟨vs, e, st, rfl⟩
          | map es k => rw [hx] at hob; obtain ⟨fs, ck, h1, _⟩ := hob.blk; rw [hcell] at h1; cases h1
          | group a => rw [hx] at hob; exact hob.elim
      obtain ⟨vs0, e0, st0, ho⟩ := ho
      rcases hor with rfl | rfl
      · rw [hl] at e1; cases e1
        obtain ⟨vs, e, st, hx, hd⟩ := hdead o2 l2 hne.symm e2 hb.symm
        rw [hg o2 l2 hne.symm e2, hx, ho]
        intro _ a2; rw [hd] at a2; cases a2
      · rw [hl] at e2; cases e2
        obtain ⟨vs, e, st, hx, hd⟩ := hdead o1 l1 hne e1 hb
        rw [hg o1 l1 hne e1, hx, ho]
        intro a1 _; rw [hd] at a1; cases a1
    by_cases h1 : o1 = o
    · exact key o1 o2 l1 l2 hne e1 e2 hb (.inl h1)
    · by_cases h2 : o2 = o
      · exact key o1 o2 l1 l2 hne e1 e2 hb (.inr h2)
      · rw [hg o1 l1 h1 e1, hg o2 l2 h2 e2]
        have k1 := h.obj o1 l1 e1
        have k2 := h.obj o2 l2 e2
        exact (h.sep o1 o2 l1 l2 hne e1 e2 hb).weaken fun vs e st hx hal => by
          rcases hx with hx | hx
          · exact ha st (by rw [hx] at k1; exact k1.grp) hal
          · exact ha st (by rw [hx] at k2; exact k2.grp) hal

end
end Go.Ev
