/- A part of an evaluator of the model and of the proof that what it answers the model does; no condition. -/
import Derived.Test.YtcjmogljihkfnaaEvRelC
import Derived.Deep.AppendSrc
set_option linter.unusedVariables false
set_option linter.unusedSimpArgs false
namespace Go.Ev
set_option linter.unusedSectionVars false
variable [Atoms]
open Go.RowKit (Below)

section
variable {B : Nat} {w0 : World} {μ : Mu} {m : Mem} {w : World}

theorem get_splice_rel {μ : Mu} {vs new : List Value} {off base : Nat} {c c' : Array Value} {new' : List Value}
    (hold : ∀ (i : Nat) (v : Value), vs[i]? = some v → ∃ v', c[base + i]? = some v' ∧ VRel μ v v') (hle : off + new.length ≤ vs.length) (hc : base + vs.length ≤ c.size)
    (hn : LRel μ new new') (hs : c'.toList = splice c.toList (base + off) new') :
    ∀ (i : Nat) (v : Value), (splice vs off new)[i]? = some v → ∃ v', c'[base + i]? = some v' ∧ VRel μ v v' := by
  intro i v hv
  rw [splice_get _ _ _ _ hle] at hv
  have hl := hn.len
  have hsz : base + off + new'.length ≤ c.toList.length := by simp; omega
  have e : c'[base + i]? = (splice c.toList (base + off) new')[base + i]? := by rw [← hs]; simp
  rw [e, splice_get _ _ _ _ hsz]
  by_cases h : off ≤ i ∧ i < off + new.length
  · rw [if_pos h] at hv
    rw [if_pos (by omega)]
    obtain ⟨v', h1, h2⟩ := hn.get hv
    exact ⟨v', by rw [show base + i - (base + off) = i - off from by omega]; exact h1, h2⟩
  · rw [if_neg h] at hv
    rw [if_neg (by omega)]
    obtain ⟨v', h1, h2⟩ := hold i v hv
    exact ⟨v', by simpa using h1, h2⟩

theorem splice_size {c c' : Array Value} {new' : List Value} {k : Nat} (hs : c'.toList = splice c.toList k new') (h : k + new'.length ≤ c.size) : c'.size = c.size := by
  have := congrArg List.length hs
  rw [splice_length _ _ _ (by simpa using h)] at this
  simpa using this

/-- o becomes an object of no group, alone in its block, with these contents -/
theorem Rel.put_sole (h : Rel B w0 μ m w) {o e : Nat} {l : Loc} {vs : List Value} {st : Stat} (hl : μ o = some l) (ho : m.get o = some (.cells vs e st)) (hro : st ≠ .ro) (hal : m.alive st = true)
    {off : Nat} {new new' : List Value} (hle : off + new.length ≤ vs.length) (hn : LRel μ new new') {w' : World} {c c' : Array Value} {el : TypeId} {fz : Nat × Nat}
    (hw : Wrote w w' l.blk) (hb : w.heap[l.blk]? = some (.cells c el fz)) (hb' : w'.heap[l.blk]? = some (.cells c' el fz)) (hs : c'.toList = splice c.toList (l.base + off) new')
    {m1 : Mem} (hm1 : m1 = m ∧ st = .sole ∨ ∃ g, st.grp = some g ∧ m1 = m.put g (.group false)) :
    Rel B w0 μ (m1.put o (.cells (splice vs off new) e .sole)) w' := by
  have hob := h.obj o l hl
  rw [ho] at hob
  obtain ⟨c0, el0, fz0, h1, h2, h3, h4, h5⟩ := hob.blk
  rw [hb] at h1; cases h1
  obtain ⟨hB, hfz⟩ := h4 hro
  have hsz := splice_size hs (by have := hn.len; omega)
  have hnx : m1.next = m.next := by rcases hm1 with ⟨rfl, _⟩ | ⟨g, _, rfl⟩ <;> rfl
  have halive : ∀ st' : Stat, (∀ g, st'.grp = some g → g < m.next) → (m1.put o (.cells (splice vs off new) e .sole)).alive st' = true → m.alive st' = true := by
    intro st' hg' ha'
    cases hs' : st'.grp with
    | none => cases st' <;> first | rfl | cases hs'
    | some k =>
      have hk := alive_grp ha' hs'
      rw [Mem.get_put] at hk
      split at hk
      · cases hk
      · rcases hm1 with ⟨rfl, _⟩ | ⟨g, hg, rfl⟩
        · exact alive_of_grp hs' hk
        · rw [Mem.get_put] at hk
          split at hk
          · cases hk
          · exact alive_of_grp hs' hk
  refine h.rewrite hl hw hB (by simp [hnx]) ?_ halive ?_ ?_ ?_
  · intro o' l' hne e'
    rw [Mem.get_put, if_neg hne]
    rcases hm1 with ⟨rfl, _⟩ | ⟨g, hg, rfl⟩
    · rfl
    · rw [Mem.get_put, if_neg]
      rintro rfl
      exact h.mapped e' true (alive_grp hal hg)
  · intro o' l' hne e' hb2
    rcases hm1 with ⟨rfl, rfl⟩ | ⟨g, hg, rfl⟩
    · obtain ⟨vs', e', st', hx, hd⟩ := h.sole_alone hl ho hne e' hb2
      refine ⟨vs', e', st', hx, ?_⟩
      cases ha : (m1.put o (.cells (splice vs off new) e .sole)).alive st' with
      | false => rfl
      | true =>
        have k := h.obj o' l' (by assumption)
        rw [hx] at k
        rw [halive st' k.grp ha] at hd; cases hd
    · obtain ⟨vs', e'', st', hx, hd⟩ := h.group_alone hl ho hg hal hne e' hb2
      refine ⟨vs', e'', st', hx, ?_⟩
      cases ha : ((m.put g (.group false)).put o (.cells (splice vs off new) e .sole)).alive st' with
      | false => rfl
      | true =>
        have k := h.obj o' l' e'
        rw [hx] at k
        have ha2 := halive st' k.grp ha
        have hg2 := (hd ha2).1
        have := alive_grp ha hg2
        rw [Mem.get_put] at this
        split at this
        · cases this
        · rw [Mem.get_put, if_pos rfl] at this; cases this
  · intro c1 el1 fz1 hh
    rw [hb] at hh; cases hh
    exact ⟨c', hb', hsz⟩
  · rw [Mem.get_put, if_pos rfl]
    refine ⟨hob.esz, (fun g hg => by cases hg), c', el, fz, hb', by rw [hsz]; exact h2, by rw [hsz, splice_length _ _ _ hle]; exact h3, fun _ => ⟨hB, by rw [hsz]; exact hfz⟩, fun _ => ?_⟩
    exact get_splice_rel (h5 hal) hle h3 hn hs

theorem Ext.put {o : Nat} {x : AObj} (ho : ∃ l, μ o = some l) : Ext μ m μ (m.put o x) :=
  ⟨Nat.le_refl _, fun _ _ => rfl, (fun k _ hn _ => by
    rw [Mem.get_put, if_neg]
    rintro rfl
    obtain ⟨l, hl⟩ := ho
    rw [hl] at hn; cases hn), fun _ _ h => h⟩
theorem Ext.put_group {g : Nat} {x : AObj} (hg : ∃ a, m.get g = some (.group a)) : Ext μ m μ (m.put g x) :=
  ⟨Nat.le_refl _, fun _ _ => rfl, (fun k _ _ hk => by
    rw [Mem.get_put, if_neg]
    rintro rfl
    obtain ⟨a, ha⟩ := hg
    exact hk a ha), fun _ _ h => h⟩
theorem Ext.new {x : AObj} : Ext μ m μ (m.new x) :=
  ⟨by simp, fun _ _ => rfl, (fun k hk _ _ => by rw [Mem.get_new, if_neg (by omega)]), fun _ _ h => h⟩
theorem Ext.new_put {g : Nat} {x y : AObj} (hg : g = m.next) : Ext μ m μ ((m.new x).put g y) :=
  ⟨by simp, fun _ _ => rfl, (fun k hk _ _ => by rw [Mem.get_put, if_neg (by omega), Mem.get_new, if_neg (by omega)]), fun _ _ h => h⟩

/-- a store of several cells -/
theorem Rel.store {P : Program} (h : Rel B w0 μ m w) {o off : Nat} {l : Loc} {new new' : List Value} {m' : Mem} (hl : μ o = some l) (hst : m.storeN o off new = some m') (hr : LRel μ new new') :
    ∃ w', (storeCells ⟨l.blk, l.base + off, none⟩ new').run P w = .ok () w' ∧ Rel B w0 μ m' w' ∧ Ext μ m μ m' := by
  unfold Mem.storeN at hst
  have hob := h.obj o l hl
  cases hx : m.get o with
  | none => rw [hx] at hst; cases hst
  | some x =>
    rw [hx] at hst hob
    cases x with
    | map es k => cases hst
    | group a => cases hst
    | cells vs e st =>
      simp only at hst
      cases hc : (Nat.ble (off + new.length) vs.length && new.all isCell) with
      | false => rw [hc] at hst; cases hst
      | true =>
        rw [hc] at hst
        rw [Bool.and_eq_true] at hc
        have hle : off + new.length ≤ vs.length := Nat.le_of_ble_eq_true hc.1
        have hcell := hr.isCell hc.2
        obtain ⟨c, el, fz, h1, h2, h3, h4, h5⟩ := hob.blk
        simp only [cond_true] at hst
        have hlen := hr.len
        have go : ∀ (hro : st ≠ .ro) (hal : m.alive st = true) (m1 : Mem) (_ : m1 = m ∧ st = .sole ∨ ∃ g, st.grp = some g ∧ m1 = m.put g (.group false)),
            ∃ w', (storeCells ⟨l.blk, l.base + off, none⟩ new').run P w = .ok () w' ∧ Rel B w0 μ (m1.put o (.cells (splice vs off new) e .sole)) w' ∧ Ext μ m μ (m1.put o (.cells (splice vs off new) e .sole)) := by
          intro hro hal m1 hm1
          obtain ⟨hB, hfz⟩ := h4 hro
          obtain ⟨w', c', r1, r2, r3, r4⟩ := run_storeCells (P := P) l.blk new' 0 (l.base + off) w c el fz h1 (by omega) hfz hcell
          rw [Nat.add_zero] at r4
          refine ⟨w', r1, h.put_sole hl hx hro hal hle hr r2 h1 r3 r4 hm1, ?_⟩
          rcases hm1 with ⟨rfl, _⟩ | ⟨g, hg, rfl⟩
          · exact Ext.put ⟨l, hl⟩
          · exact (Ext.put_group ⟨true, alive_grp hal hg⟩).trans (Ext.put ⟨l, hl⟩)
        cases st with
        | ro => cases hst
        | sole => cases hst; exact go (by simp) rfl m (.inl ⟨rfl, rfl⟩)
        | tip g =>
          simp only at hst
          cases hal : m.alive (.tip g) with
          | false => rw [hal] at hst; cases hst
          | true => rw [hal] at hst; cases hst; exact go (by simp) hal _ (.inr ⟨g, rfl, rfl⟩)
        | old g =>
          simp only at hst
          cases hal : m.alive (.old g) with
          | false => rw [hal] at hst; cases hst
          | true => rw [hal] at hst; cases hst; exact go (by simp) hal _ (.inr ⟨g, rfl, rfl⟩)

end
end Go.Ev
