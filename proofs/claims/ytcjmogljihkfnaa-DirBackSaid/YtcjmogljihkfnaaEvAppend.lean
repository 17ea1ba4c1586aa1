/- A part of an evaluator of the model and of the proof that what it answers the model does; no condition. -/
import Derived.Test.YtcjmogljihkfnaaEvRelE
set_option linter.unusedVariables false
set_option linter.unusedSimpArgs false
namespace Go.Ev
set_option linter.unusedSectionVars false
variable [Atoms]
open Go.RowKit (Below)

section
variable {B : Nat} {w0 : World} {μ : Mu} {m : Mem} {w : World} {P : Program}

theorem BIG_eq : BIG = 1073741824 := rfl
theorem UNK_eq : UNK = 9223372036854775808 := rfl

/-- the arm that makes a new row -/
theorem grow_sound (h : Rel B w0 μ m w) {st xt ty : TypeId} {esz : Nat} {e : TypeId} {i : TypeInfo} {z : Value} (hi : ElemInfo P st esz e i z)
    {base : Option Addr} {sLen sCap n : Nat} {x : Value} {olds olds' new new' : List Value}
    (hold : (Builtin.firstCells esz sLen (.slice base sLen sCap)).run P w.drew = .ok olds'.toArray w.drew) (ho : LRel μ olds olds') (hol : olds'.length = sLen * esz)
    (hn : LRel μ new new') (hs : Src P esz xt x n new' w) (hg : sCap < sLen + n) (hbig : sLen + n ≤ BIG) {st' : Stat} (hgrp : ∀ g, st'.grp = some g → g < m.next) :
    ∃ v' w', (Builtin.append_ #[st, xt] ty #[.slice base sLen sCap, x]).run P w = .ok v' w' ∧ Sim B w0 μ m (grown m esz (sLen + n) (olds ++ new) st').1 (grown m esz (sLen + n) (olds ++ new) st').2 v' w' := by
  have hbytes := hi.bytes
  rw [BIG_eq] at hbig
  have hnc : Builtin.nextslicecap (sLen + n) sCap * i.bytes ≤ 281474976710656 := by
    have h1 := nextslicecap_le hg
    have h2 : Builtin.nextslicecap (sLen + n) sCap * i.bytes ≤ (2 * (sLen + n) + 1024) * 65536 := Nat.mul_le_mul h1 hbytes
    have h3 : (2 * (sLen + n) + 1024) * 65536 ≤ (2 * 1073741824 + 1024) * 65536 := Nat.mul_le_mul_right _ (by omega)
    exact Nat.le_trans h2 (Nat.le_trans h3 (by decide))
  have hsz := hi.size
  subst hsz
  refine ⟨_, _, run_append_grow_src (P := P) w st xt ty e i z hi.ty hi.info hi.zero base sLen sCap olds' hold x n new' hs hg (by omega) hnc, ?_⟩
  have hcap := grownCap_ge w (sLen + n) sCap e
  have hcl : ((olds' ++ new').toArray ++ Builtin.zeroCells z.cells (grownCap w (sLen + n) sCap e - (sLen + n))).size = grownCap w (sLen + n) sCap e * i.size := by
    rw [Array.size_append, zeroCells_length, hi.zsize]
    simp only [List.size_toArray, List.length_append, hol, hs.newsLen]
    rw [← Nat.add_mul, ← Nat.add_mul]
    congr 1; omega
  have hrel := ho.append hn
  have hl := hrel.len
  obtain ⟨h1, h2⟩ := h.drew.alloc_cells (vs := olds ++ new) (cs := (((olds' ++ new').toArray ++ Builtin.zeroCells z.cells (grownCap w (sLen + n) sCap e - (sLen + n))).toList))
    (by
      rw [hl]
      simp only [Array.toList_append, List.take_left]
      exact hrel) (by rw [hl]; simp) i.size hgrp e
  refine ⟨_, ?_, h1, h2⟩
  simp only [grown]
  have hm := Mu.set_same μ m.next ⟨w.heap.size, 0, i.size, ((olds' ++ new').toArray ++ Builtin.zeroCells z.cells (grownCap w (sLen + n) sCap e - (sLen + n))).toList.length⟩
  refine VRel.slice (l := ⟨w.heap.size, 0, i.size, _⟩) hm (fun hc => absurd hc (Nat.not_lt.2 (unk_le_grown _ _))) (fun _ => ⟨⟨(szOf_grown hi.small).trans hi.size.symm, by rw [lbOf_grown hi.small]; exact hcap⟩, (by rw [hi.size]; exact hi.pos), ?_, hcap⟩)
  simp only [Nat.zero_add, Array.length_toList, hcl]
  exact Nat.le_refl _

theorem Share.symm_dead {m : Mem} {l1 l2 : Loc} {vs1 vs2 : List Value} {e1 e2 : Nat} {st1 st2 : Stat} (h : m.alive st2 = false) :
    Share m l1 l2 (some (.cells vs1 e1 st1)) (some (.cells vs2 e2 st2)) := fun _ a2 => by rw [h] at a2; cases a2

/-- an object's status turns: from alone to the first of a new group, or from the last of its group to an elder one -/
theorem Rel.status (h : Rel B w0 μ m w) {o e g : Nat} {l : Loc} {vs : List Value} {st : Stat} (hl : μ o = some l) (ho : m.get o = some (.cells vs e st)) (hg : g < m.next)
    (hcase : st = .sole ∨ st = .tip g) :
    Rel B w0 μ (m.put o (.cells vs e (.old g))) w := by
  have halive : ∀ st' : Stat, (m.put o (.cells vs e (.old g))).alive st' = true → m.alive st' = true := by
    intro st' ha
    cases hs' : st'.grp with
    | none => cases st' <;> first | rfl | cases hs'
    | some k =>
      have hk := alive_grp ha hs'
      rw [Mem.get_put] at hk
      split at hk
      · cases hk
      · exact alive_of_grp hs' hk
  have hob := h.obj o l hl
  rw [ho] at hob
  refine ⟨h.below, h.base, h.dom, ?_, ?_⟩
  · intro o' l' e'
    rw [Mem.get_put]
    by_cases hoo : o' = o
    · rw [if_pos hoo]
      subst hoo
      rw [hl] at e'; cases e'
      obtain ⟨c, el, fz, h1, h2, h3, h4, h5⟩ := hob.blk
      refine ⟨hob.esz, fun k hk => by cases hk; exact hg, c, el, fz, h1, h2, h3, fun _ => h4 (by rcases hcase with hst | hst <;> rw [hst] <;> simp), fun ha => h5 ?_⟩
      rcases hcase with hst | hst
      · rw [hst]; rfl
      · rw [hst]; exact halive (.old g) ha
    · rw [if_neg hoo]
      exact (h.obj o' l' e').weaken (Nat.le_refl _) fun _ _ st' _ ha => halive st' ha
  · intro o1 o2 l1 l2 hne e1 e2 hb
    rw [Mem.get_put, Mem.get_put]
    have hs := h.sep o1 o2 l1 l2 hne e1 e2 hb
    by_cases h1 : o1 = o
    · rw [if_pos h1, if_neg (fun e => hne (h1.trans e.symm))]
      subst h1
      rw [hl] at e1; cases e1
      rw [ho] at hs
      cases hx : m.get o2 with
      | none => rw [hx] at hs; exact hs.elim
      | some x =>
        rw [hx] at hs
        cases x with
        | cells vs2 e2' st2 =>
          intro a1 a2
          rcases hcase with hst | hst
          · subst hst
            rcases hs rfl (halive _ a2) with ⟨h3, _⟩ | ⟨k, h3, _⟩
            · cases h3
            · cases h3
          · subst hst
            rcases hs (halive (.old g) a1) (halive _ a2) with ⟨h3, _⟩ | ⟨k, h3, h4, h5⟩
            · cases h3
            · cases h3
              exact .inr ⟨g, rfl, h4, fun h => by cases h⟩
        | map es k => exact hs.elim
        | group a => exact hs.elim
    · rw [if_neg h1]
      by_cases h2 : o2 = o
      · rw [if_pos h2]
        subst h2
        rw [hl] at e2; cases e2
        rw [ho] at hs
        cases hx : m.get o1 with
        | none => rw [hx] at hs; exact hs.elim
        | some x =>
          rw [hx] at hs
          cases x with
          | cells vs1 e1' st1 =>
            intro a1 a2
            rcases hcase with hst | hst
            · subst hst
              rcases hs (halive _ a1) rfl with ⟨_, h3⟩ | ⟨k, _, h3, _⟩
              · cases h3
              · cases h3
            · subst hst
              rcases hs (halive _ a1) (halive (.old g) a2) with ⟨_, h3⟩ | ⟨k, h3, h4, h5⟩
              · cases h3
              · cases h4
                exact .inr ⟨g, h3, rfl, fun hst1 => absurd (h5 hst1).1 (by simp)⟩
          | map es k => exact hs.elim
          | group a => exact hs.elim
      · rw [if_neg h2]
        exact hs.weaken fun _ _ st' _ ha => halive st' ha


theorem run_append_of_store {st xt ty : TypeId} {esz : Nat} {e : TypeId} {i : TypeInfo} {z : Value} (hi : ElemInfo P st esz e i z) {b off sLen sCap n : Nat} {x : Value} {new' : List Value}
    (hs : Src P esz xt x n new' w) (hroom : sLen + n ≤ sCap) {w' : World} (r1 : (storeCells ⟨b, off + sLen * esz, none⟩ new').run P w = .ok () w') :
    (Builtin.append_ #[st, xt] ty #[.slice (some ⟨b, off, none⟩) sLen sCap, x]).run P w = .ok (.slice (some ⟨b, off, none⟩) (sLen + n) sCap) w' := by
  have hsz := hi.size
  subst hsz
  rcases hs.kind with ⟨e', hk⟩ | hk <;> simp [Builtin.append_, run_underlying hi.ty, run_underlying hk, sizeOf, typeInfo, hi.info, hs.len, hroom, hs.cells, addr_add, r1]

theorem Rel.append_in (h : Rel B w0 μ m w) {l : Loc} (hB : B ≤ l.blk) (hlt : l.blk < w.heap.size) {c c' : Array Value} {el : TypeId} {fz : Nat × Nat} (hb : w.heap[l.blk]? = some (.cells c el fz)) (hcs : c.size = l.csz)
    (hfz : ∀ i : Nat, i < c.size → ¬ (fz.1 ≤ i ∧ i < fz.2)) {w' : World} (hw : Wrote w w' l.blk) (hb' : w'.heap[l.blk]? = some (.cells c' el fz)) {base k : Nat} {olds new new' : List Value}
    (hs : c'.toList = splice c.toList k new') (hk : k = base + olds.length) (hle : k + new'.length ≤ c.size)
    (hold : ∀ (i : Nat) (v : Value), olds[i]? = some v → ∃ v', c[base + i]? = some v' ∧ VRel μ v v') (hn : LRel μ new new') (esz : Nat) {stn : Stat}
    (hstn : ∀ g, stn.grp = some g → g < m.next) (hro : stn ≠ .ro)
    (hall : ∀ o' l' vs' e' st', μ o' = some l' → l'.blk = l.blk → m.get o' = some (.cells vs' e' st') → m.alive st' = true → ∃ g, stn = .tip g ∧ st' = .old g ∧ l'.base + vs'.length ≤ k) :
    Rel B w0 (μ.set m.next ⟨l.blk, base, esz, l.csz⟩) (m.new (.cells (olds ++ new) esz stn)) w' := by
  have hun := h.unnamed (Nat.le_refl m.next)
  have hle' := Mu.le_set (μ := μ) ⟨l.blk, base, esz, l.csz⟩ hun
  have hsz := splice_size hs hle
  have hln := hn.len
  have hget : ∀ o' l', μ o' = some l' → (m.new (.cells (olds ++ new) esz stn)).get o' = m.get o' := fun o' l' e => by
    rw [Mem.get_new, if_neg (by have := (h.dom o' l' e).1; omega)]
  have hcellsAt : ∀ (i : Nat), i < k → c'[i]? = c[i]? := by
    intro i hi
    have e1 : c'[i]? = (splice c.toList k new')[i]? := by rw [← hs]; simp
    rw [e1, splice_get _ _ _ _ (by simpa using hle), if_neg (by omega)]
    simp
  have isc : ∀ o' l', μ o' = some l' → l'.blk = l.blk → ∃ vs' e' st', m.get o' = some (.cells vs' e' st') := by
    intro o' l' e' hbb
    have kk := h.obj o' l' e'
    cases hx : m.get o' with
    | none => rw [hx] at kk; exact kk.elim
    | some x =>
      cases x with
      | cells vs' e'' st' => exact ⟨vs', e'', st', rfl⟩
      | map es q => rw [hx] at kk; obtain ⟨fs, ck, h1, _⟩ := kk.blk; rw [hbb, hb] at h1; cases h1
      | group a => rw [hx] at kk; exact kk.elim
  refine ⟨h.below.trans (hw.below hB), by rw [hw.size]; exact h.base, ?_, ?_, ?_⟩
  · intro o' l' e'
    by_cases hoo : o' = m.next
    · subst hoo; rw [Mu.set_same] at e'; cases e'; exact ⟨by simp, by rw [hw.size]; exact hlt⟩
    · rw [Mu.set_other _ _ hoo] at e'
      exact ⟨by have := (h.dom o' l' e').1; simp; omega, by rw [hw.size]; exact (h.dom o' l' e').2⟩
  · intro o' l' e'
    by_cases hoo : o' = m.next
    · subst hoo; rw [Mu.set_same] at e'; cases e'
      rw [Mem.get_new, if_pos rfl]
      refine ⟨rfl, fun g hg => by have := hstn g hg; simp; omega, c', el, fz, hb', by rw [hsz]; exact hcs, by rw [hsz]; simp; omega, fun _ => ⟨hB, by rw [hsz]; exact hfz⟩, fun _ i v hv => ?_⟩
      by_cases hi : i < olds.length
      · rw [List.getElem?_append_left hi] at hv
        obtain ⟨v', h1, h2⟩ := hold i v hv
        exact ⟨v', by simp only; rw [hcellsAt _ (by omega)]; exact h1, h2.mono hle'⟩
      · rw [List.getElem?_append_right (by omega)] at hv
        obtain ⟨v', h1, h2⟩ := hn.get hv
        have hi2 : i - olds.length < new'.length := (List.getElem?_eq_some_iff.1 h1).1
        refine ⟨v', ?_, h2.mono hle'⟩
        have e1 : c'[base + i]? = (splice c.toList k new')[base + i]? := by rw [← hs]; simp
        simp only
        rw [e1, splice_get _ _ _ _ (by simpa using hle), if_pos (by omega)]
        rw [show base + i - k = i - olds.length from by omega]
        exact h1
    · rw [Mu.set_other _ _ hoo] at e'
      rw [hget o' l' e']
      have kk := h.obj o' l' e'
      by_cases hbb : l'.blk = l.blk
      · obtain ⟨vs', e'', st', hx⟩ := isc o' l' e' hbb
        rw [hx] at kk ⊢
        obtain ⟨c1, el1, fz1, h1, h2, h3, h4, h5⟩ := kk.blk
        rw [hbb, hb] at h1; cases h1
        refine ⟨kk.esz, fun g hg => by have := kk.grp g hg; simp; omega, c', el, fz, by rw [hbb]; exact hb', by rw [hsz]; exact h2, by rw [hsz]; exact h3, by rw [hsz]; exact h4, fun ha i v hv => ?_⟩
        rw [alive_new_old kk.grp] at ha
        obtain ⟨g, _, _, hext⟩ := hall o' l' vs' e'' st' e' hbb hx ha
        obtain ⟨v', h6, h7⟩ := h5 ha i v hv
        have hi : i < vs'.length := (List.getElem?_eq_some_iff.1 hv).1
        exact ⟨v', by rw [hcellsAt _ (by omega)]; exact h6, h7.mono hle'⟩
      · exact ((kk.weaken (m' := m.new (.cells (olds ++ new) esz stn)) (by simp) fun vs'' e'' st'' hx ha => by
          rw [hx] at kk
          rwa [alive_new_old kk.grp] at ha).mono hle' (hw.other _ hbb))
  · intro o1 o2 l1 l2 hne e1 e2 hbb
    by_cases h1 : o1 = m.next
    · subst h1
      rw [Mu.set_same] at e1; cases e1
      rw [Mu.set_other _ _ hne.symm] at e2
      obtain ⟨vs2, e2', st2, hx⟩ := isc o2 l2 e2 hbb.symm
      rw [Mem.get_new, if_pos rfl, hget o2 l2 e2, hx]
      intro _ a2
      have k2 := h.obj o2 l2 e2
      rw [hx] at k2
      rw [alive_new_old k2.grp] at a2
      obtain ⟨g, hst, hst2, hext⟩ := hall o2 l2 vs2 e2' st2 e2 hbb.symm hx a2
      subst hst; subst hst2
      exact .inr ⟨g, rfl, rfl, fun _ => ⟨rfl, by simp; omega⟩⟩
    · rw [Mu.set_other _ _ h1] at e1
      by_cases h2 : o2 = m.next
      · subst h2
        rw [Mu.set_same] at e2; cases e2
        obtain ⟨vs1, e1', st1, hx⟩ := isc o1 l1 e1 hbb
        rw [Mem.get_new, if_neg (by have := (h.dom o1 l1 e1).1; omega), Mem.get_new, if_pos rfl, hx]
        intro a1 _
        have k1 := h.obj o1 l1 e1
        rw [hx] at k1
        rw [alive_new_old k1.grp] at a1
        obtain ⟨g, hst, hst1, hext⟩ := hall o1 l1 vs1 e1' st1 e1 hbb hx a1
        subst hst; subst hst1
        exact .inr ⟨g, rfl, rfl, fun hh => by cases hh⟩
      · rw [Mu.set_other _ _ h2] at e2
        rw [hget o1 l1 e1, hget o2 l2 e2]
        have k1 := h.obj o1 l1 e1
        have k2 := h.obj o2 l2 e2
        exact (h.sep o1 o2 l1 l2 hne e1 e2 hbb).weaken fun vs'' e'' st'' hx ha => by
          rcases hx with hx | hx
          · rw [hx] at k1; rwa [alive_new_old k1.grp] at ha
          · rw [hx] at k2; rwa [alive_new_old k2.grp] at ha

end
end Go.Ev
