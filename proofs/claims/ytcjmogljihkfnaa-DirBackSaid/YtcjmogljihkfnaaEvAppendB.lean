/- A part of an evaluator of the model and of the proof that what it answers the model does; no condition. -/
import Derived.Test.YtcjmogljihkfnaaEvAppend
set_option linter.unusedVariables false
set_option linter.unusedSimpArgs false
namespace Go.Ev
set_option linter.unusedSectionVars false
variable [Atoms]
open Go.RowKit (Below)

section
variable {B : Nat} {w0 : World} {μ : Mu} {m : Mem} {w : World} {P : Program}

theorem Sim.of_ext {m1 : Mem} {v : Value} {m' : Mem} {v' : Value} {w' : World} (h : Ext μ m μ m1) (hs : Sim B w0 μ m1 v m' v' w') : Sim B w0 μ m v m' v' w' := by
  obtain ⟨μ', a, b, c⟩ := hs
  exact ⟨μ', a, b, h.trans c⟩

/-- the end of an append of unknown capacity -/
theorem append_fin {m1 : Mem} (h1 : Rel B w0 μ m1 w) (he : Ext μ m μ m1) {st xt ty : TypeId} {esz : Nat} {e : TypeId} {i : TypeInfo} {z : Value} (hi : ElemInfo P st esz e i z)
    {l : Loc} {off len n cap' : Nat} {x : Value} {olds olds' new new' : List Value} (hB : B ≤ l.blk) (hlt : l.blk < w.heap.size) (hesz : l.esz = esz)
    {c : Array Value} {el : TypeId} {fz : Nat × Nat} (hb : w.heap[l.blk]? = some (.cells c el fz)) (hcs : c.size = l.csz)
    (hfz : ∀ i : Nat, i < c.size → ¬ (fz.1 ≤ i ∧ i < fz.2))
    (ho : LRel μ olds olds') (hol : olds.length = len * esz) (hcell : ∀ (j : Nat) (v' : Value), olds'[j]? = some v' → w.cell? ⟨l.blk, l.base + off + j, none⟩ = some v')
    (hunk : l.base + off + cap' * l.esz ≤ l.csz) (hn : LRel μ new new') (hs : Src P esz xt x n new' w) (hbig : len + n ≤ BIG) {stn : Stat}
    (hstn : ∀ g, stn.grp = some g → g < m1.next) (hro : stn ≠ .ro)
    (hall : ∀ o' l' vs' e' st', μ o' = some l' → l'.blk = l.blk → m1.get o' = some (.cells vs' e' st') → m1.alive st' = true → ∃ g, stn = .tip g ∧ st' = .old g ∧ l'.base + vs'.length ≤ l.base + off + len * esz) :
    ∃ v' w', (Builtin.append_ #[st, xt] ty #[.slice (some ⟨l.blk, l.base + off, none⟩) len cap', x]).run P w = .ok v' w' ∧
      Sim B w0 μ m (grown m1 esz (len + n) (olds ++ new) stn).1 (grown m1 esz (len + n) (olds ++ new) stn).2 v' w' := by
  have hol' : olds'.length = len * esz := by rw [← ho.len]; exact hol
  by_cases hroom : len + n ≤ cap'
  · subst hesz
    have hle : l.base + off + len * l.esz + new'.length ≤ c.size := by
      have h2 := hs.newsLen
      have h3 : (len + n) * l.esz ≤ cap' * l.esz := Nat.mul_le_mul_right _ hroom
      rw [Nat.add_mul] at h3
      omega
    obtain ⟨w', c', r1, r2, r3, r4⟩ := run_storeCells (P := P) l.blk new' 0 (l.base + off + len * l.esz) w c el fz hb (by omega) hfz hs.one
    rw [Nat.add_zero] at r4
    refine ⟨_, w', run_append_of_store (P := P) hi hs hroom r1, ?_⟩
    have hR := h1.append_in hB hlt hb hcs hfz r2 r3 (base := l.base + off) (olds := olds) (new := new) r4 (by omega) hle (fun i v hv => by
      obtain ⟨v', h4, h5⟩ := ho.get hv
      have := hcell _ _ h4
      simp only [World.cell?, hb] at this
      exact ⟨v', by simpa using this, h5⟩) hn l.esz hstn hro hall
    refine ⟨_, ?_, hR, he.trans (Ext.set (Nat.le_refl _) Ext.new (h1.unnamed (Nat.le_refl _)))⟩
    have hm := Mu.set_same μ m1.next ⟨l.blk, l.base + off, l.esz, l.csz⟩
    exact VRel.slice (o := m1.next) (off := 0) (l := ⟨l.blk, l.base + off, l.esz, l.csz⟩) hm (fun hc => absurd hc (Nat.not_lt.2 (unk_le_grown _ _))) (fun _ => ⟨⟨szOf_grown hi.small, by rw [lbOf_grown hi.small]; exact hroom⟩, hi.pos, hunk, hroom⟩)
  · obtain ⟨v', w', r1, r2⟩ := grow_sound (P := P) h1 hi (xt := xt) (ty := ty) (base := some ⟨l.blk, l.base + off, none⟩) (sLen := len) (sCap := cap') (n := n) (x := x) (olds := olds) (olds' := olds')
      (run_firstCells_some w.drew esz len _ len cap' olds' hol' (fun j u hu => by rw [addr_add]; simpa using hcell j u hu)) ho hol' hn hs (by omega) hbig hstn
    exact ⟨v', w', r1, Sim.of_ext he r2⟩

theorem appendTo_sound (h : Rel B w0 μ m w) {st xt ty : TypeId} {esz : Nat} {e : TypeId} {i : TypeInfo} {z : Value} (hi : ElemInfo P st esz e i z)
    {o off len cap cap' n : Nat} {l : Loc} {vs : List Value} {ost : Stat} (hl : μ o = some l) (hget : m.get o = some (.cells vs esz ost)) (hal : m.alive ost = true) (hle : off + len * esz ≤ vs.length)
    (hcap : cap < UNK → cap' = cap) (hunk : UNK ≤ cap → (szOf cap = l.esz ∧ lbOf cap ≤ cap') ∧ 1 ≤ l.esz ∧ l.base + off + cap' * l.esz ≤ l.csz ∧ len ≤ cap')
    {x : Value} {new new' : List Value} (hn : LRel μ new new') (hc : new.all isCell = true) (hs : Src P esz xt x n new' w) (hbig : len + n ≤ BIG) {v : Value} {m' : Mem}
    (ha : appendTo m o off len cap esz vs ost n new = some (v, m')) :
    ∃ v' w', (Builtin.append_ #[st, xt] ty #[.slice (some ⟨l.blk, l.base + off, none⟩) len cap', x]).run P w = .ok v' w' ∧ Sim B w0 μ m v m' v' w' := by
  have hob := h.obj o l hl
  rw [hget] at hob
  obtain ⟨c, el, fz, h1, h2, h3, h4, h5⟩ := hob.blk
  have hload : m.loadN o off (len * esz) = some ((vs.drop off).take (len * esz)) := by
    unfold Mem.loadN Mem.cells
    rw [hget]
    simp only [hal, cond_true, Option.bind_some]
    rw [show Nat.ble (off + len * esz) vs.length = true from Nat.ble_eq_true_of_le hle]
    rfl
  obtain ⟨olds', ho, hol, hcell⟩ := h.load hl hload
  have hlt := (h.dom o l hl).2
  unfold appendTo at ha
  cases hu : Nat.ble UNK cap with
  | true =>
    have hu' := Nat.le_of_ble_eq_true hu
    obtain ⟨hcU, _, hsp, hlc⟩ := hunk hu'
    rw [hu] at ha
    rw [hcU.1, ← hob.esz] at ha
    simp only [cond_true, Nat.beq_refl] at ha
    cases hn0 : Nat.beq n 0 with
    | true =>
      have := Nat.eq_of_beq_eq_true hn0
      subst this
      rw [hn0] at ha
      simp only [cond_true, Option.some.injEq, Prod.mk.injEq] at ha
      obtain ⟨rfl, rfl⟩ := ha
      have hnil : new' = [] := by have := hs.newsLen; simpa using this
      subst hnil
      refine ⟨_, w, run_append_of_store (P := P) hi hs (by omega) rfl, μ, ?_, h, Ext.refl _ _⟩
      exact VRel.slice hl hcap hunk
    | false =>
      rw [hn0] at ha
      simp only [cond_false] at ha
      cases hlb : Nat.ble (len + n) (lbOf cap) with
      | true =>
        have hr' := Nat.le_of_ble_eq_true hlb
        rw [hlb] at ha
        simp only [cond_true] at ha
        cases hst : m.storeN o (off + len * esz) new with
        | none => rw [hst] at ha; cases ha
        | some m2 =>
          rw [hst] at ha
          simp only [Option.bind_some, Option.some.injEq, Prod.mk.injEq] at ha
          obtain ⟨rfl, rfl⟩ := ha
          obtain ⟨w', r1, r2, r3⟩ := h.store (P := P) hl hst hn
          rw [show l.base + (off + len * esz) = l.base + off + len * esz from by omega] at r1
          have hcc : len + n ≤ cap' := Nat.le_trans hr' hcU.2
          exact ⟨_, w', run_append_of_store (P := P) hi hs hcc r1, μ, VRel.slice hl hcap (fun q => ⟨hcU, (hunk q).2.1, (hunk q).2.2.1, hcc⟩), r2, r3⟩
      | false =>
      rw [hlb] at ha
      simp only [cond_false] at ha
      cases ost with
      | ro => cases ha
      | sole =>
        obtain ⟨hB, hfz⟩ := h4 (by simp)
        simp only at ha
        have dead : ∀ o' l' vs' e' st', o' ≠ o → μ o' = some l' → l'.blk = l.blk → m.get o' = some (.cells vs' e' st') → m.alive st' = true → False := by
          intro o' l' vs' e' st' hne e1 e2 e3 e4
          obtain ⟨vs2, e2', st2, hx, hd⟩ := h.sole_alone hl hget hne e1 e2
          rw [e3] at hx; cases hx
          rw [hd] at e4; cases e4
        have onx : o < m.next := (h.dom o l hl).1
        cases hend : Nat.beq (off + len * esz) vs.length with
        | true =>
          have hend' := Nat.eq_of_beq_eq_true hend
          rw [hend] at ha
          simp only [cond_true, Option.some.injEq] at ha
          rw [Prod.ext_iff] at ha
          obtain ⟨e1, e2⟩ := ha
          simp only at e1 e2
          subst e1; subst e2
          have R0 := h.new_obj (.group true)
          have R1 := R0.status (o := o) (e := esz) (g := m.next) (vs := vs) (st := .sole) hl (by rw [Mem.get_new, if_neg (by omega)]; exact hget) (by simp) (.inl rfl)
          refine append_fin (P := P) R1 (Ext.new.trans (Ext.put ⟨l, hl⟩)) hi hB hlt hob.esz.symm h1 h2 hfz ho hol hcell hsp hn hs hbig (stn := .tip m.next) (fun g hg => by cases hg; simp) (by simp) ?_
          intro o' l' vs' e' st' e1 e2 e3 e4
          rw [Mem.get_put] at e3
          by_cases hoo : o' = o
          · rw [if_pos hoo] at e3
            cases e3
            subst hoo
            rw [hl] at e1; cases e1
            exact ⟨m.next, rfl, rfl, by omega⟩
          · rw [if_neg hoo, Mem.get_new, if_neg (by have := (h.dom o' l' e1).1; omega)] at e3
            have k := h.obj o' l' e1
            rw [e3] at k
            rw [alive_put_other (fun g hg => by
              rintro rfl
              have := alive_grp e4 hg
              rw [Mem.get_put, if_pos rfl] at this
              cases this), alive_new_old k.grp] at e4
            exact (dead o' l' vs' e' st' hoo e1 e2 e3 e4).elim
        | false =>
          rw [hend] at ha
          simp only [cond_false, Option.some.injEq] at ha
          rw [Prod.ext_iff] at ha
          obtain ⟨e1, e2⟩ := ha
          simp only at e1 e2
          subst e1; subst e2
          have R0 := h.new_obj (.group false)
          have R1 := R0.status (o := o) (e := esz) (g := m.next) (vs := vs) (st := .sole) hl (by rw [Mem.get_new, if_neg (by omega)]; exact hget) (by simp) (.inl rfl)
          refine append_fin (P := P) R1 (Ext.new.trans (Ext.put ⟨l, hl⟩)) hi hB hlt hob.esz.symm h1 h2 hfz ho hol hcell hsp hn hs hbig (stn := .sole) (fun g hg => by cases hg) (by simp) ?_
          intro o' l' vs' e' st' e1 e2 e3 e4
          exfalso
          rw [Mem.get_put] at e3
          by_cases hoo : o' = o
          · rw [if_pos hoo] at e3
            cases e3
            have := alive_grp e4 (g := m.next) rfl
            rw [Mem.get_put, if_neg (by omega), Mem.get_new, if_pos rfl] at this
            cases this
          · rw [if_neg hoo, Mem.get_new, if_neg (by have := (h.dom o' l' e1).1; omega)] at e3
            have k := h.obj o' l' e1
            rw [e3] at k
            rw [alive_put_other (fun g hg => by
              rintro rfl
              have := alive_grp e4 hg
              rw [Mem.get_put, if_pos rfl] at this
              cases this), alive_new_old k.grp] at e4
            exact dead o' l' vs' e' st' hoo e1 e2 e3 e4
      | tip g =>
        obtain ⟨hB, hfz⟩ := h4 (by simp)
        simp only at ha
        have hgrp := alive_grp hal (g := g) rfl
        have hglt := hob.grp g rfl
        have hgo : g ≠ o := by rintro rfl; rw [hget] at hgrp; cases hgrp
        have onx : o < m.next := (h.dom o l hl).1
        cases hend : Nat.beq (off + len * esz) vs.length with
        | true =>
          have hend' := Nat.eq_of_beq_eq_true hend
          rw [hend] at ha
          simp only [cond_true, Option.some.injEq] at ha
          rw [Prod.ext_iff] at ha
          obtain ⟨e1, e2⟩ := ha
          simp only at e1 e2
          subst e1; subst e2
          have R1 := h.status (o := o) (e := esz) (g := g) (vs := vs) (st := .tip g) hl hget hglt (.inr rfl)
          refine append_fin (P := P) R1 (Ext.put ⟨l, hl⟩) hi hB hlt hob.esz.symm h1 h2 hfz ho hol hcell hsp hn hs hbig (stn := .tip g) (fun k hk => by cases hk; exact hglt) (by simp) ?_
          intro o' l' vs' e' st' e1 e2 e3 e4
          rw [Mem.get_put] at e3
          by_cases hoo : o' = o
          · rw [if_pos hoo] at e3
            cases e3
            subst hoo
            rw [hl] at e1; cases e1
            exact ⟨g, rfl, rfl, by omega⟩
          · rw [if_neg hoo] at e3
            rw [alive_put_other (fun k hk => by
              rintro rfl
              have := alive_grp e4 hk
              rw [Mem.get_put, if_pos rfl] at this
              cases this)] at e4
            obtain ⟨vs2, e2', st2, hx, hd⟩ := h.group_alone hl hget (g := g) rfl hal hoo e1 e2
            rw [e3] at hx; cases hx
            obtain ⟨_, h7⟩ := hd e4
            obtain ⟨h8, h9⟩ := h7 rfl
            exact ⟨g, rfl, h8, by omega⟩
        | false =>
          rw [hend] at ha
          simp only [cond_false, Option.some.injEq] at ha
          rw [Prod.ext_iff] at ha
          obtain ⟨e1, e2⟩ := ha
          simp only at e1 e2
          subst e1; subst e2
          refine append_fin (P := P) (h.kill ⟨true, hgrp⟩) (Ext.put_group ⟨true, hgrp⟩) hi hB hlt hob.esz.symm h1 h2 hfz ho hol hcell hsp hn hs hbig (stn := .sole) (fun k hk => by cases hk) (by simp) ?_
          intro o' l' vs' e' st' e1 e2 e3 e4
          exfalso
          rw [Mem.get_put] at e3
          split at e3
          · cases e3
          have hk : ∀ k, st'.grp = some k → k ≠ g := by
            rintro k hk rfl
            have := alive_grp e4 hk
            rw [Mem.get_put, if_pos rfl] at this
            cases this
          rw [alive_put_other hk] at e4
          by_cases hoo : o' = o
          · subst hoo
            rw [hget] at e3; cases e3
            exact hk g rfl rfl
          · obtain ⟨vs2, e2', st2, hx, hd⟩ := h.group_alone hl hget (g := g) rfl hal hoo e1 e2
            rw [e3] at hx; cases hx
            exact hk g (hd e4).1 rfl
      | old g =>
        obtain ⟨hB, hfz⟩ := h4 (by simp)
        simp only at ha
        have hgrp := alive_grp hal (g := g) rfl
        simp only [Option.some.injEq] at ha
        rw [Prod.ext_iff] at ha
        obtain ⟨e1, e2⟩ := ha
        simp only at e1 e2
        subst e1; subst e2
        refine append_fin (P := P) (h.kill ⟨true, hgrp⟩) (Ext.put_group ⟨true, hgrp⟩) hi hB hlt hob.esz.symm h1 h2 hfz ho hol hcell hsp hn hs hbig (stn := .sole) (fun k hk => by cases hk) (by simp) ?_
        intro o' l' vs' e' st' e1 e2 e3 e4
        exfalso
        rw [Mem.get_put] at e3
        split at e3
        · cases e3
        have hk : ∀ k, st'.grp = some k → k ≠ g := by
          rintro k hk rfl
          have := alive_grp e4 hk
          rw [Mem.get_put, if_pos rfl] at this
          cases this
        rw [alive_put_other hk] at e4
        by_cases hoo : o' = o
        · subst hoo
          rw [hget] at e3; cases e3
          exact hk g rfl rfl
        · obtain ⟨vs2, e2', st2, hx, hd⟩ := h.group_alone hl hget (g := g) rfl hal hoo e1 e2
          rw [e3] at hx; cases hx
          exact hk g (hd e4).1 rfl
  | false =>
    rw [hu] at ha
    simp only [cond_false] at ha
    have hlt' : cap < UNK := by
      rcases Nat.lt_or_ge cap UNK with h' | h'
      · exact h'
      · rw [Nat.ble_eq_true_of_le h'] at hu; cases hu
    have hcc := hcap hlt'
    subst hcc
    cases hr : Nat.ble (len + n) cap' with
    | true =>
      have hr' := Nat.le_of_ble_eq_true hr
      rw [hr] at ha
      simp only [cond_true] at ha
      cases hst : m.storeN o (off + len * esz) new with
      | none => rw [hst] at ha; cases ha
      | some m2 =>
        rw [hst] at ha
        simp only [Option.bind_some, Option.some.injEq, Prod.mk.injEq] at ha
        obtain ⟨rfl, rfl⟩ := ha
        obtain ⟨w', r1, r2, r3⟩ := h.store (P := P) hl hst hn
        rw [show l.base + (off + len * esz) = l.base + off + len * esz from by omega] at r1
        exact ⟨_, w', run_append_of_store (P := P) hi hs hr' r1, μ, VRel.slice hl hcap (fun hc => absurd hlt' (Nat.not_lt.2 hc)), r2, r3⟩
    | false =>
      rw [hr] at ha
      simp only [cond_false, Option.some.injEq] at ha
      rw [Prod.ext_iff] at ha
      obtain ⟨e1, e2⟩ := ha
      simp only at e1 e2
      subst e1; subst e2
      have hr' : cap' < len + n := by
        rcases Nat.lt_or_ge cap' (len + n) with h' | h'
        · exact h'
        · rw [Nat.ble_eq_true_of_le h'] at hr; cases hr
      have hol' : olds'.length = len * esz := by rw [← ho.len]; exact hol
      exact grow_sound (P := P) h hi (base := some ⟨l.blk, l.base + off, none⟩) (sLen := len) (sCap := cap') (n := n) (x := x) (olds' := olds')
        (run_firstCells_some w.drew esz len _ len cap' olds' hol' (fun j u hu => by rw [addr_add]; simpa using hcell j u hu)) ho hol' hn hs hr' hbig (st' := .sole) (fun g hg => by cases hg)

/-- the whole append -/
theorem append_sound {C : Ctx} (hC : C.Ok P) (h : Rel B w0 μ m w) {st xt ty : TypeId} {s x s' x' v : Value} {m' : Mem} (hs : VRel μ s s') (hx : VRel μ x x') (ha : aappend C st xt s x m = some (v, m')) :
    ∃ v' w', (Builtin.append_ #[st, xt] ty #[s', x']).run P w = .ok v' w' ∧ Sim B w0 μ m v m' v' w' := by
  unfold aappend at ha
  cases he : elemSz C st with
  | none => rw [he] at ha; cases ha
  | some esz =>
    rw [he] at ha
    obtain ⟨e, i, z, hi⟩ := elemSz_info hC he
    simp only [Option.bind_some] at ha
    cases hok : srcOk C xt with
    | false => rw [hok] at ha; cases ha
    | true =>
      rw [hok] at ha
      simp only [cond_true] at ha
      cases hn : lenV x with
      | none => rw [hn] at ha; cases ha
      | some n =>
        rw [hn] at ha
        simp only [Option.bind_some] at ha
        cases hsrc : srcCells esz n x m with
        | none => rw [hsrc] at ha; cases ha
        | some new =>
          rw [hsrc] at ha
          simp only [Option.bind_some] at ha
          cases hc : new.all isCell with
          | false => rw [hc] at ha; cases ha
          | true =>
            rw [hc] at ha
            simp only [cond_true] at ha
            obtain ⟨new', hr, hsr⟩ := src_sound (P := P) hC h hok hx hn hsrc hc
            cases hs with
            | snil =>
              simp only [Nat.beq_refl, Bool.true_and] at ha
              cases hz : Nat.ble n BIG with
              | false => rw [hz] at ha; cases ha
              | true =>
                rw [hz] at ha
                have h3 := Nat.le_of_ble_eq_true hz
                simp only [cond_true] at ha
                cases hn0 : Nat.beq n 0 with
                | true =>
                  have := Nat.eq_of_beq_eq_true hn0
                  subst this
                  rw [hn0] at ha
                  simp only [cond_true, Option.some.injEq, Prod.mk.injEq] at ha
                  obtain ⟨rfl, rfl⟩ := ha
                  refine ⟨.slice none 0 0, w, ?_, μ, .snil, h, Ext.refl _ _⟩
                  have hsz := hi.size
                  subst hsz
                  rcases hsr.kind with ⟨e', hk⟩ | hk <;> simp [Builtin.append_, run_underlying hi.ty, run_underlying hk, sizeOf, typeInfo, hi.info, hsr.len, hsr.cells]
                | false =>
                  rw [hn0] at ha
                  simp only [cond_false, Option.some.injEq] at ha
                  rw [Prod.ext_iff] at ha
                  obtain ⟨e1, e2⟩ := ha
                  simp only at e1 e2
                  subst e1; subst e2
                  have hpos : 0 < n := by
                    rcases Nat.eq_zero_or_pos n with h' | h'
                    · subst h'; cases hn0
                    · exact h'
                  have := grow_sound (P := P) h hi (xt := xt) (ty := ty) (base := none) (sLen := 0) (sCap := 0) (n := n) (x := x') (olds := []) (olds' := []) (new := new)
                    (run_firstCells_none w.drew esz 0 0 0) .nil (by simp) hr hsr (by omega) (by omega) (st' := .sole) (fun g hg => by cases hg)
                  simpa using this
            | slice hl hcap hunk =>
              rename_i o off len cap cap' l
              simp only at ha
              cases hbig : Nat.ble (len + n) BIG with
              | false => rw [hbig] at ha; cases ha
              | true =>
                rw [hbig] at ha
                simp only [cond_true] at ha
                cases hg : m.get o with
                | none => rw [hg] at ha; cases ha
                | some obj =>
                  rw [hg] at ha
                  cases obj with
                  | map es k => cases ha
                  | group a => cases ha
                  | cells vs e2 ost =>
                    simp only at ha
                    cases hz : (m.alive ost && Nat.beq e2 esz && Nat.ble (off + len * esz) vs.length) with
                    | false => rw [hz] at ha; cases ha
                    | true =>
                      rw [hz] at ha
                      rw [Bool.and_eq_true, Bool.and_eq_true] at hz
                      have h2 := Nat.eq_of_beq_eq_true hz.1.2
                      subst h2
                      simp only [cond_true] at ha
                      exact appendTo_sound (P := P) h hi hl hg hz.1.1 (Nat.le_of_ble_eq_true hz.2) hcap hunk hr hc hsr (Nat.le_of_ble_eq_true hbig) ha
            | semp =>
              rename_i a a' c'
              obtain ⟨o, off, sp⟩ := a
              cases sp with
              | some q => cases ha
              | none =>
              simp only at ha
              cases hbig : Nat.ble (0 + n) BIG with
              | false => rw [hbig] at ha; cases ha
              | true =>
                rw [hbig] at ha
                simp only [cond_true] at ha
                cases hg : m.get o with
                | none => rw [hg] at ha; cases ha
                | some obj =>
                  rw [hg] at ha
                  cases obj with
                  | map es k => cases ha
                  | group a => cases ha
                  | cells vs e2 ost =>
                    simp only at ha
                    cases hz : (m.alive ost && Nat.beq e2 esz && Nat.ble (off + 0 * esz) vs.length) with
                    | false => rw [hz] at ha; cases ha
                    | true =>
                      rw [hz] at ha
                      simp only [cond_true, appendTo] at ha
                      rw [show Nat.ble UNK UNK = true from Nat.ble_eq_true_of_le (Nat.le_refl _)] at ha
                      simp only [cond_true] at ha
                      have hpos := hi.pos
                      have hne : Nat.beq (szOf UNK) esz = false := by
                        have e0 : szOf UNK = 0 := by decide
                        cases hq : Nat.beq (szOf UNK) esz with
                        | false => rfl
                        | true => have := Nat.eq_of_beq_eq_true hq; omega
                      rw [hne] at ha
                      cases ha
            | _ => cases ha

end
end Go.Ev
