/- A part of an evaluator of the model and of the proof that what it answers the model does; no condition. -/
import Derived.Test.YtcjmogljihkfnaaEvOpsE
set_option linter.unusedVariables false
set_option linter.unusedSimpArgs false
namespace Go.Ev
set_option linter.unusedSectionVars false
variable [Atoms]
open Go.RowKit (Below)

section
variable {B : Nat} {w0 : World} {μ : Mu} {m : Mem} {w : World} {P : Program} {C : Ctx}

theorem mapTypes_spec (hC : C.Ok P) {t : TypeId} {d : TypeDesc} {e : TypeId} (h : mapTypes C t = some (d, e)) : ∃ k, P.underlying t = some (.map k e) ∧ P.underlying k = some d ∧ basicKey d = true := by
  unfold mapTypes at h
  split at h
  · rename_i k e' hu
    cases hk : C.under k with
    | none => rw [hk] at h; cases h
    | some d' =>
      rw [hk] at h
      simp only [Option.bind_some] at h
      cases hb : basicKey d' with
      | false => rw [hb] at h; cases h
      | true =>
        rw [hb] at h
        simp only [cond_true, Option.some.injEq, Prod.mk.injEq] at h
        obtain ⟨rfl, rfl⟩ := h
        exact ⟨k, hC.under hu, hC.under hk, hb⟩
  · cases h

theorem beqBytes (a b : ByteArray) : (a == b) = strEq a.data.toList b.data.toList := by
  rw [beq_toListBytes, ByteArray.toList_eq, ByteArray.toList_eq, strEq_iff]

theorem keyEq_spec {d : TypeDesc} {k a k' a' : Value} {b : Bool} (hk : VRel μ k k') (ha : VRel μ a a') (h : keyEq d k a = some b) :
    Instr.sameNow d k' a' = some b ∧ (b = true → ∀ n, Instr.sameBits (n + 1) a' k' = true) := by
  unfold keyEq at h
  split at h
  · rename_i q j x j' y
    cases hk; cases ha
    cases hd : decide (j = j') with
    | false => rw [hd] at h; cases h
    | true =>
      rw [hd] at h
      simp only [cond_true, Option.some.injEq] at h
      have := of_decide_eq_true hd
      subst this; subst h
      refine ⟨by simp [Instr.sameNow]; rfl, fun ht n => ?_⟩
      have := of_decide_eq_true ht
      subst this
      simp [Instr.sameBits]
  · rename_i x y
    cases hk; cases ha
    simp only [Option.some.injEq] at h
    subst h
    refine ⟨by simp [Instr.sameNow, beqBytes], fun ht n => ?_⟩
    simp only [Instr.sameBits, beqBytes]
    rw [strEq_iff] at ht ⊢
    rw [beq_iff_eq] at ht ⊢
    exact ht.symm
  · rename_i x y
    cases hk; cases ha
    simp only [Option.some.injEq] at h
    subst h
    refine ⟨by simp [Instr.sameNow], fun ht n => ?_⟩
    simp only [Instr.sameBits]
    rw [beq_iff_eq] at ht ⊢
    exact ht.symm
  · cases h

theorem findKey_spec {d : TypeDesc} {k k' : Value} (hk : VRel μ k k') : ∀ (es : List (Value × Value)) (fs : List MapEntry) (i : Nat), es.length = fs.length →
    (∀ (j : Nat) (a v : Value) (e : MapEntry), es[j]? = some (a, v) → fs[j]? = some e → VRel μ a e.key ∧ VRel μ v e.val) → ∀ r, findKey d k es = some r →
    (r = none → Instr.findNow d k' fs i = some none) ∧ (∀ v, r = some v → ∃ j v', Instr.findNow d k' fs i = some (some (i + j, v')) ∧ VRel μ v v' ∧ (∃ e, fs[j]? = some e ∧ e.val = v' ∧ ∀ n, Instr.sameBits (n + 1) e.key k' = true))
  | [], fs, i, hl, _, r, h => by
    cases fs with
    | nil => simp only [findKey, Option.some.injEq] at h; subst h; exact ⟨fun _ => rfl, fun v hv => by cases hv⟩
    | cons => simp at hl
  | (a, v) :: es, fs, i, hl, hr, r, h => by
    cases fs with
    | nil => simp at hl
    | cons e fs =>
      obtain ⟨h1, h2⟩ := hr 0 a v e rfl rfl
      simp only [findKey] at h
      cases hb : keyEq d k a with
      | none => rw [hb] at h; cases h
      | some b =>
        rw [hb] at h
        simp only [Option.bind_some] at h
        obtain ⟨h3, h4⟩ := keyEq_spec hk h1 hb
        cases b with
        | true =>
          simp only [cond_true, Option.some.injEq] at h
          subst h
          refine ⟨(fun q => by cases q), fun v' hv' => ?_⟩
          cases hv'
          exact ⟨0, e.val, by simp [Instr.findNow, h3], h2, e, rfl, rfl, h4 rfl⟩
        | false =>
          simp only [cond_false] at h
          obtain ⟨h5, h6⟩ := findKey_spec hk es fs (i + 1) (by simpa using hl) (fun j x y z hx hz => hr (j + 1) x y z (by simpa using hx) (by simpa using hz)) r h
          refine ⟨fun q => by simp only [Instr.findNow, h3]; exact h5 q, fun u hu => ?_⟩
          obtain ⟨j, v', h7, h8, e', h9, h10⟩ := h6 u hu
          exact ⟨j + 1, v', by simp only [Instr.findNow, h3]; rw [h7]; congr 3; omega, h8, e', by simpa using h9, h10⟩

theorem run_checkKey {k : TypeId} {d : TypeDesc} (hu : P.underlying k = some d) (hb : basicKey d = true) (empty : Bool) (n : Nat) (v : Value) (w : World) :
    (Instr.checkKey empty (n + 1) k v).run P w = .ok () w := by
  cases d <;> try (cases hb; done)
  all_goals (cases v <;> simp [Instr.checkKey, run_underlying hu])

theorem run_findKey {k : TypeId} {d : TypeDesc} (hu : P.underlying k = some d) {key : Value} {fs : List MapEntry} {r : Option (Nat × Value)} (h : Instr.findNow d key fs 0 = some r) (w : World) :
    (Instr.findKey k key fs).run P w = .ok r w := by
  simp [Instr.findKey, run_underlying hu, h]

theorem lookup_sound (hC : C.Ok P) (h : Rel B w0 μ m w) {t : TypeId} {x x' k k' v : Value} {ok : Bool} (hx : VRel μ x x') (hk : VRel μ k k') (hp : alookup C t x k ok m = some v) :
    OpRes P B w0 μ m (Instr.lookup t x' k' ok) w v m := by
  unfold alookup at hp
  cases hm : mapTypes C t with
  | none => rw [hm] at hp; cases hp
  | some de =>
  obtain ⟨d, e⟩ := de
  rw [hm] at hp
  obtain ⟨kt, hu, hku, hb⟩ := mapTypes_spec hC hm
  simp only [Option.bind_some] at hp
  have fin : ∀ (es : List (Value × Value)) (fs : Array MapEntry), ERel μ es fs → (findKey d k es).bind (fun r => match r with
          | some v => some (bif ok then .tuple ⟨[v, .bool true]⟩ else v)
          | none => (C.info e).bind fun i => i.zero.bind fun z => some (bif ok then .tuple ⟨[z, .bool false]⟩ else z)) = some v →
      ∃ r vv, (Instr.findKey kt k' fs.toList).run P w = .ok r w ∧ VRel μ v vv ∧
        ((∃ j v', r = some (j, v') ∧ vv = (if ok then .tuple #[v', .bool true] else v')) ∨ (r = none ∧ ∃ z, (zeroValue e).run P w = .ok z w ∧ vv = (if ok then .tuple #[z, .bool false] else z))) := by
    intro es fs he hp
    cases hf : findKey d k es with
    | none => rw [hf] at hp; cases hp
    | some r =>
      rw [hf] at hp
      simp only [Option.bind_some] at hp
      obtain ⟨h1, h2⟩ := findKey_spec (d := d) hk es fs.toList 0 (by simpa using he.len) (fun j a u en ha hen => he.rel j a u en ha (by simpa using hen)) r hf
      cases r with
      | some u =>
        simp only [Option.some.injEq] at hp
        obtain ⟨j, v', h3, h4, _⟩ := h2 u rfl
        refine ⟨some (0 + j, v'), (if ok then .tuple #[v', .bool true] else v'), run_findKey hku h3 w, ?_, .inl ⟨_, v', rfl, rfl⟩⟩
        subst hp
        cases ok
        · exact h4
        · exact .tuple' (.cons h4 (.cons (.bool _) .nil))
      | none =>
        simp only at hp
        cases hi : C.info e with
        | none => rw [hi] at hp; cases hp
        | some i =>
          rw [hi] at hp
          simp only [Option.bind_some] at hp
          cases hz : i.zero with
          | none => rw [hz] at hp; cases hp
          | some z =>
            rw [hz] at hp
            simp only [Option.bind_some, Option.some.injEq] at hp
            have hzr := hC.zeroRel hi hz μ
            refine ⟨none, (if ok then .tuple #[z, .bool false] else z), run_findKey hku (h1 rfl) w, ?_, .inr ⟨rfl, z, run_zeroValue (hC.info hi) hz w, rfl⟩⟩
            subst hp
            cases ok
            · exact hzr
            · exact .tuple' (.cons hzr (.cons (.bool _) .nil))
  cases hx with
  | mnil =>
    simp only [Option.bind_some] at hp
    obtain ⟨r, vv, h1, h2, h3⟩ := fin [] #[] ⟨rfl, fun i _ _ _ hh => by simp at hh⟩ hp
    refine ⟨vv, w, ?_, .same h h2⟩
    rcases h3 with ⟨j, v', rfl, rfl⟩ | ⟨rfl, z, hz, rfl⟩
    · simp only [Instr.lookup, Sem.run_bind, run_underlying hu, Result.andThen_ok, Sem.run_pure, run_checkKey hku hb _ 9999, h1]
    · simp only [Instr.lookup, Sem.run_bind, run_underlying hu, Result.andThen_ok, Sem.run_pure, run_checkKey hku hb _ 9999, h1, hz]
  | map hr =>
    rename_i r l
    cases hg : m.get r with
    | none => simp only [hg] at hp; cases hp
    | some obj =>
      simp only [hg] at hp
      cases obj with
      | cells => cases hp
      | group => cases hp
      | map es ck =>
        simp only [Option.bind_some] at hp
        have hob := h.obj r l hr
        rw [hg] at hob
        obtain ⟨fs, ck', hb1, hb2⟩ := hob.blk
        obtain ⟨r', vv, h1, h2, h3⟩ := fin es fs hb2 hp
        have hget : (getObj l.blk).run P w = .ok (.map fs ck') w := by simp [getObj, Sem.run, hb1]
        refine ⟨vv, w, ?_, .same h h2⟩
        rcases h3 with ⟨j, v', rfl, rfl⟩ | ⟨rfl, z, hz, rfl⟩
        · simp only [Instr.lookup, Sem.run_bind, run_underlying hu, Result.andThen_ok, Sem.run_pure, hget, run_checkKey hku hb _ 9999, h1]
        · simp only [Instr.lookup, Sem.run_bind, run_underlying hu, Result.andThen_ok, Sem.run_pure, hget, run_checkKey hku hb _ 9999, h1, hz]
  | _ => cases hp

theorem setKey_spec {d : TypeDesc} {k k' x x' : Value} (hk : VRel μ k k') (hx : VRel μ x x') : ∀ (es : List (Value × Value)) (fs : List MapEntry) (i : Nat), es.length = fs.length →
    (∀ (j : Nat) (a v : Value) (e : MapEntry), es[j]? = some (a, v) → fs[j]? = some e → VRel μ a e.key ∧ VRel μ v e.val) → ∀ r, setKey d k x es = some r →
    (Instr.findNow d k' fs i = some none ∧ r = es ++ [(k, x)]) ∨
    (∃ j v', Instr.findNow d k' fs i = some (some (i + j, v')) ∧ (∃ e, fs[j]? = some e ∧ ∀ n, Instr.sameBits (n + 1) e.key k' = true) ∧ j < es.length ∧ r = es.set j (k, x))
  | [], fs, i, hl, _, r, h => by
    cases fs with
    | nil => simp only [setKey, Option.some.injEq] at h; subst h; exact .inl ⟨rfl, rfl⟩
    | cons => simp at hl
  | (a, v) :: es, fs, i, hl, hr, r, h => by
    cases fs with
    | nil => simp at hl
    | cons e fs =>
      obtain ⟨h1, h2⟩ := hr 0 a v e rfl rfl
      simp only [setKey] at h
      cases hb : keyEq d k a with
      | none => rw [hb] at h; cases h
      | some b =>
        rw [hb] at h
        simp only [Option.bind_some] at h
        obtain ⟨h3, h4⟩ := keyEq_spec hk h1 hb
        cases b with
        | true =>
          simp only [cond_true, Option.some.injEq] at h
          subst h
          exact .inr ⟨0, e.val, by simp [Instr.findNow, h3], ⟨e, rfl, h4 rfl⟩, by simp, rfl⟩
        | false =>
          simp only [cond_false] at h
          cases hs : setKey d k x es with
          | none => rw [hs] at h; cases h
          | some r' =>
            rw [hs] at h
            simp only [Option.bind_some, Option.some.injEq] at h
            subst h
            rcases setKey_spec hk hx es fs (i + 1) (by simpa using hl) (fun j x y z hx hz => hr (j + 1) x y z (by simpa using hx) (by simpa using hz)) r' hs with ⟨h5, h6⟩ | ⟨j, v', h5, ⟨e', h6, h7⟩, h8, h9⟩
            · left; exact ⟨by simp only [Instr.findNow, h3]; exact h5, by rw [h6]; rfl⟩
            · right
              exact ⟨j + 1, v', by simp only [Instr.findNow, h3]; rw [h5]; congr 3; omega, ⟨e', by simpa using h6, h7⟩, by simp; omega, by rw [h9]; rfl⟩

theorem delKey_spec {d : TypeDesc} {k k' : Value} (hk : VRel μ k k') : ∀ (es : List (Value × Value)) (fs : List MapEntry) (i : Nat), es.length = fs.length →
    (∀ (j : Nat) (a v : Value) (e : MapEntry), es[j]? = some (a, v) → fs[j]? = some e → VRel μ a e.key ∧ VRel μ v e.val) → ∀ r, delKey d k es = some r →
    (Instr.findNow d k' fs i = some none ∧ r = es) ∨
    (∃ j v', Instr.findNow d k' fs i = some (some (i + j, v')) ∧ j < es.length ∧ r = es.eraseIdx j)
  | [], fs, i, hl, _, r, h => by
    cases fs with
    | nil => simp only [delKey, Option.some.injEq] at h; subst h; exact .inl ⟨rfl, rfl⟩
    | cons => simp at hl
  | (a, v) :: es, fs, i, hl, hr, r, h => by
    cases fs with
    | nil => simp at hl
    | cons e fs =>
      obtain ⟨h1, h2⟩ := hr 0 a v e rfl rfl
      simp only [delKey] at h
      cases hb : keyEq d k a with
      | none => rw [hb] at h; cases h
      | some b =>
        rw [hb] at h
        simp only [Option.bind_some] at h
        obtain ⟨h3, h4⟩ := keyEq_spec hk h1 hb
        cases b with
        | true =>
          simp only [cond_true, Option.some.injEq] at h
          subst h
          exact .inr ⟨0, e.val, by simp [Instr.findNow, h3], by simp, rfl⟩
        | false =>
          simp only [cond_false] at h
          cases hs : delKey d k es with
          | none => rw [hs] at h; cases h
          | some r' =>
            rw [hs] at h
            simp only [Option.bind_some, Option.some.injEq] at h
            subst h
            rcases delKey_spec hk es fs (i + 1) (by simpa using hl) (fun j x y z hx hz => hr (j + 1) x y z (by simpa using hx) (by simpa using hz)) r' hs with ⟨h5, h6⟩ | ⟨j, v', h5, h8, h9⟩
            · left; exact ⟨by simp only [Instr.findNow, h3]; exact h5, by rw [h6]⟩
            · right
              exact ⟨j + 1, v', by simp only [Instr.findNow, h3]; rw [h5]; congr 3; omega, by simp; omega, by rw [h9]; rfl⟩

/-- a map's entries turn -/
theorem Rel.put_map (h : Rel B w0 μ m w) {r : Nat} {l : Loc} {es es2 : List (Value × Value)} {k k2 : Nat} (hl : μ r = some l) (hg : m.get r = some (.map es k)) {fs2 : Array MapEntry} {ck : Nat}
    (he : ERel μ es2 fs2) : Rel B w0 μ (m.put r (.map es2 k2)) { w with heap := w.heap.setIfInBounds l.blk (.map fs2 ck) } ∧ Ext μ m μ (m.put r (.map es2 k2)) := by
  refine ⟨?_, Ext.put ⟨l, hl⟩⟩
  have hob := h.obj r l hl
  rw [hg] at hob
  obtain ⟨fs, ck', hb1, hb2⟩ := hob.blk
  have hB := hob.own
  have hlt := (h.dom r l hl).2
  have hother : ∀ k, k ≠ l.blk → (w.heap.setIfInBounds l.blk (.map fs2 ck))[k]? = w.heap[k]? := fun k hk => by rw [Array.getElem?_setIfInBounds_ne (Ne.symm hk)]
  have halive : ∀ st : Stat, (m.put r (.map es2 k2)).alive st = true → m.alive st = true := by
    intro st' ha
    cases hs' : st'.grp with
    | none => cases st' <;> first | rfl | cases hs'
    | some k =>
      have hk := alive_grp ha hs'
      rw [Mem.get_put] at hk
      split at hk
      · cases hk
      · exact alive_of_grp hs' hk
  have alone : ∀ o' l', o' ≠ r → μ o' = some l' → l'.blk ≠ l.blk := by
    intro o' l' hne e1 e2
    have := h.sep r o' l l' hne.symm hl e1 e2.symm
    rw [hg] at this
    cases hx : m.get o' with
    | none => rw [hx] at this; exact this
    | some x => rw [hx] at this; cases x <;> exact this
  refine ⟨h.below.trans ⟨rfl, rfl, rfl, by simp, fun k hk => hother k (by omega)⟩, by simpa using h.base, fun o' l' e => by simpa using h.dom o' l' e, ?_, ?_⟩
  · intro o' l' e
    by_cases hoo : o' = r
    · subst hoo
      rw [hl] at e; cases e
      rw [Mem.get_put, if_pos rfl]
      exact ⟨hB, fs2, ck, by simp [hlt], he⟩
    · rw [Mem.get_put, if_neg hoo]
      exact ((h.obj o' l' e).weaken (by simp) fun _ _ st' _ ha => halive st' ha).heap (hother _ (alone o' l' hoo e))
  · intro o1 o2 l1 l2 hne e1 e2 hb
    by_cases h1 : o1 = r
    · subst h1
      rw [hl] at e1; cases e1
      exact absurd hb.symm (alone o2 l2 hne.symm e2)
    · by_cases h2 : o2 = r
      · subst h2
        rw [hl] at e2; cases e2
        exact absurd hb (alone o1 l1 hne e1)
      · rw [Mem.get_put, Mem.get_put, if_neg h1, if_neg h2]
        exact (h.sep o1 o2 l1 l2 hne e1 e2 hb).weaken fun _ _ st' _ ha => halive st' ha

theorem run_setObj {r : Nat} {o o2 : Obj} (h : w.heap[r]? = some o) (hc : ∀ c e f, o ≠ .cells c e f) : (setObj r o2).run P w = .ok () { w with heap := w.heap.setIfInBounds r o2 } := by
  cases o <;> simp [setObj, Sem.run, h]
  rename_i c e f
  exact absurd rfl (hc c e f)

theorem mapUpdate_sound (hC : C.Ok P) (h : Rel B w0 μ m w) {t : TypeId} {x x' k k' v v' : Value} {m' : Mem} (hx : VRel μ x x') (hk : VRel μ k k') (hv : VRel μ v v') (hp : aupdate C t x k v m = some m') :
    ∃ w', (Instr.mapUpdate t x' k' v').run P w = .ok () w' ∧ Rel B w0 μ m' w' ∧ Ext μ m μ m' := by
  unfold aupdate at hp
  cases hm : mapTypes C t with
  | none => rw [hm] at hp; cases hp
  | some de =>
  obtain ⟨d, e⟩ := de
  rw [hm] at hp
  obtain ⟨kt, hu, hku, hb⟩ := mapTypes_spec hC hm
  simp only [Option.bind_some] at hp
  cases hx with
  | map hr =>
    rename_i r l
    cases hg : m.get r with
    | none => simp only [hg] at hp; cases hp
    | some obj =>
      simp only [hg] at hp
      cases obj with
      | cells => cases hp
      | group => cases hp
      | map es ck =>
        simp only at hp
        cases hs : setKey d k v es with
        | none => rw [hs] at hp; cases hp
        | some es2 =>
          rw [hs] at hp
          simp only [Option.bind_some, Option.some.injEq] at hp
          subst hp
          have hob := h.obj r l hr
          rw [hg] at hob
          obtain ⟨fs, ck', hb1, hb2⟩ := hob.blk
          have hget : (getObj l.blk).run P w = .ok (.map fs ck') w := by simp [getObj, Sem.run, hb1]
          have hset : ∀ o2, (setObj l.blk o2).run P w = .ok () { w with heap := w.heap.setIfInBounds l.blk o2 } := fun o2 => run_setObj hb1 (fun _ _ _ q => by cases q)
          rcases setKey_spec hk hv es fs.toList 0 (by simpa using hb2.len) (fun j a u en ha hen => hb2.rel j a u en ha (by simpa using hen)) es2 hs with ⟨h1, h2⟩ | ⟨j, v2, h1, ⟨en, h2, h3⟩, h4, h5⟩
          · obtain ⟨a1, a2⟩ := h.put_map hr hg (es2 := es2) (k2 := ck) (fs2 := fs.push { key := k', val := v', born := ck' }) (ck := ck' + 1) (by
              subst h2
              refine ⟨by simp [hb2.len], fun i a u en ha hen => ?_⟩
              by_cases hi : i < es.length
              · rw [List.getElem?_append_left hi] at ha
                rw [Array.getElem?_push_lt (by rw [← hb2.len]; exact hi)] at hen
                exact hb2.rel i a u en ha (by rw [Array.getElem?_eq_getElem]; exact hen)
              · rw [List.getElem?_append_right (by omega)] at ha
                have hi0 : i - es.length = 0 := by
                  have := (List.getElem?_eq_some_iff.1 ha).1
                  simp at this; omega
                rw [hi0] at ha
                simp only [List.getElem?_cons_zero, Option.some.injEq, Prod.mk.injEq] at ha
                have : i = fs.size := by have := hb2.len; omega
                subst this
                simp only [Array.getElem?_push_size, Option.some.injEq] at hen
                subst hen
                exact ⟨ha.1 ▸ hk, ha.2 ▸ hv⟩)
            refine ⟨_, ?_, a1, a2⟩
            simp only [Instr.mapUpdate, Sem.run_bind, run_underlying hu, Result.andThen_ok, hget, run_checkKey hku hb _ 9999, run_findKey hku h1, hset]
          · obtain ⟨a1, a2⟩ := h.put_map hr hg (es2 := es2) (k2 := ck) (fs2 := fs.modify (0 + j) fun e => { e with key := k', val := v' }) (ck := ck') (by
              subst h5
              refine ⟨by simp [hb2.len], fun i a u en ha hen => ?_⟩
              rw [Nat.zero_add, Array.getElem?_modify] at hen
              rw [List.getElem?_set] at ha
              by_cases hij : j = i
              · subst hij
                rw [if_pos rfl, if_pos h4] at ha
                rw [if_pos rfl] at hen
                simp only [Option.some.injEq, Prod.mk.injEq] at ha
                cases hf : fs[j]? with
                | none => rw [hf] at hen; cases hen
                | some e0 =>
                  rw [hf] at hen
                  simp only [Option.map_some, Option.some.injEq] at hen
                  subst hen
                  exact ⟨ha.1 ▸ hk, ha.2 ▸ hv⟩
              · rw [if_neg hij] at ha hen
                exact hb2.rel i a u en ha hen)
            have hstay : (Instr.keyThatStays (((fs[0 + j]?).map (·.key)).getD k') k').run P w = .ok k' w := by
              have e1 : fs[0 + j]? = some en := by rw [Nat.zero_add]; simpa using h2
              rw [e1]
              simp only [Instr.keyThatStays, Option.map_some, Option.getD_some, h3 9999, if_true, Sem.run_pure]
            refine ⟨_, ?_, a1, a2⟩
            simp only [Instr.mapUpdate, Sem.run_bind, run_underlying hu, Result.andThen_ok, hget, run_checkKey hku hb _ 9999, run_findKey hku h1, hset, hstay]
  | _ => cases hp

theorem delete_sound (hC : C.Ok P) (h : Rel B w0 μ m w) {t u ty : TypeId} {x x' k k' : Value} {m' : Mem} (hx : VRel μ x x') (hk : VRel μ k k') (hp : adelete C t x k m = some m') :
    ∃ w', (Builtin.delete_ #[t, u] ty #[x', k']).run P w = .ok (.tuple #[]) w' ∧ Rel B w0 μ m' w' ∧ Ext μ m μ m' := by
  unfold adelete at hp
  cases hm : mapTypes C t with
  | none => rw [hm] at hp; cases hp
  | some de =>
  obtain ⟨d, e⟩ := de
  rw [hm] at hp
  obtain ⟨kt, hu, hku, hb⟩ := mapTypes_spec hC hm
  simp only [Option.bind_some] at hp
  cases hx with
  | mnil =>
    simp only [Option.some.injEq] at hp
    subst hp
    exact ⟨w, by simp [Builtin.delete_, run_underlying hu, run_checkKey hku hb _ 9999], h, Ext.refl _ _⟩
  | map hr =>
    rename_i r l
    cases hg : m.get r with
    | none => simp only [hg] at hp; cases hp
    | some obj =>
      simp only [hg] at hp
      cases obj with
      | cells => cases hp
      | group => cases hp
      | map es ck =>
        simp only at hp
        cases hs : delKey d k es with
        | none => rw [hs] at hp; cases hp
        | some es2 =>
          rw [hs] at hp
          simp only [Option.bind_some, Option.some.injEq] at hp
          subst hp
          have hob := h.obj r l hr
          rw [hg] at hob
          obtain ⟨fs, ck', hb1, hb2⟩ := hob.blk
          have hget : (getObj l.blk).run P w = .ok (.map fs ck') w := by simp [getObj, Sem.run, hb1]
          have hset : ∀ o2, (setObj l.blk o2).run P w = .ok () { w with heap := w.heap.setIfInBounds l.blk o2 } := fun o2 => run_setObj hb1 (fun _ _ _ q => by cases q)
          rcases delKey_spec hk es fs.toList 0 (by simpa using hb2.len) (fun j a u en ha hen => hb2.rel j a u en ha (by simpa using hen)) es2 hs with ⟨h1, h2⟩ | ⟨j, v2, h1, h4, h5⟩
          · subst h2
            obtain ⟨a1, a2⟩ := h.put_map hr hg (k2 := ck) (fs2 := fs) (ck := ck') hb2
            refine ⟨_, ?_, a1, a2⟩
            simp only [Builtin.delete_, List.getElem?_toArray, List.getElem?_cons_zero, List.getElem?_cons_succ, Sem.run_bind, run_underlying hu, Result.andThen_ok, hget, run_checkKey hku hb _ 9999, run_findKey hku h1, hset]
            rfl
          · obtain ⟨a1, a2⟩ := h.put_map hr hg (es2 := es2) (k2 := ck) (fs2 := fs.eraseIdxIfInBounds (0 + j)) (ck := ck') (by
              subst h5
              have hl := hb2.len
              have hto : (fs.eraseIdxIfInBounds (0 + j)).toList = fs.toList.eraseIdx j := by rw [Nat.zero_add]; simp
              refine ⟨?_, fun i a u en ha hen => ?_⟩
              · rw [← Array.length_toList, hto, List.length_eraseIdx, List.length_eraseIdx]; simp [hl]
              · rw [← Array.getElem?_toList, hto, List.getElem?_eraseIdx] at hen
                rw [List.getElem?_eraseIdx] at ha
                split at ha
                · rename_i q; rw [if_pos q] at hen; exact hb2.rel i a u en ha (by simpa using hen)
                · rename_i q; rw [if_neg q] at hen; exact hb2.rel (i + 1) a u en ha (by simpa using hen))
            refine ⟨_, ?_, a1, a2⟩
            simp only [Builtin.delete_, List.getElem?_toArray, List.getElem?_cons_zero, List.getElem?_cons_succ, Sem.run_bind, run_underlying hu, Result.andThen_ok, hget, run_checkKey hku hb _ 9999, run_findKey hku h1, hset]
            rfl
  | _ => cases hp

end
end Go.Ev
