/- A part of an evaluator of the model and of the proof that what it answers the model does; no condition. -/
import Derived.Test.YtcjmogljihkfnaaEvOpsD
set_option linter.unusedVariables false
set_option linter.unusedSimpArgs false
namespace Go.Ev
set_option linter.unusedSectionVars false
variable [Atoms]
open Go.RowKit (Below)

section
variable {B : Nat} {w0 : World} {μ : Mu} {m : Mem} {w : World} {P : Program} {C : Ctx}

theorem bytesOfCells_spec : ∀ (cs : List Value) (l : List UInt8), bytesOfCells cs = some l → ∃ ns : List Int, cs = ns.map (Value.int .u8) ∧ l = ns.map fun n => UInt8.ofNat n.toNat
  | [], l, h => by simp only [bytesOfCells, Option.some.injEq] at h; subst h; exact ⟨[], rfl, rfl⟩
  | v :: r, l, h => by
    unfold bytesOfCells at h
    split at h
    · cases h
      rename_i e; cases e
    · rename_i n r' e
      cases e
      cases hb : bytesOfCells r with
      | none => rw [hb] at h; cases h
      | some l' =>
        rw [hb] at h
        simp only [Option.bind_some, Option.some.injEq] at h
        subst h
        obtain ⟨ns, e1, e2⟩ := bytesOfCells_spec r l' hb
        exact ⟨n :: ns, by rw [e1]; rfl, by rw [e2]; rfl⟩
    · cases h

theorem LRel.ints {k : IntKind} {ns : List Int} {bs : List Value} (h : LRel μ (ns.map (Value.int k)) bs) : bs = ns.map (Value.int k) := by
  apply List.ext_getElem?
  intro i
  cases hn : (ns.map (Value.int k))[i]? with
  | none =>
    rw [List.getElem?_eq_none_iff] at hn ⊢
    rw [← h.len]; exact hn
  | some u =>
    obtain ⟨v, h1, h2⟩ := h.get hn
    rw [h1]
    rw [List.getElem?_map] at hn
    cases hx : ns[i]? with
    | none => rw [hx] at hn; cases hn
    | some n =>
      rw [hx] at hn
      simp only [Option.map_some, Option.some.injEq] at hn
      subst hn
      cases h2
      rfl

theorem convert_sound (hC : C.Ok P) (h : Rel B w0 μ m w) {s d : TypeId} {x x' v : Value} {m' : Mem} (hx : VRel μ x x') (hp : convertV C s d x m = some (v, m')) :
    OpRes P B w0 μ m (convert s d x') w v m' := by
  unfold convertV at hp
  cases hs : C.under s with
  | none => rw [hs] at hp; cases hp
  | some ds =>
  cases hd : C.under d with
  | none => rw [hs, hd] at hp; cases hp
  | some dd =>
  rw [hs, hd] at hp
  have hs' := hC.under hs
  have hd' := hC.under hd
  cases hx with
  | int k n =>
    cases dd <;> try (cases ds <;> cases hp; done)
    rename_i k'
    have : some (Value.int k' (wrapF k' n), m) = some (v, m') := by cases ds <;> exact hp
    simp only [Option.some.injEq, Prod.mk.injEq] at this
    obtain ⟨rfl, rfl⟩ := this
    refine ⟨.int k' (k'.wrap n), w, ?_, .same h (by rw [wrapF_eq]; exact .int _ _)⟩
    simp [convert, run_underlying hs', run_underlying hd', Conv.intToInt]
  | string b =>
    cases dd with
    | string =>
      have : some (Value.string b, m) = some (v, m') := by cases ds <;> exact hp
      simp only [Option.some.injEq, Prod.mk.injEq] at this
      obtain ⟨rfl, rfl⟩ := this
      refine ⟨.string b, w, ?_, .same h (.string _)⟩
      simp [convert, run_underlying hs', run_underlying hd']
    | slice e =>
      have hp' : (match C.under e with
         | some (.int .u8) => some (Value.slice (some ⟨m.next, 0, none⟩) b.data.size (UNK + 1), m.new (.cells (b.data.toList.map fun b => .int .u8 b.toNat) 1 .sole))
         | _ => none) = some (v, m') := by cases ds <;> first | exact hp | cases hp
      split at hp'
      · rename_i he
        have he' := hC.under he
        simp only [Option.some.injEq, Prod.mk.injEq] at hp'
        obtain ⟨rfl, rfl⟩ := hp'
        refine ⟨_, _, Lib.run_convert_string_bytes (P := P) w s d e b hs' hd' he', ?_⟩
        have hn := h.unnamed (Nat.le_refl m.next)
        have hcap := grownCap_ge w b.size 0 e
        have hsz : (Lib.bytesCells w e b).size = grownCap w b.size 0 e := by
          unfold Lib.bytesCells
          rw [Array.size_append, Array.size_map, Array.size_replicate]
          have : b.data.size = b.size := rfl
          omega
        have hbelow : Below w.heap.size w (Lib.bytesWorld w e b) := ⟨rfl, rfl, rfl, by rw [Lib.bytesWorld_size]; omega, fun k hk => Lib.bytesWorld_at_old w e b k hk⟩
        refine ⟨μ.set m.next ⟨w.heap.size, 0, 1, (Lib.bytesCells w e b).size⟩, ?_, ?_, Ext.set (Nat.le_refl _) Ext.new hn⟩
        · refine VRel.slice (l := ⟨w.heap.size, 0, 1, _⟩) (Mu.set_same _ _ _) (fun q => absurd q (by omega)) (fun _ => ⟨⟨(by decide : szOf (UNK + 1) = 1), Nat.le_trans (by decide : lbOf (UNK + 1) ≤ 0) (Nat.zero_le _)⟩, Nat.le_refl _, ?_, hcap⟩)
          simp only [hsz]; omega
        · refine (h.new_obj _).bind_cells (o := m.next) (by simp) hn (by rw [Mem.get_new, if_pos rfl]) (fun g hg => by cases hg) hbelow (Lib.bytesWorld_size w e b) (Lib.bytesWorld_at_new w e b) ?_ ?_ ?_
          · intro i hi; simp only; omega
          · rw [hsz]; simp only [List.length_map, Array.length_toList]; exact hcap
          · intro i u hu
            rw [List.getElem?_map] at hu
            cases hb : b.data.toList[i]? with
            | none => rw [hb] at hu; cases hu
            | some c =>
              rw [hb] at hu
              simp only [Option.map_some, Option.some.injEq] at hu
              subst hu
              refine ⟨.int .u8 c.toNat, ?_, .int _ _⟩
              have hi : i < b.data.size := by simpa using (List.getElem?_eq_some_iff.1 hb).1
              unfold Lib.bytesCells
              rw [Array.getElem?_append_left (by simpa using hi)]
              rw [Array.getElem?_toList] at hb
              simp [hb]
      · cases hp'
    | int k => cases ds <;> cases hp
    | _ => cases ds <;> cases hp
  | snil =>
    cases ds with
    | slice e =>
      cases dd with
      | string =>
        simp only at hp
        split at hp
        · rename_i he
          have he' := hC.under he
          simp only [Option.some.injEq, Prod.mk.injEq] at hp
          obtain ⟨rfl, rfl⟩ := hp
          exact ⟨_, w, run_convert_bytes_nil (P := P) w s e hs' he' 0 0 d hd', .same h (.string _)⟩
        · cases hp
      | _ => cases hp
    | _ => cases dd <;> cases hp
  | slice ho h1 h2 =>
    rename_i o off n c c' l
    cases ds with
    | slice e =>
      cases dd with
      | string =>
        simp only at hp
        split at hp
        · rename_i he
          have he' := hC.under he
          cases hl : m.loadN o off n with
          | none => rw [hl] at hp; cases hp
          | some cs =>
            rw [hl] at hp
            simp only [Option.bind_some] at hp
            cases hb : bytesOfCells cs with
            | none => rw [hb] at hp; cases hp
            | some bs =>
              rw [hb] at hp
              simp only [Option.bind_some, Option.some.injEq, Prod.mk.injEq] at hp
              obtain ⟨rfl, rfl⟩ := hp
              obtain ⟨cs', hr, hlen, hcell⟩ := h.load ho hl
              obtain ⟨ns, e1, e2⟩ := bytesOfCells_spec cs bs hb
              subst e1
              have e3 := hr.ints
              subst e3
              refine ⟨_, w, run_convert_bytes_arg (P := P) w s e hs' he' l.blk (l.base + off) n c' ns (by simpa using hlen) (fun i hi => ?_) d hd', .same h ?_⟩
              · have hi' : i < ns.length := by simp at hlen; omega
                have := hcell i (.int .u8 (ns.getD i 0)) (by simp [List.getD, List.getElem?_eq_getElem hi'])
                exact this
              · have : strOfNums ns = ⟨⟨bs⟩⟩ := by rw [e2]; rfl
                rw [this]
                exact .string _
        · cases hp
      | _ => cases hp
    | _ => cases dd <;> cases hp
  | semp =>
    rename_i a a' c'
    cases ds with
    | slice e =>
      cases dd with
      | string =>
        simp only at hp
        split at hp
        · rename_i he
          have he' := hC.under he
          obtain ⟨o, off, sp⟩ := a
          cases sp with
          | some q => cases hp
          | none =>
            simp only at hp
            cases hl : m.loadN o off 0 with
            | none => rw [hl] at hp; cases hp
            | some cs =>
              rw [hl] at hp
              simp only [Option.bind_some] at hp
              have hcs : cs = [] := by
                unfold Mem.loadN at hl
                cases hc : m.cells o with
                | none => rw [hc] at hl; cases hl
                | some vs =>
                  rw [hc] at hl
                  simp only [Option.bind_some] at hl
                  cases hb : Nat.ble (off + 0) vs.length with
                  | false => rw [hb] at hl; cases hl
                  | true => rw [hb] at hl; simpa using hl.symm
              subst hcs
              simp only [bytesOfCells, Option.bind_some, Option.some.injEq, Prod.mk.injEq] at hp
              obtain ⟨rfl, rfl⟩ := hp
              refine ⟨.string ByteArray.empty, w, ?_, .same h (.string _)⟩
              rw [run_convert_bytes_string (P := P) w s d e _ 0 c' hs' he' hd']
              simp [Conv.bytesToString, loadCells, loadCellsFrom]
        · cases hp
      | _ => cases hp
    | _ => cases dd <;> cases hp
  | _ => cases ds <;> cases dd <;> cases hp

theorem lenA_sound (hC : C.Ok P) (h : Rel B w0 μ m w) {t ty : TypeId} {x x' v : Value} {m' : Mem} (hx : VRel μ x x') (hp : lenA C t x m = some (v, m')) :
    OpRes P B w0 μ m (Builtin.len_ #[t] ty #[x']) w v m' := by
  unfold lenA at hp
  cases hu : C.under t with
  | none => rw [hu] at hp; cases hp
  | some d =>
  rw [hu] at hp
  have hu' := hC.under hu
  have arr : ∀ n e, d = .array n e → OpRes P B w0 μ m (Builtin.len_ #[t] ty #[x']) w (.int .i64 n) m := by
    rintro n e rfl
    refine ⟨goInt n, w, ?_, .same h (.int _ _)⟩
    cases x' <;> simp [Builtin.len_, run_underlying hu', goInt]
  cases d with
  | array n e =>
    have : some (Value.int .i64 (n : Nat), m) = some (v, m') := by cases x <;> exact hp
    simp only [Option.some.injEq, Prod.mk.injEq] at this
    obtain ⟨rfl, rfl⟩ := this
    exact arr n e rfl
  | string =>
    cases hx <;> try (cases hp; done)
    · rename_i j
      obtain ⟨n, hn, hp⟩ := Option.bind_eq_some_iff.1 hp
      simp only [Option.some.injEq, Prod.mk.injEq] at hp
      obtain ⟨rfl, rfl⟩ := hp
      obtain ⟨s, e, hs⟩ := hC.lens j n hn
      rw [e]
      refine ⟨goInt s.size, w, ?_, .same h (hs _)⟩
      simp [Builtin.len_, run_underlying hu']
    · rename_i s
      simp only [Option.some.injEq, Prod.mk.injEq] at hp
      obtain ⟨rfl, rfl⟩ := hp
      refine ⟨goInt s.size, w, ?_, .same h (.int _ _)⟩
      simp [Builtin.len_, run_underlying hu']
  | slice e =>
    cases hx <;> try (cases hp; done)
    all_goals
      simp only [Option.some.injEq, Prod.mk.injEq] at hp
      obtain ⟨rfl, rfl⟩ := hp
      refine ⟨_, w, ?_, .same h (.int _ _)⟩
      simp [Builtin.len_, run_underlying hu', goInt]
  | map k e =>
    cases hx <;> try (cases hp; done)
    · simp only [Option.some.injEq, Prod.mk.injEq] at hp
      obtain ⟨rfl, rfl⟩ := hp
      refine ⟨goInt 0, w, ?_, .same h (.int _ _)⟩
      simp [Builtin.len_, run_underlying hu']
    · rename_i r l hr
      simp only at hp
      cases hg : m.get r with
      | none => rw [hg] at hp; cases hp
      | some obj =>
        rw [hg] at hp
        cases obj with
        | cells => cases hp
        | group => cases hp
        | map es ck =>
          simp only [Option.some.injEq, Prod.mk.injEq] at hp
          obtain ⟨rfl, rfl⟩ := hp
          have hob := h.obj r l hr
          rw [hg] at hob
          obtain ⟨fs, ck', h1, h2⟩ := hob.blk
          refine ⟨goInt fs.size, w, ?_, .same h (by rw [h2.len]; exact .int _ _)⟩
          simp [Builtin.len_, run_underlying hu', getObj, Sem.run, h1]
  | _ => cases hx <;> cases hp

theorem capA_sound (hC : C.Ok P) (h : Rel B w0 μ m w) {t ty : TypeId} {x x' v : Value} (hx : VRel μ x x') (hp : capA C t x = some v) :
    OpRes P B w0 μ m (Builtin.cap_ #[t] ty #[x']) w v m := by
  unfold capA at hp
  split at hp
  · rename_i e a n c hu
    have hu' := hC.under hu
    cases hc : Nat.ble UNK c with
    | true => rw [hc] at hp; cases hp
    | false =>
      rw [hc] at hp
      simp only [cond_false, Option.some.injEq] at hp
      subst hp
      have hlt := lt_of_ble_false hc
      cases hx with
      | snil => exact ⟨_, w, by simp [Builtin.cap_, run_underlying hu', goInt], .same h (.int _ _)⟩
      | slice ho h1 h2 =>
        rename_i c' _ _
        have := h1 hlt
        subst this
        exact ⟨_, w, by simp [Builtin.cap_, run_underlying hu', goInt], .same h (.int _ _)⟩
      | semp => omega
  · cases hp

end
end Go.Ev
