/- A part of an evaluator of the model and of the proof that what it answers the model does; no condition. -/
import Derived.Test.YtcjmogljihkfnaaEvCls
set_option linter.unusedVariables false
set_option linter.unusedSimpArgs false
namespace Go.Ev
set_option linter.unusedSectionVars false
variable [Atoms]
open Go.RowKit (Below)

section
variable {B : Nat} {w0 : World} {μ : Mu} {m : Mem} {w : World} {P : Program} {C : Ctx}

/-- an operation that makes one object, whatever its name -/
def AllocRes (P : Program) (B : Nat) (μ : Mu) (s : Sem Value) (w : World) (mk : Nat → Value) (x : AObj) : Prop :=
  ∃ v' w' l, s.run P w = .ok v' w' ∧ Below w.heap.size w w' ∧ w'.heap.size = w.heap.size + 1 ∧ l.blk = w.heap.size ∧
    ∀ (id : Nat) (μ' : Mu) (m' : Mem), μ' id = some l → Mu.le μ μ' → VRel μ' (mk id) v' ∧ ObjRel B μ' m' w' l (some x)

theorem obj_of_cells (hB : B ≤ w.heap.size) {vs cs : List Value} {μ' : Mu} (hr : LRel μ' vs (cs.take vs.length)) (hlen : vs.length ≤ cs.length) (e : Nat) (el : TypeId) (m' : Mem) :
    ObjRel B μ' m' (w.alloc (.cells ⟨cs⟩ el)) ⟨w.heap.size, 0, e, cs.length⟩ (some (.cells vs e .sole)) := by
  refine ⟨rfl, (fun g hg => by cases hg), ⟨cs⟩, el, (0, 0), heap_alloc_new w _, rfl, by simpa using hlen, fun _ => ⟨hB, by intro i _; simp⟩, fun _ i v hv => ?_⟩
  obtain ⟨v', h1, h2⟩ := hr.get hv
  refine ⟨v', ?_, h2⟩
  rw [List.getElem?_take] at h1
  split at h1
  · simpa using h1
  · cases h1

theorem var_alloc (hB : B ≤ w.heap.size) {t : TypeId} {x x' : Value} (hx : VRel μ x x') (e : Nat) : AllocRes P B μ (do pure (.pointer (some (← newVar t x')))) w (fun id => ptr id 0) (.cells (Val.cells x) e .sole) := by
  refine ⟨_, w.alloc (.cells x'.cells t), ⟨w.heap.size, 0, e, x'.cells.toList.length⟩, by simp [newVar, newRow], below_alloc w _, by simp, rfl, fun id μ' m' hid hle => ⟨.ptr (l := ⟨w.heap.size, 0, e, _⟩) hid, ?_⟩⟩
  have hc := (hx.mono hle).cells
  exact obj_of_cells (cs := x'.cells.toList) hB (by rw [hc.len, List.take_length]; exact hc) (by rw [hc.len]; exact Nat.le_refl _) e t m'

theorem mkSlice_shape (hB : B ≤ w.heap.size) {esz e l c : Nat} {out : List Value} {out' : Array Value} {s : Sem Value} {q : Mem → Option (Value × Mem)} {ex : Sem Next}
    (hall : ∀ m2, q m2 = some (.slice (some ⟨m2.next, 0, none⟩) l c, m2.new (.cells out esz .sole))) (hor : LRel μ out out'.toList) (hlt : c < UNK)
    (hrun : s.run P w = .ok (.slice (some ⟨w.heap.size, 0, none⟩) l c) (w.alloc (.cells out' e))) (hex : ex = (do pure (.value (← s)))) :
    ∃ mk x, (Value.slice (some ⟨m.next, 0, none⟩) l c : Value) = mk m.next ∧ m.new (.cells out esz .sole) = m.new x ∧ (∀ a, x ≠ .group a) ∧ (∀ m2, q m2 = some (mk m2.next, m2.new x)) ∧
      ∃ s : Sem Value, AllocRes P B μ s w mk x ∧ ex = (do pure (.value (← s))) := by
  refine ⟨fun id => .slice (some ⟨id, 0, none⟩) l c, _, rfl, rfl, (fun a q => by cases q), hall, s, ?_, hex⟩
  refine ⟨_, _, ⟨w.heap.size, 0, esz, out'.toList.length⟩, hrun, below_alloc w _, by simp, rfl, fun id μ' m' hid hle => ⟨?_, ?_⟩⟩
  · exact VRel.slice (l := ⟨w.heap.size, 0, esz, _⟩) hid (fun _ => rfl) (fun hc => absurd hlt (Nat.not_lt.2 hc))
  · have hr := hor.mono hle
    exact obj_of_cells (cs := out'.toList) hB (by rw [hr.len, List.take_length]; exact hr) (by rw [hr.len]; exact Nat.le_refl _) esz e m'

/-- what the evaluator does at such an operation -/
theorem alloc_shape (hC : C.Ok P) (h : Rel B w0 μ m w) {o : Oper} {ρ ρ' : Operand → Value} (hρ : ∀ x ∈ o.op.operands.toList, VRel μ (ρ x) (ρ' x)) (hc : cls C o.op = .alloc) {v : Value} {m' : Mem}
    (hp : prim C ρ o.op m = some (v, m')) :
    ∃ mk x, v = mk m.next ∧ m' = m.new x ∧ (∀ a, x ≠ .group a) ∧ (∀ m2, prim C ρ o.op m2 = some (mk m2.next, m2.new x)) ∧
      ∃ s : Sem Value, AllocRes P B μ s w mk x ∧ execOp ρ' o = (do pure (.value (← s))) := by
  obtain ⟨dst, op, type, pos, after, guard⟩ := o
  simp only at hρ hc hp
  have hB := h.base
  cases op <;> simp only [cls] at hc <;> try (cases hc; done)
  case alloc t =>
    simp only [prim] at hp ⊢
    cases hi : C.info t with
    | none => rw [hi] at hp; cases hp
    | some i =>
      rw [hi] at hp
      simp only [Option.bind_some] at hp ⊢
      cases hz : i.zero with
      | none => rw [hz] at hp; cases hp
      | some z =>
        rw [hz] at hp
        simp only [Option.bind_some, anew, hi, Option.some.injEq, Prod.mk.injEq] at hp ⊢
        obtain ⟨rfl, rfl⟩ := hp
        refine ⟨fun id => ptr id 0, _, rfl, rfl, (fun a q => by cases q), fun m2 => ⟨rfl, rfl⟩, _, ?_, rfl⟩
        obtain ⟨v', w', l, r1, r2⟩ := var_alloc (P := P) (t := t) hB (hC.zeroRel hi hz μ) i.size
        refine ⟨v', w', l, ?_, r2⟩
        simp only [Sem.run_bind] at r1
        simpa [Instr.alloc, run_zeroValue (hC.info hi) hz] using r1
  case box t x =>
    simp only [prim, anew] at hp ⊢
    cases hi : C.info t with
    | none => rw [hi] at hp; cases hp
    | some i =>
      rw [hi] at hp
      simp only [Option.bind_some, Option.some.injEq, Prod.mk.injEq] at hp ⊢
      obtain ⟨rfl, rfl⟩ := hp
      refine ⟨fun id => ptr id 0, _, rfl, rfl, (fun a q => by cases q), fun m2 => ⟨rfl, rfl⟩, _, ?_, rfl⟩
      exact var_alloc (P := P) (t := t) hB (hρ x (by simp [Op.operands])) i.size
  case makeMap t r =>
    cases r with
    | some x => simp only [prim] at hp; cases hp
    | none =>
      simp only [prim, Option.some.injEq, Prod.mk.injEq] at hp ⊢
      obtain ⟨rfl, rfl⟩ := hp
      refine ⟨fun id => .map (some id), _, rfl, rfl, (fun a q => by cases q), fun m2 => ⟨rfl, rfl⟩, _, ?_, rfl⟩
      refine ⟨.map (some w.heap.size), w.alloc (.map #[] 0), ⟨w.heap.size, 0, 0, 0⟩, by simp [Instr.makeMap], below_alloc w _, by simp, rfl, fun id μ' m' hid hle => ⟨.map (l := ⟨w.heap.size, 0, 0, 0⟩) hid, ?_⟩⟩
      exact ⟨hB, #[], 0, heap_alloc_new w _, ⟨rfl, fun i _ _ _ hh => by simp at hh⟩⟩
  case convert s d x =>
    have hx := hρ x (by simp [Op.operands])
    simp only [prim] at hp ⊢
    unfold convertV at hp ⊢
    split at hc
    · cases hc
    · rename_i e hd hns
      split at hp
      · rename_i hd2 _; rw [hd] at hd2; cases hd2
      · rename_i hd2 _; rw [hd] at hd2; cases hd2
      · rename_i e2 b hs hd2 hb
        rw [hd] at hd2
        cases hd2
        split at hp
        · rename_i he
          simp only [Option.some.injEq, Prod.mk.injEq] at hp
          obtain ⟨rfl, rfl⟩ := hp
          rw [hb] at hx
          generalize hxx : ρ' x = x' at hx
          cases hx
          refine ⟨fun id => .slice (some ⟨id, 0, none⟩) b.data.size (UNK + 1), _, rfl, rfl, (fun a q => by cases q), fun m2 => rfl, convert s d (.string b), ?_, by simp [execOp, hxx]⟩
          have hcap := grownCap_ge w b.size 0 e
          have hsz : (Lib.bytesCells w e b).size = grownCap w b.size 0 e := by
            unfold Lib.bytesCells
            rw [Array.size_append, Array.size_map, Array.size_replicate]
            have : b.data.size = b.size := rfl
            omega
          refine ⟨_, _, ⟨w.heap.size, 0, 1, (Lib.bytesCells w e b).size⟩, Lib.run_convert_string_bytes (P := P) w s d e b (hC.under hs) (hC.under hd) (hC.under he),
            ⟨rfl, rfl, rfl, by rw [Lib.bytesWorld_size]; omega, fun k hk => Lib.bytesWorld_at_old w e b k hk⟩, Lib.bytesWorld_size w e b, rfl, fun id μ' m' hid hle => ⟨?_, ?_⟩⟩
          · refine VRel.slice (l := ⟨w.heap.size, 0, 1, _⟩) hid (fun q => absurd q (by omega)) (fun _ => ⟨⟨(by decide : szOf (UNK + 1) = 1), Nat.le_trans (by decide : lbOf (UNK + 1) ≤ 0) (Nat.zero_le _)⟩, Nat.le_refl _, ?_, hcap⟩)
            simp only [hsz]; omega
          · refine ⟨rfl, (fun g hg => by cases hg), Lib.bytesCells w e b, e, _, Lib.bytesWorld_at_new w e b, rfl, ?_, fun _ => ⟨hB, fun i hi => by simp only; omega⟩, fun _ i u hu => ?_⟩
            · rw [hsz]; simp only [List.length_map, Array.length_toList, Nat.zero_add]; exact hcap
            · rw [List.getElem?_map] at hu
              cases hb2 : b.data.toList[i]? with
              | none => rw [hb2] at hu; cases hu
              | some c =>
                rw [hb2] at hu
                simp only [Option.map_some, Option.some.injEq] at hu
                subst hu
                refine ⟨.int .u8 c.toNat, ?_, .int _ _⟩
                have hi : i < b.data.size := by simpa using (List.getElem?_eq_some_iff.1 hb2).1
                unfold Lib.bytesCells
                rw [Nat.zero_add, Array.getElem?_append_left (by simpa using hi)]
                rw [Array.getElem?_toList] at hb2
                simp [hb2]
        · cases hp
      · rename_i hs2 _ _; exact absurd hs2 (hns _)
      · cases hp
    · cases hc
  case buildSlice t n ps =>
    obtain ⟨esz, e, out, out', rfl, rfl, hall, hor, hlt, hrun⟩ := buildSlice_run (ρ' := ρ') hC (fun x hx => hρ x (by simpa [Op.operands] using hx)) w hp
    exact mkSlice_shape hB hall hor hlt hrun (by unfold execOp; rfl)
  case makeSlice t a b =>
    obtain ⟨esz, e, l, c, out, out', rfl, rfl, hall, hor, hlt, hrun⟩ := makeSlice_run hC (hρ a (by simp [Op.operands])) (hρ b (by simp [Op.operands])) w hp
    exact mkSlice_shape hB hall hor hlt hrun (by unfold execOp; rfl)
  case call c => split at hc <;> cases hc

end
end Go.Ev
