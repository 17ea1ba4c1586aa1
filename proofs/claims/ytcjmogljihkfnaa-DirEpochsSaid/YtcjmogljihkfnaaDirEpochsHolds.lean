/- The statement DirEpochs is proved as it is given: for every row of changes the law answers true and its input reads as before; no condition. -/
import Derived.Test.YtcjmogljihkfnaaRows
import Derived.Test.YtcjmogljihkfnaaDirEpochsA
import Derived.Test.YtcjmogljihkfnaaDirPc
set_option linter.unusedVariables false
set_option linter.unusedSimpArgs false
namespace Go.Proofs.Ytcjmogljihkfnaa
open Go.ChangeShapes Go.WideShapes Go.ChangeAt Go.RowKit Go.Ev Go.Ev.Dir

theorem own : ownKnob Try.prog.godebug = none := by kernel_rfl
theorem laidOut : laidOutB Try.prog = true := by kernel_rfl
theorem under4 : Try.prog.underlying 4 = some .bool := by kernel_rfl

theorem readable : ∀ t ∈ Try.f3.params.toList, Try.prog.readableRec t = true ∧ t < Try.prog.types.size := by
  intro t ht
  have : Try.f3.params.toList = [22] := by kernel_rfl
  rw [this] at ht
  rcases List.mem_cons.1 ht with rfl | ht
  · exact ⟨by kernel_rfl, of_decide_eq_true (by kernel_rfl)⟩
  · cases ht

set_option linter.unusedSectionVars false
section
variable [Atoms]
theorem none_true : isTrue (callN ctx (fun _ => none) 15 3 [.slice none 0 0] ⟨.leaf, 0⟩) = true := by kernel_rfl
theorem empty_true : isTrue (callN ctx (fun _ => none) 15 3 [.slice (some ⟨0, 0, none⟩) 0 UNK] ⟨.leaf, 0⟩) = true := by kernel_rfl
theorem ev15 (B : Nat → Prop) (w0 : World) : CallOk Try.prog B w0 3 (callN ctx (fun _ => none) 15 3) := calls_sound ctx_ok eqs_ok mixed funs_ok (fun f g h => by cases h) 15 3

theorem not_value (args : List Value) (W : World) : ∀ v w, (callFunc 3 ⟨args⟩).run Try.prog W ≠ .ok (.value v) w := by
  intro v w q
  have := enter_call (P := Try.prog) Try.func3 (by kernel_rfl) b3_body ⟨args⟩ W
  rw [this] at q
  cases q

theorem walk {H : Type} {enc : TypeId × Value → H} (W : World) {spare : Nat → Bool} {held : Bool} {v : Value} {d : DataW H} {ps : List MemPlace} (h : DataW.Trod enc Try.prog W 0 spare held 22 v d ps) (hcs : v.cells.toList = [v]) :
    Calls Try.prog 3 #[v] W fun e W' => e = .returned (.bool true) ∧ Below W.heap.size W W' := by
  rcases open_chs h hcs with rfl | ⟨a, cap, rfl⟩ | ⟨b, off, cap, c, el, fz, L, h1, rfl, hcap, hb, hle, hget⟩
  · obtain ⟨m', hm⟩ := isTrue_spec none_true
    exact Ev.Calls.of_true (ev15 _ _) (Rel.start W) (args := [.slice none 0 0]) (.cons .snil .nil) hm (not_value _ W)
  · obtain ⟨m', hm⟩ := isTrue_spec empty_true
    exact Ev.Calls.of_true (ev15 _ _) (Rel.start W) (args := [.slice (some ⟨0, 0, none⟩) 0 UNK]) (.cons .semp .nil) hm (not_value _ W)
  · have hcl : (L.length == 0 && cap == UNK) = false := emp1 h1
    refine calls_of_HF (B := upTo W.heap.size) (w0 := W) ctx_ok Try.func3 b3_body (hf3 L cap hcl) (Nat.le_of_ble_eq_true (by kernel_rfl)) (Rel.row hb hle hget) (.cons (.slice (l := ⟨b, off, 5, c.size⟩) rfl (fun _ => rfl) fun h => absurd h (by omega)) .nil) fun u u' μ' m' w' hR q1 q2 => ?_
    subst hR
    cases q1
    exact ⟨rfl, q2.below.toBelow fun _ h => h⟩
end

set_option maxRecDepth 100000 in
theorem dirEpochs_lifted (os : Os) (started : os.Started) (H : Type) (enc : TypeId × Value → H) :
    ReturnsInHanded {} Try.checked os 3 .any (Rows.dirEpochsSpec.pre6 enc Try.prog Try.f3 Rows.dirEpochsRow.domain false) (Rows.dirEpochsSpec.post enc Try.prog Try.f3 false true false false) := by
  letI : Atoms := ⟨fun _ => .int .i64 0, fun _ => .inl ⟨_, _, rfl⟩⟩
  refine returnsInHanded_of_change (C := Try.checked) own started (by kernel_rfl) Try.func3
    (ChangeSpec.witness6 (enc := enc) (C := Try.checked) false ⟨#[], #[.slice none 0 0], []⟩ 8 (by kernel_rfl) (by kernel_rfl) (by kernel_rfl) (by kernel_rfl)) ?_
  intro W base args ds gs before hval0 hW hcnd _
  have hW' := hW
  obtain ⟨p, q, hA0, hV, rfl, hfz, hnd⟩ := hW
  have hA : DataW.TrodAll enc Try.prog W 0 (fun _ => true) true [22] args.toList ds p := hA0
  obtain ⟨v0, d0, rfl, rfl, h0⟩ := trodAll_one hA
  obtain ⟨rfl, rfl⟩ := trodVars_none hV
  have hcs : v0.cells.toList = [v0] := by
    obtain ⟨a, len, cap, rfl⟩ := okWide_slice (P := Try.prog) und22 (hval0 0 22 v0 rfl rfl)
    rfl
  refine (walk W h0 hcs).mono fun e W' ⟨he, hw⟩ => ?_
  subst he
  exact ⟨_, rfl, post_true (P := Try.prog) (tb := 4) laidOut readable (by kernel_rfl) under4 rfl rfl hW' hw⟩

theorem dirEpochs_holds : Rows.DirEpochsSaid :=
  OpenClaim.holds_of_wide 3 Try.f3 rfl rfl rfl rfl rfl rfl rfl ⟨rfl, rfl, rfl, rfl, rfl⟩ rfl rfl rfl rfl rfl (by kernel_rfl) Try.func3 (by kernel_rfl)
    (of_decide_eq_true (by kernel_rfl)) (by unfold Func.isWrapper; first | (rw [if_pos (by decide +kernel)]; kernel_rfl) | (rw [if_neg (by decide +kernel)]; exact ⟨rfl, rfl⟩))
    (fun os started H enc _ => dirEpochs_lifted os started H enc)

#print axioms dirEpochs_holds
end Go.Proofs.Ytcjmogljihkfnaa
