/- The statement DirBack is proved as it is given: for every key the law answers true and its input reads as before; no condition. -/
import Derived.Test.YtcjmogljihkfnaaRows
import Derived.Test.YtcjmogljihkfnaaDirBack
set_option linter.unusedVariables false
set_option linter.unusedSimpArgs false
namespace Go.Proofs.Ytcjmogljihkfnaa
open Go.ChangeShapes Go.WideShapes Go.ChangeAt Go.RowKit Go.Ev Go.Ev.Dir

theorem own : ownKnob Try.prog.godebug = none := by kernel_rfl
theorem laidOut : laidOutB Try.prog = true := by kernel_rfl
theorem under9 : Try.prog.underlying 9 = some .string := by kernel_rfl
theorem under4 : Try.prog.underlying 4 = some .bool := by kernel_rfl

noncomputable def b4 : Code := bodyOf Try.f4
theorem b4_body : Try.f4.body = some b4 := by kernel_rfl

theorem readable : ∀ t ∈ Try.f4.params.toList, Try.prog.readableRec t = true ∧ t < Try.prog.types.size := by
  intro t ht
  have : Try.f4.params.toList = [9] := by kernel_rfl
  rw [this] at ht
  rcases List.mem_cons.1 ht with rfl | ht
  · exact ⟨by kernel_rfl, of_decide_eq_true (by kernel_rfl)⟩
  · cases ht

theorem walk (s : ByteArray) (W : World) : Calls Try.prog 4 #[.string s] W fun e W' => e = .returned (.bool true) ∧ Below W.heap.size W W' := by
  letI := strAtoms s
  obtain ⟨m', h⟩ := isTrue_spec (back (decide (1 ≤ (s.data.size : Int))) (decide ((s.data.size : Int) ≤ 16)))
  refine Ev.Calls.of_true (calls_sound (ctxB_ok s) (eqs_ok.knows _ _ _) mixed (funs_ok.knows _ _ _) (tell_ok _ _) 15 4) (Rel.start W) (args := [atom 0]) (LRel.cons (.atom 0) .nil) h fun v w q => ?_
  have := enter_call (P := Try.prog) Try.func4 (by kernel_rfl) b4_body #[.string s] W
  rw [this] at q
  cases q

set_option maxRecDepth 100000 in
theorem dirBack_lifted (os : Os) (started : os.Started) (H : Type) (enc : TypeId × Value → H) :
    ReturnsInHanded {} Try.checked os 4 .any (Rows.dirBackSpec.pre6 enc Try.prog Try.f4 Rows.dirBackRow.domain false) (Rows.dirBackSpec.post enc Try.prog Try.f4 false true false false) := by
  refine returnsInHanded_of_change (C := Try.checked) own started (by kernel_rfl) Try.func4
    (ChangeSpec.witness6 (enc := enc) (C := Try.checked) false ⟨#[], #[.string ⟨#[]⟩], []⟩ 8 (by kernel_rfl) (by kernel_rfl) (by kernel_rfl) (by kernel_rfl)) ?_
  intro W base args ds gs before hval0 hW hcnd _
  have hval : ∀ (j : Nat) t v, Try.f4.params[j]? = some t → args[j]? = some v → Value.okWide Try.prog W .any base t v := hval0
  have hW' := hW
  obtain ⟨p, q, hA0, hV, rfl, hfz, hnd⟩ := hW
  have hA : DataW.TrodAll enc Try.prog W 0 (fun _ => true) true [9] args.toList ds p := hA0
  obtain ⟨v0, d0, rfl, rfl, h0⟩ := trodAll_one hA
  obtain ⟨rfl, rfl⟩ := trodVars_none hV
  obtain ⟨key, rfl, rfl, rfl, _⟩ := Go.ChangeMaps.open_string (P := Try.prog) under9 (hval 0 9 v0 rfl rfl) h0
  refine (walk key W).mono fun e W' ⟨he, hw⟩ => ?_
  subst he
  letI : Atoms := strAtoms ⟨#[]⟩
  exact ⟨_, rfl, post_true (P := Try.prog) (tb := 4) laidOut readable (by kernel_rfl) under4 rfl rfl hW' hw⟩

theorem dirBack_holds : Rows.DirBackSaid :=
  OpenClaim.holds_of_wide 4 Try.f4 rfl rfl rfl rfl rfl rfl rfl ⟨rfl, rfl, rfl, rfl, rfl⟩ rfl rfl rfl rfl rfl (by kernel_rfl) Try.func4 (by kernel_rfl)
    (of_decide_eq_true (by kernel_rfl)) (by unfold Func.isWrapper; first | (rw [if_pos (by decide +kernel)]; kernel_rfl) | (rw [if_neg (by decide +kernel)]; exact ⟨rfl, rfl⟩))
    (fun os started H enc _ => dirBack_lifted os started H enc)

#print axioms dirBack_holds
end Go.Proofs.Ytcjmogljihkfnaa
