/- The statement DirAborts is proved as it is given: for every host and every number of rounds the law answers true and its input reads as before; no condition. -/
import Derived.Test.YtcjmogljihkfnaaRows
import Derived.Test.YtcjmogljihkfnaaDirAborts9
import Derived.Test.YtcjmogljihkfnaaDirAborts10
import Derived.Test.YtcjmogljihkfnaaDirAborts11
import Derived.Test.YtcjmogljihkfnaaDirAborts12
import Derived.Test.YtcjmogljihkfnaaDirAborts13
set_option linter.unusedVariables false
set_option linter.unusedSimpArgs false
namespace Go.Proofs.Ytcjmogljihkfnaa
open Go.ChangeShapes Go.WideShapes Go.ChangeAt Go.RowKit Go.Ev Go.Ev.Dir

theorem own : ownKnob Try.prog.godebug = none := by kernel_rfl
theorem laidOut : laidOutB Try.prog = true := by kernel_rfl
theorem under3 : Try.prog.underlying 3 = some (.int .i64) := by kernel_rfl
theorem under4 : Try.prog.underlying 4 = some .bool := by kernel_rfl

theorem readable : ∀ t ∈ Try.f8.params.toList, Try.prog.readableRec t = true ∧ t < Try.prog.types.size := by
  intro t ht
  have : Try.f8.params.toList = [3, 3] := by kernel_rfl
  rw [this] at ht
  rcases List.mem_cons.1 ht with rfl | ht
  · exact ⟨by kernel_rfl, of_decide_eq_true (by kernel_rfl)⟩
  · rcases List.mem_cons.1 ht with rfl | ht
    · exact ⟨by kernel_rfl, of_decide_eq_true (by kernel_rfl)⟩
    · cases ht

theorem walk (to T : Int) (W : World) : Calls Try.prog 8 #[.int .i64 to, .int .i64 T] W fun e W' => e = .returned (.bool true) ∧ Below W.heap.size W W' := by
  by_cases h : to < 9 ∨ 13 < to ∨ T < 0 ∨ 30 < T
  · exact aborts_out to T h W
  · obtain ⟨n, rfl⟩ : ∃ n : Nat, T = n := ⟨T.toNat, by omega⟩
    have hin : inRange to = true := by
      rcases (show to = 9 ∨ to = 10 ∨ to = 11 ∨ to = 12 ∨ to = 13 by omega) with rfl | rfl | rfl | rfl | rfl
      · exact in9
      · exact in10
      · exact in11
      · exact in12
      · exact in13
    exact aborts_in to (by omega) (by omega) n (by omega) hin W

set_option maxRecDepth 100000 in
theorem dirAborts_lifted (os : Os) (started : os.Started) (H : Type) (enc : TypeId × Value → H) :
    ReturnsInHanded {} Try.checked os 8 .any (Rows.dirAbortsSpec.pre6 enc Try.prog Try.f8 Rows.dirAbortsRow.domain false) (Rows.dirAbortsSpec.post enc Try.prog Try.f8 false true false false) := by
  refine returnsInHanded_of_change (C := Try.checked) own started (by kernel_rfl) Try.func8
    (ChangeSpec.witness6 (enc := enc) (C := Try.checked) false ⟨#[], #[.int .i64 0, .int .i64 0], []⟩ 8 (by kernel_rfl) (by kernel_rfl) (by kernel_rfl) (by kernel_rfl)) ?_
  intro W base args ds gs before hval0 hW hcnd _
  have hval : ∀ (j : Nat) t v, Try.f8.params[j]? = some t → args[j]? = some v → Value.okWide Try.prog W .any base t v := hval0
  have hW' := hW
  obtain ⟨p, q, hA0, hV, rfl, hfz, hnd⟩ := hW
  have hA : DataW.TrodAll enc Try.prog W 0 (fun _ => true) true [3, 3] args.toList ds p := hA0
  obtain ⟨v0, v1, d0, d1, p0, p1, rfl, rfl, rfl, h0, h1⟩ := trodAll_two hA
  obtain ⟨rfl, rfl⟩ := trodVars_none hV
  obtain ⟨to, rfl, hd0, hp0, _⟩ := open_int (P := Try.prog) under3 (hval 0 3 v0 rfl rfl) h0
  obtain ⟨T, rfl, hd1, hp1, _⟩ := open_int (P := Try.prog) under3 (hval 1 3 v1 rfl rfl) h1
  refine (walk to T W).mono fun e W' ⟨he, hw⟩ => ?_
  subst he
  letI : Atoms := intAtoms 0 0
  exact ⟨_, rfl, post_true (P := Try.prog) (tb := 4) laidOut readable (by kernel_rfl) under4 rfl rfl hW' hw⟩

theorem dirAborts_holds : Rows.DirAbortsSaid :=
  OpenClaim.holds_of_wide 8 Try.f8 rfl rfl rfl rfl rfl rfl rfl ⟨rfl, rfl, rfl, rfl, rfl⟩ rfl rfl rfl rfl rfl (by kernel_rfl) Try.func8 (by kernel_rfl)
    (of_decide_eq_true (by kernel_rfl)) (by unfold Func.isWrapper; first | (rw [if_pos (by decide +kernel)]; kernel_rfl) | (rw [if_neg (by decide +kernel)]; exact ⟨rfl, rfl⟩))
    (fun os started H enc _ => dirAborts_lifted os started H enc)

#print axioms dirAborts_holds
end Go.Proofs.Ytcjmogljihkfnaa
