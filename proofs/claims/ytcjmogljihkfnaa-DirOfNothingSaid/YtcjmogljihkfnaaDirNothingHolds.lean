/- The statement DirOfNothing is proved as it is given: for every change and every key the law answers true and its input reads as before; no condition. -/
import Derived.Test.YtcjmogljihkfnaaRows
import Derived.Test.YtcjmogljihkfnaaDirNothing
set_option linter.unusedVariables false
set_option linter.unusedSimpArgs false
namespace Go.Proofs.Ytcjmogljihkfnaa
open Go.ChangeShapes Go.WideShapes Go.ChangeAt Go.RowKit Go.Ev Go.Ev.Dir

theorem own : ownKnob Try.prog.godebug = none := by kernel_rfl
theorem laidOut : laidOutB Try.prog = true := by kernel_rfl

def chgFields : Array Field := #[Field.mk "Kind" 3 0 false "" "" 0, Field.mk "Zone" 3 1 false "" "" 8, Field.mk "Epoch" 3 2 false "" "" 16, Field.mk "To" 3 3 false "" "" 24, Field.mk "Key" 9 4 false "" "" 32]
theorem under34 : Try.prog.underlying 34 = some (.struct chgFields) := by kernel_rfl
theorem under3 : Try.prog.underlying 3 = some (.int .i64) := by kernel_rfl
theorem under9 : Try.prog.underlying 9 = some .string := by kernel_rfl
theorem under4 : Try.prog.underlying 4 = some .bool := by kernel_rfl
theorem size34 : Try.prog.cellsOf 34 = 5 := by kernel_rfl
theorem size3 : Try.prog.cellsOf 3 = 1 := by kernel_rfl
theorem size9 : Try.prog.cellsOf 9 = 1 := by kernel_rfl

set_option maxRecDepth 100000 in
/-- a change, opened -/
theorem open_change {H : Type} {enc : TypeId × Value → H} {W : World} {base : Nat} {v : Value} {d : DataW H} {ps : List MemPlace} (hval : Value.okWide Try.prog W .any base 34 v) (hd : DataW.Trod enc Try.prog W 0 (fun _ => true) true 34 v d ps) :
    ∃ k z e t s, v = chg k z e t s := by
  obtain ⟨cs, rfl, hs⟩ := okWide_struct (P := Try.prog) under34 hval
  obtain ⟨n, hn⟩ := hd
  obtain ⟨xs, n', _, _, _, hlen, hf⟩ := DataW.trod_struct (P := Try.prog) under34 hn
  rw [size34] at hs
  obtain ⟨cs⟩ := cs
  have hlen' : xs.length = 5 := hlen
  match cs, hs, xs, hlen' with
  | [a, b, c, d, e], _, [x0, x1, x2, x3, x4], _ =>
    have f0 := hf 0 _ rfl
    have f1 := hf 1 _ rfl
    have f2 := hf 2 _ rfl
    have f3 := hf 3 _ rfl
    have f4 := hf 4 _ rfl
    obtain ⟨k, e0, _⟩ := DataW.trod_int (P := Try.prog) under3 f0
    obtain ⟨z, e1, _⟩ := DataW.trod_int (P := Try.prog) under3 f1
    obtain ⟨ep, e2, _⟩ := DataW.trod_int (P := Try.prog) under3 f2
    obtain ⟨t, e3, _⟩ := DataW.trod_int (P := Try.prog) under3 f3
    obtain ⟨s, e4, _⟩ := DataW.trod_string (P := Try.prog) under9 f4
    have g0 : ([a, b, c, d, e].drop 0).take 1 = [.int .i64 k] := by rw [← size3]; exact e0
    have g1 : ([a, b, c, d, e].drop 1).take 1 = [.int .i64 z] := by rw [← size3]; exact e1
    have g2 : ([a, b, c, d, e].drop 2).take 1 = [.int .i64 ep] := by rw [← size3]; exact e2
    have g3 : ([a, b, c, d, e].drop 3).take 1 = [.int .i64 t] := by rw [← size3]; exact e3
    have g4 : ([a, b, c, d, e].drop 4).take 1 = [.string s] := by rw [← size9]; exact e4
    simp only [List.drop_zero, List.drop_succ_cons, List.take_succ_cons, List.take_zero, List.cons.injEq, and_true] at g0 g1 g2 g3 g4
    subst g0 g1 g2 g3 g4
    exact ⟨k, z, ep, t, s, rfl⟩

theorem readable : ∀ t ∈ Try.f10.params.toList, Try.prog.readableRec t = true ∧ t < Try.prog.types.size := by
  intro t ht
  have : Try.f10.params.toList = [34, 9] := by kernel_rfl
  rw [this] at ht
  rcases List.mem_cons.1 ht with rfl | ht
  · exact ⟨by kernel_rfl, of_decide_eq_true (by kernel_rfl)⟩
  · rcases List.mem_cons.1 ht with rfl | ht
    · exact ⟨by kernel_rfl, of_decide_eq_true (by kernel_rfl)⟩
    · cases ht

theorem call10 (args : List Value) (m : Mem) : callN ctx (fun _ => none) 15 10 args m = runFn ctx call14 10 Try.f10 args m := by kernel_rfl

theorem ok10 (B : Nat) (w0 : World) : CallOk Try.prog B w0 10 (callN ctx (fun _ => none) 15 10) := calls_sound ctx_ok eqs_ok mixed funs_ok (fun f g h => by cases h) 15 10

theorem walk (k z e t : Int) (s key : ByteArray) (W : World) : Calls Try.prog 10 #[chg k z e t s, .string key] W fun e W' => e = .returned (.bool true) ∧ Below W.heap.size W W' := by
  obtain ⟨v, m', h, rfl⟩ := nothing k z e t s key
  refine Ev.Calls.of_true (ok10 _ _) (Rel.start W) (args := [chg k z e t s, .string key]) ?_ ((call10 _ _).trans h) fun v w q => ?_
  · refine .cons (.agg' (.cons (.int _ _) (.cons (.int _ _) (.cons (.int _ _) (.cons (.int _ _) (.cons (.string _) .nil)))))) (.cons (.string _) .nil)
  · have := enter_call (P := Try.prog) Try.func10 (by kernel_rfl) b10_body #[chg k z e t s, .string key] W
    rw [this] at q
    cases q

set_option maxRecDepth 100000 in
theorem dirOfNothing_lifted (os : Os) (started : os.Started) (H : Type) (enc : TypeId × Value → H) :
    ReturnsInHanded {} Try.checked os 10 .any (Rows.dirOfNothingSpec.pre6 enc Try.prog Try.f10 Rows.dirOfNothingRow.domain false) (Rows.dirOfNothingSpec.post enc Try.prog Try.f10 false true false false) := by
  refine returnsInHanded_of_change (C := Try.checked) own started (by kernel_rfl) Try.func10
    (ChangeSpec.witness6 (enc := enc) (C := Try.checked) false ⟨#[], #[chg 0 0 0 0 ⟨#[]⟩, .string ⟨#[]⟩], []⟩ 8 (by kernel_rfl) (by kernel_rfl) (by kernel_rfl) (by kernel_rfl)) ?_
  intro W base args ds gs before hval0 hW hcnd _
  have hval : ∀ (j : Nat) t v, Try.f10.params[j]? = some t → args[j]? = some v → Value.okWide Try.prog W .any base t v := hval0
  have hW' := hW
  obtain ⟨p, q, hA0, hV, rfl, hfz, hnd⟩ := hW
  have hA : DataW.TrodAll enc Try.prog W 0 (fun _ => true) true [34, 9] args.toList ds p := hA0
  obtain ⟨v0, v1, d0, d1, p0, p1, rfl, rfl, rfl, h0, h1⟩ := trodAll_two hA
  obtain ⟨rfl, rfl⟩ := trodVars_none hV
  obtain ⟨k, z, e, t, s, rfl⟩ := open_change (hval 0 34 v0 rfl rfl) h0
  obtain ⟨key, rfl, rfl, rfl, _⟩ := Go.ChangeMaps.open_string (P := Try.prog) under9 (hval 1 9 v1 rfl rfl) h1
  refine (walk k z e t s key W).mono fun e W' ⟨he, hw⟩ => ?_
  subst he
  exact ⟨_, rfl, post_true (P := Try.prog) (tb := 4) laidOut readable (by kernel_rfl) under4 rfl rfl hW' hw⟩

theorem dirOfNothing_holds : Rows.DirOfNothingSaid :=
  OpenClaim.holds_of_wide 10 Try.f10 rfl rfl rfl rfl rfl rfl rfl ⟨rfl, rfl, rfl, rfl, rfl⟩ rfl rfl rfl rfl rfl (by kernel_rfl) Try.func10 (by kernel_rfl)
    (of_decide_eq_true (by kernel_rfl)) (by unfold Func.isWrapper; first | (rw [if_pos (by decide +kernel)]; kernel_rfl) | (rw [if_neg (by decide +kernel)]; exact ⟨rfl, rfl⟩))
    (fun os started H enc _ => dirOfNothing_lifted os started H enc)

#print axioms dirOfNothing_holds
end Go.Proofs.Ytcjmogljihkfnaa
