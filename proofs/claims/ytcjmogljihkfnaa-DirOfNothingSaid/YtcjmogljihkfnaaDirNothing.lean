/- What the law DirOfNothing answers at the evaluator; no condition. -/
import Derived.Test.YtcjmogljihkfnaaDirCtx
import Derived.Test.YtcjmogljihkfnaaEvSym
set_option linter.unusedVariables false
set_option linter.unusedSimpArgs false
namespace Go.Ev.Dir
open Go.Ev Go.Proofs

def chg (k z e t : Int) (s : ByteArray) : Value := .agg ⟨[.int .i64 k, .int .i64 z, .int .i64 e, .int .i64 t, .string s]⟩
noncomputable def b10 : Code := bodyOf Try.f10
noncomputable def call14 : CallF := callN ctx (fun _ => none) 14

theorem b10_body : Try.f10.body = some b10 := by kernel_rfl
noncomputable def r1 : Code := sA (sA (sB b10))
noncomputable def if1 : Code := sB (sA (sB b10))
noncomputable def tail1 : Code := sB (sB b10)
theorem b10_eq : b10 = .seq (.region 0 (rOps (sA b10)) false) (.seq (.seq (.region 1 (rOps r1) false) (.cond (.tmp 16) (ifA if1) (ifB if1))) tail1) := by kernel_rfl
theorem skip1 : ifB if1 = .skip := by kernel_rfl
theorem r1_3 : ((rOps r1).toList.drop 3) = ((rOps r1).toList.drop 3).headD default :: (rOps r1).toList.drop 4 := by kernel_rfl

theorem nothing_tail (s : Slots) (m : Mem) (h : outIs (saysTrue ctx Try.f10.results.toList) (runCode ctx call14 10 tail1 s m) = true) :
    RunP ctx call14 10 tail1 s m fun e s m => (∀ id, e ≠ .exit id) ∧ ∃ l, resV ctx s m Try.f10.results.toList = some l ∧ mkRes l = .bool true :=
  RunP.mono (RunP.all (f := saysTrue ctx Try.f10.results.toList) h) fun _ _ _ h => saysTrue_spec h

theorem nothing_out (s : Slots) (m : Mem) (h : outIs (saysTrue ctx Try.f10.results.toList) (runCode ctx call14 10 (ifA if1) s m) = true) {Q : Ex → Slots → Mem → Prop}
    (hQ : ∀ e s m, saysTrue ctx Try.f10.results.toList e s m = true → Q e s m) :
    RunP ctx call14 10 (ifA if1) s m Q :=
  RunP.mono (RunP.all (f := saysTrue ctx Try.f10.results.toList) h) hQ

theorem r1_7 : (((rOps r1).toList.drop 4).drop 3) = (((rOps r1).toList.drop 4).drop 3).headD default :: (rOps r1).toList.drop 8 := by kernel_rfl

theorem nothing (k z e t : Int) (s key : ByteArray) : ∃ v m', runFn ctx call14 10 Try.f10 [chg k z e t s, .string key] ⟨.leaf, 0⟩ = some (v, m') ∧ v = .bool true := by
  refine runFn_of b10_body (by kernel_rfl) ?_
  rw [b10_eq]
  refine RunP.seq (RunP.region (OpsP.rest (by kernel_rfl) ?_))
  refine RunP.seq (RunP.seq (RunP.region (OpsP.take 3 (by kernel_rfl) (OpsP.boolAt 11 r1_3 (by kernel_rfl) fun b hb => ?_))))
  clear hb
  have leave : ∀ (e : Ex) (s : Slots) (m : Mem), saysTrue ctx Try.f10.results.toList e s m = true → (match e with
      | .normal => RunP ctx call14 10 tail1 s m fun e s m => (∀ id, e ≠ .exit id) ∧ ∃ l, resV ctx s m Try.f10.results.toList = some l ∧ mkRes l = .bool true
      | e => (∀ id, e ≠ .exit id) ∧ ∃ l, resV ctx s m Try.f10.results.toList = some l ∧ mkRes l = .bool true) := by
    intro e s m h
    have := saysTrue_spec h
    cases e with
    | normal => unfold saysTrue at h; cases h
    | exit id => exact this
    | ret => exact this
  cases b with
  | true =>
    refine OpsP.rest (by kernel_rfl) ?_
    refine RunP.cond (t := true) (by kernel_rfl) (fun _ => nothing_out _ _ (by kernel_rfl) leave) fun h => (by cases h)
  | false =>
    refine OpsP.take 3 (by kernel_rfl) (OpsP.boolAt 15 r1_7 (by kernel_rfl) fun b hb => ?_)
    clear hb
    refine OpsP.rest (by cases b <;> kernel_rfl) ?_
    refine RunP.cond (t := b) (by cases b <;> kernel_rfl) (fun h => ?_) fun h => ?_
    · subst h
      exact nothing_out _ _ (by kernel_rfl) leave
    · subst h
      rw [skip1]
      exact ⟨.normal, _, _, rfl, nothing_tail _ _ (by kernel_rfl)⟩
end Go.Ev.Dir
