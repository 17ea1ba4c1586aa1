/- The law's last call, known(), is told: it answers true; no condition. -/
import Derived.Test.YtcjmogljihkfnaaDirCtx
import Derived.Test.YtcjmogljihkfnaaEvFrame
set_option linter.unusedVariables false
set_option linter.unusedSimpArgs false
namespace Go.Ev.Dir
open Go.Ev Go.Proofs
set_option linter.unusedSectionVars false

/-- known(), told -/
def tell : FuncId → Option (List Value → Mem → Ret) := fun f => bif Nat.beq f 17 then some (told0 (.bool true)) else none

theorem known_true : isTrue (callN ctx (fun _ => none) 15 17 [] ⟨.leaf, 0⟩) = true := by kernel_rfl

theorem known_ok [Atoms] (B : Nat) (w0 : World) : CallOk Try.prog B w0 17 (told0 (.bool true)) :=
  let ⟨_, h⟩ := isTrue_spec known_true
  CallOk.closed (fun B w0 => calls_sound ctx_ok eqs_ok mixed funs_ok (fun f g h => by cases h) 15 17) h rfl B w0

theorem tell_ok [Atoms] (B : Nat) (w0 : World) : ∀ f g, tell f = some g → CallOk Try.prog B w0 f g := by
  intro f g h
  unfold tell at h
  cases hf : Nat.beq f 17 with
  | false => rw [hf] at h; cases h
  | true =>
    rw [hf] at h
    have e := Nat.eq_of_beq_eq_true hf
    subst e
    simp only [cond_true, Option.some.injEq] at h
    subst h
    exact known_ok B w0

end Go.Ev.Dir
