/- A part of an evaluator of the model and of the proof that what it answers the model does; no condition. -/
import Derived.Test.YtcjmogljihkfnaaEvFrame
set_option linter.unusedVariables false
set_option linter.unusedSimpArgs false
namespace Go.Ev
set_option linter.unusedSectionVars false
variable [Atoms]
open Go.RowKit (Below)

/-! a loop whose number of rounds is not known, checked round by round -/

def seqs : List Code → Code → Code
  | [], c => c
  | a :: l, c => .seq a (seqs l c)

def runL (C : Ctx) (call : CallF) (fid : Nat) : List Code → Slots → Mem → Option (Slots × Mem)
  | [], s, m => some (s, m)
  | c :: l, s, m => match runCode C call fid c s m with
    | some (.normal, s, m) => runL C call fid l s m
    | _ => none

/-- what a piece of code does at the evaluator the program does -/
def Sound (P : Program) (B : Nat) (w0 : World) (nt : Nat) (C : Ctx) (call : CallF) (fid : Nat) (c : Code) : Prop :=
  ∀ {μ : Mu} {m m' : Mem} {w : World} {s s' : Slots} {a : Act} {e : Ex} {Q : Exit → Act → World → Prop}, Rel B w0 μ m w → SRel μ nt s a →
    runCode C call fid c s m = some (e, s', m') → (∀ a' w' μ', SRel μ' nt s' a' → Rel B w0 μ' m' w' → Q (exOf e) a' w') → c.wp P Q a w

section
variable {B : Nat} {w0 : World} {P : Program} {nt fid : Nat}

theorem sound_of {C : Ctx} (hC : C.Ok P) (hE : C.EqOk P) (hm : P.follows .mixedOrders = true) {M : Nat → Nat → Tree Nat} {call : CallF} (hcall : ∀ f, CallOk P B w0 f (call f)) {c : Code} (hc : codeOk C M nt fid c = true) :
    Sound P B w0 nt C call fid c := fun hr hs h hQ => code_sound hC hE hm hcall c hc hr hs h fun a' w' μ' q1 q2 _ => hQ a' w' μ' q1 q2

theorem wp_seqs {C : Ctx} {call : CallF} : ∀ {l : List Code} {c : Code} {μ : Mu} {m m' : Mem} {w : World} {s s' : Slots} {a : Act} {Q : Exit → Act → World → Prop}, (∀ x ∈ l, Sound P B w0 nt C call fid x) → Rel B w0 μ m w → SRel μ nt s a →
    runL C call fid l s m = some (s', m') → (∀ a' w' μ', SRel μ' nt s' a' → Rel B w0 μ' m' w' → c.wp P Q a' w') → (seqs l c).wp P Q a w
  | [], c, μ, m, m', w, s, s', a, Q, _, hr, hs, h, k => by
    simp only [runL, Option.some.injEq, Prod.mk.injEq] at h
    obtain ⟨rfl, rfl⟩ := h
    exact k a w μ hs hr
  | x :: l, c, μ, m, m', w, s, s', a, Q, hl, hr, hs, h, k => by
    simp only [runL] at h
    split at h
    · rename_i s1 m1 hx
      exact wp_seq (hl x List.mem_cons_self hr hs hx fun a1 w1 μ1 q1 q2 => wp_seqs (fun y hy => hl y (List.mem_cons_of_mem _ hy)) q2 q1 h k)
    · cases h

section
variable (ctxE ctxL : Nat → Ctx) (callE callL : Nat → CallF) (fid' : Nat) (body : Code) (lid : Nat) (tailOk : Nat → Slots → Mem → Bool)

/-- the loop may end in round i, and what is behind it is right; or it goes on -/
def chkEnd (i : Nat) (r : Out) : Bool := match r with
  | some (.exit j, s', m') => Nat.beq j lid && tailOk i s' m'
  | _ => false

def chk : Nat → Nat → Slots → Mem → Bool
  | 0, i, s, m => chkEnd lid tailOk i (runCode (ctxE i) (callE i) fid' body s m)
  | n + 1, i, s, m => chkEnd lid tailOk i (runCode (ctxE i) (callE i) fid' body s m) && (match runCode (ctxL i) (callL i) fid' body s m with
    | some (.normal, s', m') => chk n (i + 1) s' m'
    | _ => false)
end

theorem chkEnd_spec {lid : Nat} {tailOk : Nat → Slots → Mem → Bool} {i : Nat} {r : Out} (h : chkEnd lid tailOk i r = true) : ∃ s' m', r = some (.exit lid, s', m') ∧ tailOk i s' m' = true := by
  unfold chkEnd at h
  split at h
  · rename_i j s' m'
    simp only [Bool.and_eq_true, Nat.beq_eq] at h
    obtain ⟨rfl, h⟩ := h
    exact ⟨s', m', rfl, h⟩
  · cases h

theorem rounds_chk {ctxE ctxL : Nat → Ctx} {callE callL : Nat → CallF} {body : Code} {lid T : Nat} {tailOk : Nat → Slots → Mem → Bool}
    (sE : Sound P B w0 nt (ctxE T) (callE T) fid body) (sL : ∀ i, i < T → Sound P B w0 nt (ctxL i) (callL i) fid body) {Q : Exit → Act → World → Prop}
    (hQ : ∀ {s : Slots} {m : Mem} {μ : Mu} {a : Act} {w : World}, SRel μ nt s a → Rel B w0 μ m w → tailOk T s m = true → Q (.exit lid) a w) :
    ∀ (n i : Nat) (s : Slots) (m : Mem), chk ctxE ctxL callE callL fid body lid tailOk n i s m = true → i ≤ T → T ≤ i + n → ∀ (k : Nat), n < k → ∀ {μ : Mu} {a : Act} {w : World}, SRel μ nt s a → Rel B w0 μ m w → Code.rounds P body Q k a w := by
  have fin : ∀ (i : Nat) (s : Slots) (m : Mem), i = T → chkEnd lid tailOk i (runCode (ctxE i) (callE i) fid body s m) = true → ∀ (k : Nat), 0 < k → ∀ {μ : Mu} {a : Act} {w : World}, SRel μ nt s a → Rel B w0 μ m w → Code.rounds P body Q k a w := by
    intro i s m hi h k hk μ a w hs hr
    subst hi
    obtain ⟨s', m', h1, h2⟩ := chkEnd_spec h
    obtain ⟨k, rfl⟩ : ∃ j, k = j + 1 := ⟨k - 1, by omega⟩
    rw [rounds_succ]
    exact sE hr hs h1 fun a' w' μ' q1 q2 => hQ q1 q2 h2
  intro n
  induction n with
  | zero =>
    intro i s m h h1 h2 k hk μ a w hs hr
    exact fin i s m (by omega) h k hk hs hr
  | succ n ih =>
    intro i s m h h1 h2 k hk μ a w hs hr
    unfold chk at h
    simp only [Bool.and_eq_true] at h
    by_cases hi : i = T
    · exact fin i s m hi h.1 k (by omega) hs hr
    · obtain ⟨k, rfl⟩ : ∃ j, k = j + 1 := ⟨k - 1, by omega⟩
      have h3 := h.2
      split at h3
      · rename_i s' m' hx
        rw [rounds_succ]
        exact sL i (by omega) hr hs hx fun a' w' μ' q1 q2 => ih (i + 1) s' m' h3 (by omega) (by omega) k (by omega) q1 q2
      · cases h3

/-- a function that ends here answers true -/
theorem post_says {C : Ctx} (hC : C.Ok P) {fn : Func} {e : Ex} {s : Slots} {m : Mem} {μ : Mu} {a : Act} {w : World} (q1 : SRel μ nt s a) (q2 : Rel B w0 μ m w) (h : saysTrue C fn.results.toList e s m = true) :
    bodyPost P fn (fun e w' => e = .returned (.bool true) ∧ Below B w0 w') (exOf e) a w := by
  obtain ⟨he, l, hl, hv⟩ := saysTrue_spec h
  obtain ⟨vs', k1, k2⟩ := res_sound hC q2 q1 hl
  have hk := mkRes_sound k2
  rw [hv] at hk
  have fin : a.defers = [] ∧ ∃ v', (results fn a.tmps).run P w = .ok v' w ∧ (Ending.returned v' = .returned (.bool true) ∧ Below B w0 w) := by
    refine ⟨q1.defers, if h : vs'.toArray.size = 1 then vs'.toArray[0] else .tuple vs'.toArray, ?_, ?_, q2.below⟩
    · rw [results_eq, ← Array.toArray_toList (xs := fn.results), List.mapM_toArray]
      simp only [Sem.run_bind, Sem.run_map, k1, Result.andThen_ok, Sem.run_pure]
    · generalize (if h : vs'.toArray.size = 1 then vs'.toArray[0] else Value.tuple vs'.toArray) = v at hk
      cases hk
      rfl
  cases e with
  | normal => exact fin
  | exit id => exact absurd rfl (he id)
  | ret => exact fin

end
end Go.Ev
