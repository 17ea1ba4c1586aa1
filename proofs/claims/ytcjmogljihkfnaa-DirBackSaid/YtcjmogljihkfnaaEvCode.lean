/- A part of an evaluator of the model and of the proof that what it answers the model does; no condition. -/
import Derived.Test.YtcjmogljihkfnaaEvRegionD
import Derived.LoopN
set_option linter.unusedVariables false
set_option linter.unusedSimpArgs false
namespace Go.Ev
set_option linter.unusedSectionVars false
variable [Atoms]
open Go.RowKit (Below)

def codeOk (C : Ctx) (M : Nat → Nat → Tree Nat) (nt : Nat) (fid : Nat) : Code → Bool
  | .skip | .exit _ | .ret => true
  | .region id ops d => (bif d then (match C.plans fid id with
      | some pl => okPlan C nt ops (M fid id) pl
      | none => false)
    else ops.toList.all (opOk nt))
  | .seq a b => codeOk C M nt fid a && codeOk C M nt fid b
  | .cond c a b => opndOk c && (codeOk C M nt fid a && codeOk C M nt fid b)
  | .block _ b => codeOk C M nt fid b
  | .loop b => codeOk C M nt fid b
  | _ => false

def exOf : Ex → Exit
  | .normal => .normal
  | .exit id => .exit id
  | .ret => .ret

section
variable {B : Nat} {w0 : World} {μ : Mu} {m : Mem} {w : World} {P : Program} {C : Ctx} {nt : Nat}

theorem iter_rounds {c : Code} {f : Slots → Mem → Out} {Q : Exit → Act → World → Prop}
    (hf : ∀ {μ : Mu} {m m' : Mem} {w : World} {s s' : Slots} {a : Act} {e : Ex} {Q : Exit → Act → World → Prop}, Rel B w0 μ m w → SRel μ nt s a → f s m = some (e, s', m') →
      (∀ a' w' μ', SRel μ' nt s' a' → Rel B w0 μ' m' w' → Ext μ m μ' m' → Q (exOf e) a' w') → c.wp P Q a w) :
    ∀ (n : Nat) {μ : Mu} {m m' : Mem} {w : World} {s s' : Slots} {a : Act} {e : Ex}, Rel B w0 μ m w → SRel μ nt s a → iter n f s m = some (e, s', m') →
      (∀ a' w' μ', SRel μ' nt s' a' → Rel B w0 μ' m' w' → Ext μ m μ' m' → Q (exOf e) a' w') → Code.rounds P c Q n a w := by
  intro n
  induction n with
  | zero => intro μ m m' w s s' a e _ _ h; cases h
  | succ n ih =>
    intro μ m m' w s s' a e hr hs h hQ
    simp only [iter] at h
    obtain ⟨r, hr1, h⟩ := Option.bind_eq_some_iff.1 h
    obtain ⟨e1, s1, m1⟩ := r
    rw [rounds_succ]
    refine hf hr hs hr1 fun a' w' μ' q1 q2 q3 => ?_
    cases e1 with
    | normal => exact ih q2 q1 h fun a2 w2 μ2 k1 k2 k3 => hQ a2 w2 μ2 k1 k2 (q3.trans k3)
    | exit id =>
      simp only [Option.some.injEq, Prod.mk.injEq] at h
      obtain ⟨rfl, rfl, rfl⟩ := h
      exact hQ a' w' μ' q1 q2 q3
    | ret =>
      simp only [Option.some.injEq, Prod.mk.injEq] at h
      obtain ⟨rfl, rfl, rfl⟩ := h
      exact hQ a' w' μ' q1 q2 q3

theorem code_sound (hC : C.Ok P) (hE : C.EqOk P) (hm : P.follows .mixedOrders = true) {M : Nat → Nat → Tree Nat} {fid : Nat} {call : CallF} (hcall : ∀ f, CallOk P B w0 f (call f)) :
    ∀ (c : Code), codeOk C M nt fid c = true → ∀ {μ : Mu} {m m' : Mem} {w : World} {s s' : Slots} {a : Act} {e : Ex} {Q : Exit → Act → World → Prop}, Rel B w0 μ m w → SRel μ nt s a →
      runCode C call fid c s m = some (e, s', m') → (∀ a' w' μ', SRel μ' nt s' a' → Rel B w0 μ' m' w' → Ext μ m μ' m' → Q (exOf e) a' w') → c.wp P Q a w := by
  intro c
  induction c with
  | skip =>
    intro _ μ m m' w s s' a e Q hr hs h hQ
    simp only [runCode, Option.some.injEq, Prod.mk.injEq] at h
    obtain ⟨rfl, rfl, rfl⟩ := h
    exact wp_skip (hQ a w μ hs hr (Ext.refl _ _))
  | exit id =>
    intro _ μ m m' w s s' a e Q hr hs h hQ
    simp only [runCode, Option.some.injEq, Prod.mk.injEq] at h
    obtain ⟨rfl, rfl, rfl⟩ := h
    exact wp_exit (hQ a w μ hs hr (Ext.refl _ _))
  | ret =>
    intro _ μ m m' w s s' a e Q hr hs h hQ
    simp only [runCode, Option.some.injEq, Prod.mk.injEq] at h
    obtain ⟨rfl, rfl, rfl⟩ := h
    exact wp_ret (hQ a w μ hs hr (Ext.refl _ _))
  | region id ops d =>
    intro hok μ m m' w s s' a e Q hr hs h hQ
    simp only [runCode] at h
    obtain ⟨r, hrun, h⟩ := Option.bind_eq_some_iff.1 h
    obtain ⟨s1, m1⟩ := r
    simp only [Option.some.injEq, Prod.mk.injEq] at h
    obtain ⟨rfl, rfl, rfl⟩ := h
    simp only [codeOk] at hok
    cases d with
    | true =>
      simp only [cond_true] at hrun hok
      cases hp : C.plans fid id with
      | none => rw [hp] at hok; cases hok
      | some pl =>
        rw [hp] at hok hrun
        exact runPlan_sound hC hE hm hcall hok hr hs hrun hQ
    | false =>
      simp only [cond_false] at hrun hok
      rw [runOps_all] at hrun
      refine wp_region (idx_wp hC hE hcall (fun i o ho => List.all_eq_true.1 hok o ?_) _ hr hs hrun hQ)
      rw [← Array.getElem?_toList] at ho
      exact List.mem_of_getElem? ho
  | seq x y ihx ihy =>
    intro hok μ m m' w s s' a e Q hr hs h hQ
    simp only [codeOk, Bool.and_eq_true] at hok
    simp only [runCode] at h
    obtain ⟨r, hrun, h⟩ := Option.bind_eq_some_iff.1 h
    obtain ⟨e1, s1, m1⟩ := r
    refine wp_seq (ihx hok.1 hr hs hrun fun a1 w1 μ1 q1 q2 q3 => ?_)
    cases e1 with
    | normal => exact ihy hok.2 q2 q1 h fun a2 w2 μ2 k1 k2 k3 => hQ a2 w2 μ2 k1 k2 (q3.trans k3)
    | exit id =>
      simp only [Option.some.injEq, Prod.mk.injEq] at h
      obtain ⟨rfl, rfl, rfl⟩ := h
      exact hQ _ _ _ q1 q2 q3
    | ret =>
      simp only [Option.some.injEq, Prod.mk.injEq] at h
      obtain ⟨rfl, rfl, rfl⟩ := h
      exact hQ _ _ _ q1 q2 q3
  | cond c x y ihx ihy =>
    intro hok μ m m' w s s' a e Q hr hs h hQ
    simp only [codeOk, Bool.and_eq_true] at hok
    simp only [runCode] at h
    have hv := eval_rel hs hok.1
    split at h
    · rename_i t ht
      rw [ht] at hv
      have hc : a.eval c = .bool t := by
        generalize a.eval c = u at hv
        cases hv
        rfl
      refine wp_cond hc ?_
      cases t with
      | true => exact ihx hok.2.1 hr hs h hQ
      | false => exact ihy hok.2.2 hr hs h hQ
    · cases h
  | block id x ih =>
    intro hok μ m m' w s s' a e Q hr hs h hQ
    simp only [codeOk] at hok
    simp only [runCode] at h
    obtain ⟨r, hrun, h⟩ := Option.bind_eq_some_iff.1 h
    obtain ⟨e1, s1, m1⟩ := r
    refine wp_block (ih hok hr hs hrun fun a1 w1 μ1 q1 q2 q3 => ?_)
    cases e1 with
    | normal =>
      simp only [Option.some.injEq, Prod.mk.injEq] at h
      obtain ⟨rfl, rfl, rfl⟩ := h
      exact hQ _ _ _ q1 q2 q3
    | exit i =>
      simp only at h
      cases hb : Nat.beq i id with
      | true =>
        rw [hb] at h
        simp only [cond_true, Option.some.injEq, Prod.mk.injEq] at h
        obtain ⟨rfl, rfl, rfl⟩ := h
        simp only [exOf, Exit.inBlock, Nat.eq_of_beq_eq_true hb, if_true]
        exact hQ _ _ _ q1 q2 q3
      | false =>
        rw [hb] at h
        simp only [cond_false, Option.some.injEq, Prod.mk.injEq] at h
        obtain ⟨rfl, rfl, rfl⟩ := h
        have : i ≠ id := fun q => by subst q; simp at hb
        simp only [exOf, Exit.inBlock, if_neg this]
        exact hQ _ _ _ q1 q2 q3
    | ret =>
      simp only [Option.some.injEq, Prod.mk.injEq] at h
      obtain ⟨rfl, rfl, rfl⟩ := h
      exact hQ _ _ _ q1 q2 q3
  | loop x ih =>
    intro hok μ m m' w s s' a e Q hr hs h hQ
    simp only [codeOk] at hok
    simp only [runCode] at h
    exact wp_loop_rounds rounds (iter_rounds (f := runCode C call fid x) (fun h1 h2 h3 h4 => ih hok h1 h2 h3 h4) rounds hr hs h hQ)
  | _ => intro hok; cases hok

def resOne (tmps : Array Value) : ResultVar → Sem Value
  | .tmp t => pure (tmps.getD t undef)
  | .cell ad t => do loadVar t (← asAddr (tmps.getD ad undef))

theorem results_eq (fn : Func) (tmps : Array Value) : results fn tmps = (do let vs ← fn.results.mapM (resOne tmps); pure (if h : vs.size = 1 then vs[0] else .tuple vs)) := rfl

theorem res_sound (hC : C.Ok P) (h : Rel B w0 μ m w) {s : Slots} {a : Act} (hs : SRel μ nt s a) : ∀ {l : List ResultVar} {vs : List Value}, resV C s m l = some vs →
    ∃ vs', (l.mapM (resOne a.tmps)).run P w = .ok vs' w ∧ LRel μ vs vs'
  | [], vs, hr => by
    simp only [resV, Option.some.injEq] at hr
    subst hr
    exact ⟨[], by simp, .nil⟩
  | .tmp t :: r, vs, hr => by
    simp only [resV] at hr
    obtain ⟨l, hl, hr⟩ := Option.bind_eq_some_iff.1 hr
    simp only [Option.some.injEq] at hr
    subst hr
    obtain ⟨vs', h1, h2⟩ := res_sound hC h hs hl
    exact ⟨_ :: vs', by simp only [List.mapM_cons, resOne, Sem.run_bind, Sem.run_pure, Result.andThen_ok, h1], .cons (hs.rel t) h2⟩
  | .cell ad t :: r, vs, hr => by
    simp only [resV] at hr
    obtain ⟨v, hv, hr⟩ := Option.bind_eq_some_iff.1 hr
    obtain ⟨l, hl, hr⟩ := Option.bind_eq_some_iff.1 hr
    simp only [Option.some.injEq] at hr
    subst hr
    obtain ⟨vs', h1, h2⟩ := res_sound hC h hs hl
    obtain ⟨adr, v', e1, e2, e3⟩ := load_sound hC h (hs.rel ad) hv
    refine ⟨v' :: vs', ?_, .cons e3 h2⟩
    have e4 : (asAddr (a.tmps.getD ad undef)).run P w = .ok adr w := by rw [e1]; rfl
    simp only [List.mapM_cons, resOne, Sem.run_bind, Sem.run_pure, Result.andThen_ok, e4, e2, h1]

theorem mkRes_sound {vs vs' : List Value} (h : LRel μ vs vs') : VRel μ (mkRes vs) (if h : vs'.toArray.size = 1 then vs'.toArray[0] else .tuple vs'.toArray) := by
  match vs, vs', h with
  | [], [], h => exact .tuple' h
  | [v], [v'], h => simpa [mkRes] using h.rel 0 v v' rfl rfl
  | a :: b :: r, a' :: b' :: r', h => simpa [mkRes] using VRel.tuple' h
  | [], _ :: _, h => exact absurd h.len (by simp)
  | _ :: _, [], h => exact absurd h.len (by simp)
  | [_], _ :: _ :: _, h => exact absurd h.len (by simp)
  | _ :: _ :: _, [_], h => exact absurd h.len (by simp)

theorem Tree.get_build {α : Type} : ∀ (l : List α) (i : Nat) (t : Tree α) (k : Nat), (buildTree i l t).get k = if i ≤ k ∧ k < i + l.length then l[k - i]? else t.get k
  | [], i, t, k => by simp [buildTree]; omega
  | v :: r, i, t, k => by
    unfold buildTree
    rw [Tree.get_build r (i + 1) _ k, Tree.get_set]
    simp only [List.length_cons]
    by_cases h1 : i + 1 ≤ k ∧ k < i + 1 + r.length
    · rw [if_pos h1, if_pos (by omega), show k - i = (k - (i + 1)) + 1 from by omega, List.getElem?_cons_succ]
    · rw [if_neg h1]
      by_cases h2 : k = i
      · subst h2; rw [if_pos rfl, if_pos (by omega)]; simp
      · rw [if_neg h2, if_neg (by omega)]

theorem leaf_get {α : Type} (k : Nat) : (Tree.leaf : Tree α).get k = none := by cases k <;> rfl

theorem init_rel {args args' : List Value} (h : LRel μ args args') (hn : args.length ≤ nt) :
    SRel μ nt (initSlots args) { tmps := (⟨args'⟩ : Array Value) ++ Array.replicate (nt - (⟨args'⟩ : Array Value).size) undef, defers := [] } where
  size := by have := h.len; simp; omega
  defers := rfl
  rel t := by
    unfold Slots.get initSlots
    simp only [Tree.get_build, Nat.zero_add, Nat.zero_le, true_and, Nat.sub_zero, leaf_get]
    by_cases ht : t < args.length
    · rw [if_pos ht, List.getElem?_eq_getElem ht]
      have ht' : t < args'.length := by rw [← h.len]; exact ht
      have : ((⟨args'⟩ : Array Value) ++ Array.replicate (nt - (⟨args'⟩ : Array Value).size) undef).getD t undef = args'[t] := by
        rw [Array.getD_eq_getD_getElem?, Array.getElem?_append_left (by simpa using ht')]
        simp [ht']
      rw [this]
      exact h.rel t _ _ (List.getElem?_eq_getElem ht) (List.getElem?_eq_getElem ht')
    · rw [if_neg ht]
      have : ((⟨args'⟩ : Array Value) ++ Array.replicate (nt - (⟨args'⟩ : Array Value).size) undef).getD t undef = undef := by
        have := h.len
        rw [Array.getD_eq_getD_getElem?, Array.getElem?_append_right (by simp; omega), Array.getElem?_replicate]
        split <;> rfl
      rw [this]
      exact .undef

theorem enter_call {f : FuncId} {fn : Func} {c : Code} (hf : P.funcs[f]? = some fn) (hname : (fn.name == "runtime.NumGoroutine") = false) (hb : fn.body = some c) (args : Array Value) (w : World) :
    (callFunc f args).run P w = .ok (.enter f args) w := by
  have h1 : fn.name ≠ "runtime.NumGoroutine" := by simpa using hname
  simp [callFunc, hf, h1, hb]

/-- what a program's functions have to be -/
structure FunsOk (C : Ctx) (M : Nat → Nat → Tree Nat) (P : Program) : Prop where
  at_ : ∀ f fn, C.funs.get f = some fn → P.funcs[f]? = some fn ∧ (fn.name == "runtime.NumGoroutine") = false ∧ ∀ c, fn.body = some c → codeOk C M fn.ntmps f c = true

/-- every call that the evaluator can make, the program makes -/
theorem calls_sound (hC : C.Ok P) (hE : C.EqOk P) (hm : P.follows .mixedOrders = true) {M : Nat → Nat → Tree Nat} (hF : FunsOk C M P) {X : FuncId → Option (List Value → Mem → Ret)}
    (hX : ∀ f g, X f = some g → CallOk P B w0 f g) : ∀ (n : Nat) (f : FuncId), CallOk P B w0 f (callN C X n f) := by
  intro n
  induction n with
  | zero => intro f args m v m' h; cases h
  | succ n ih =>
    intro f args m v m' h
    simp only [callN] at h
    cases hx : X f with
    | some g => rw [hx] at h; exact hX f g hx args m v m' h
    | none =>
      rw [hx] at h
      simp only at h
      cases hf : C.funs.get f with
      | none => rw [hf] at h; cases h
      | some fn =>
        rw [hf] at h
        simp only at h
        obtain ⟨h1, h2, h3⟩ := hF.at_ f fn hf
        unfold runFn at h
        cases hb : fn.body with
        | none => rw [hb] at h; cases h
        | some c =>
          rw [hb] at h
          simp only at h
          cases hl : Nat.ble args.length fn.ntmps with
          | false => rw [hl] at h; cases h
          | true =>
            rw [hl] at h
            simp only [cond_true] at h
            obtain ⟨r, hrun, h⟩ := Option.bind_eq_some_iff.1 h
            obtain ⟨e, s1, m1⟩ := r
            intro μ w args' hr ha
            refine .inl ⟨enter_call h1 h2 hb _ w, calls_of_wp h1 hb ?_⟩
            refine code_sound hC hE hm ih c (h3 c hb) hr (init_rel ha (Nat.le_of_ble_eq_true hl)) hrun fun a' w' μ' q1 q2 q3 => ?_
            have fin : ∀ vs, resV C s1 m1 fn.results.toList = some vs → v = mkRes vs → m' = m1 → a'.defers = [] ∧ ∃ v', (results fn a'.tmps).run P w' = .ok v' w' ∧ ∃ v'', Ending.returned v' = .returned v'' ∧ Sim B w0 μ m v m' v'' w' := by
              intro vs hvs e1 e2
              subst e1 e2
              obtain ⟨vs', k1, k2⟩ := res_sound hC q2 q1 hvs
              refine ⟨q1.defers, _, ?_, _, rfl, μ', mkRes_sound k2, q2, q3⟩
              rw [results_eq, ← Array.toArray_toList (xs := fn.results), List.mapM_toArray]
              simp only [Sem.run_bind, Sem.run_map, k1, Result.andThen_ok, Sem.run_pure]
            cases e with
            | exit id => cases h
            | normal =>
              simp only at h
              obtain ⟨vs, hvs, h⟩ := Option.bind_eq_some_iff.1 h
              simp only [Option.some.injEq, Prod.mk.injEq] at h
              exact fin vs hvs h.1.symm h.2.symm
            | ret =>
              simp only at h
              obtain ⟨vs, hvs, h⟩ := Option.bind_eq_some_iff.1 h
              simp only [Option.some.injEq, Prod.mk.injEq] at h
              exact fin vs hvs h.1.symm h.2.symm

end
end Go.Ev
