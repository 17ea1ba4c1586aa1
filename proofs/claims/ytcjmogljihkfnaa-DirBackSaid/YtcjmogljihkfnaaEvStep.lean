/- A part of an evaluator of the model and of the proof that what it answers the model does; no condition. -/
import Derived.Test.YtcjmogljihkfnaaEvPrim
set_option linter.unusedVariables false
set_option linter.unusedSimpArgs false
namespace Go.Ev
set_option linter.unusedSectionVars false
variable [Atoms]
open Go.RowKit (Below)

section
variable {B : Nat} {w0 : World} {μ : Mu} {m : Mem} {w : World} {P : Program} {C : Ctx}

theorem Slots.get_set (s : Slots) (t u : Nat) (v : Value) : (s.set t v).get u = if u = t then v else s.get u := by
  unfold Slots.get Slots.set
  simp only [Tree.get_set]
  by_cases h : u = t
  · rw [if_pos h, if_pos h]
  · rw [if_neg h, if_neg h]

/-- the slots, against the model's -/
structure SRel (μ : Mu) (nt : Nat) (s : Slots) (a : Act) : Prop where
  size : a.tmps.size = nt
  rel : ∀ t, VRel μ (s.get t) (a.tmps.getD t undef)
  defers : a.defers = []

theorem SRel.mono {μ ν : Mu} (h : Mu.le μ ν) {nt : Nat} {s : Slots} {a : Act} (hs : SRel μ nt s a) : SRel ν nt s a := ⟨hs.size, fun t => (hs.rel t).mono h, hs.defers⟩

theorem SRel.put {nt : Nat} {s : Slots} {a : Act} (hs : SRel μ nt s a) {d : Option Nat} (hd : ∀ t, d = some t → t < nt) {v v' : Value} (hv : VRel μ v v') : SRel μ nt (s.put d v) (a.put d v') := by
  cases d with
  | none => exact hs
  | some t =>
    have ht := hd t rfl
    refine ⟨by simp [Act.put, hs.size], fun u => ?_, hs.defers⟩
    simp only [Slots.put, Slots.get_set, Act.put]
    by_cases h : u = t
    · subst h
      rw [if_pos rfl]
      simp [hs.size, ht, Array.getD_eq_getD_getElem?]
      exact hv
    · rw [if_neg h]
      have : (a.tmps.setIfInBounds t v').getD u undef = a.tmps.getD u undef := by
        simp [Array.getD_eq_getD_getElem?, Array.getElem?_setIfInBounds_ne (Ne.symm h)]
      rw [this]
      exact hs.rel u

def opndOk : Operand → Bool
  | .const v => plainV v
  | .global _ => false
  | _ => true

def opOk (nt : Nat) (o : Oper) : Bool := o.op.operands.toList.all opndOk && (match o.dst with | some d => Nat.blt d nt | none => true)

theorem eval_rel {nt : Nat} {s : Slots} {a : Act} (hs : SRel μ nt s a) {x : Operand} (hx : opndOk x = true) : VRel μ (s.eval x) (a.eval x) := by
  cases x with
  | tmp t => exact hs.rel t
  | const v => exact plainV_rel hx μ
  | global g => cases hx
  | func f => exact .func (as := []) (bs := []) (cs := []) (ds := []) rfl (fun i u v h => by simp at h) rfl (fun i u v h => by simp at h)

theorem opOk_spec {nt : Nat} {o : Oper} (h : opOk nt o = true) : (∀ x ∈ o.op.operands.toList, opndOk x = true) ∧ ∀ t, o.dst = some t → t < nt := by
  unfold opOk at h
  rw [Bool.and_eq_true] at h
  refine ⟨List.all_eq_true.1 h.1, fun t ht => ?_⟩
  have := h.2
  rw [ht] at this
  exact Nat.le_of_ble_eq_true this

/-- what a call of f is good for -/
def CallOk (P : Program) (B : Nat) (w0 : World) (f : FuncId) (g : List Value → Mem → Ret) : Prop :=
  ∀ args m v m', g args m = some (v, m') → ∀ μ w args', Rel B w0 μ m w → LRel μ args args' →
    ((callFunc f ⟨args'⟩).run P w = .ok (.enter f ⟨args'⟩) w ∧ Calls P f ⟨args'⟩ w fun e w' => ∃ v', e = .returned v' ∧ Sim B w0 μ m v m' v' w') ∨
    (∃ v' w', (callFunc f ⟨args'⟩).run P w = .ok (.value v') w' ∧ Sim B w0 μ m v m' v' w')

theorem run_call (ρ : Operand → Value) (o : Oper) {f : Operand} {args : Array Operand} {ats : Array TypeId} (ho : o.op = .call { callee := .value f, args := args, argTypes := ats })
    {g : FuncId} {first cap : Array Value} (hf : ρ f = .func (.func g) first cap) (w : World) :
    (execOp ρ o).run P w = (callFunc g (first ++ args.map ρ ++ cap)).run P w := by
  simp [execOp, ho, resolve, hf, Deferred.ofValue, invoke]

/-- one operation that is wanted -/
theorem oper_wp (hC : C.Ok P) (hE : C.EqOk P) {call : CallF} (hcall : ∀ f, CallOk P B w0 f (call f)) (h : Rel B w0 μ m w) {s : Slots} {a : Act} {o : Oper}
    (hρ : ∀ x ∈ o.op.operands.toList, VRel μ (s.eval x) (a.eval x)) {v : Value} {m' : Mem} (hp : oper C call s.eval o.op m = some (v, m')) {Q : Exit → Act → World → Prop} {K : Act → World → Prop}
    (hK : ∀ v' w' μ', VRel μ' v v' → Rel B w0 μ' m' w' → Ext μ m μ' m' → K (a.put o.dst v') w') : o.wp P a w K Q := by
  have byPrim : prim C s.eval o.op m = some (v, m') → o.wp P a w K Q := by
    intro hp
    obtain ⟨nx, v', w', h1, h2, μ', h3, h4, h5⟩ := prim_sound hC hE h hρ hp
    unfold Oper.wp
    rw [h1]
    rcases h2 with rfl | ⟨rfl, rfl⟩
    · exact hK v' w' μ' h3 h4 h5
    · exact hK undef w' μ' h3 h4 h5
  cases hop : o.op with
  | call c =>
    obtain ⟨callee, args, ats⟩ := c
    cases callee with
    | value f =>
      simp only [oper, hop] at hp
      split at hp
      · rename_i g first cap hf
        have hfr := hρ f (by rw [hop]; simp [Op.operands, Call.operands])
        rw [hf] at hfr
        generalize hff : a.eval f = ff at hfr
        cases hfr with
        | func h1 h2 h3 h4 =>
          rename_i as bs cs ds
          have hargs := lrel_map (μ := μ) (l := args.toList) (ρ := s.eval) (ρ' := a.eval) (fun x hxx => hρ x (by rw [hop]; simp [Op.operands, Call.operands]; exact .inr (by simpa using hxx)))
          have hall : LRel μ (as ++ args.toList.map s.eval ++ cs) (bs ++ args.toList.map a.eval ++ ds) := ((LRel.mk h1 h2).append hargs).append ⟨h3, h4⟩
          have hrun := run_call (P := P) a.eval o hop hff w
          have he : ((⟨bs⟩ : Array Value) ++ args.map a.eval ++ (⟨ds⟩ : Array Value)) = ⟨bs ++ args.toList.map a.eval ++ ds⟩ := by
            apply Array.ext'; simp
          rw [he] at hrun
          unfold Oper.wp
          rw [hrun]
          rcases hcall g _ _ _ _ hp μ w _ h hall with ⟨c1, c2⟩ | ⟨v', w', c1, μ', c2, c3, c4⟩
          · rw [c1]
            simp only [Oper.upon]
            refine c2.mono ?_
            rintro e w' ⟨v', rfl, μ', c3, c4, c5⟩
            exact hK v' w' μ' c3 c4 c5
          · rw [c1]
            exact hK v' w' μ' c2 c3 c4
      · cases hp
    | builtin b => exact byPrim (by rw [hop]; simpa only [oper, hop] using hp)
    | invoke r n => exact byPrim (by rw [hop]; simpa only [oper, hop] using hp)
  | _ => exact byPrim (by rw [hop]; simpa only [oper, hop] using hp)

theorem guard_looks {ops : Array Oper} {o : Oper} {j d : Nat} {want : Bool} (hg : o.guard = some (j, want)) (hd : (ops[j]?).bind (·.dst) = some d) : d ∈ o.looksAt ops := by
  unfold Oper.looksAt
  rw [hg]
  simp only [hd]
  simp

theorem opnd_looks {ops : Array Oper} {o : Oper} {t : Nat} (h : Operand.tmp t ∈ o.op.operands.toList) : t ∈ o.looksAt ops := by
  unfold Oper.looksAt
  refine List.mem_append.2 (.inl (List.mem_filterMap.2 ⟨_, h, rfl⟩))

theorem wanted_rel {s : Slots} {a : Act} {ops : Array Oper} {o : Oper} (hs : ∀ t ∈ o.looksAt ops, VRel μ (s.get t) (a.tmps.getD t undef)) {b : Bool} (h : wanted ops s o = some b) : Region.wanted o (yielded ops a.tmps) = b := by
  unfold wanted at h
  unfold Region.wanted
  cases hg : o.guard with
  | none => rw [hg] at h; simp only [Option.some.injEq] at h; simpa using h
  | some jw =>
    obtain ⟨j, want⟩ := jw
    rw [hg] at h
    simp only at h ⊢
    unfold yielded
    cases hd : (ops[j]?).bind (·.dst) with
    | none =>
      rw [hd] at h
      simp only [Option.some.injEq] at h
      subst h
      simp
    | some d =>
      rw [hd] at h
      simp only [Option.bind_some] at h ⊢
      have hr := hs d (guard_looks hg hd)
      cases hv : s.get d with
      | bool x =>
        rw [hv] at h hr
        simp only [Option.some.injEq] at h
        subst h
        cases ht : a.tmps[d]? with
        | none =>
          simp [Array.getD_eq_getD_getElem?, ht] at hr
          cases hr
        | some y =>
          simp [Array.getD_eq_getD_getElem?, ht] at hr
          cases hr
          simp
      | _ =>
        rw [hv] at h hr
        simp only [Option.some.injEq] at h
        subst h
        cases ht : a.tmps[d]? with
        | none => simp
        | some y =>
          simp [Array.getD_eq_getD_getElem?, ht] at hr
          cases hr <;> first
            | (simp; done)
            | (rename_i jj; rcases Atoms.flat jj with ⟨k, n, e⟩ | ⟨q, e⟩ <;> rw [e] <;> simp)

/-- a step of a region -/
theorem step_wp (hC : C.Ok P) (hE : C.EqOk P) {call : CallF} (hcall : ∀ f, CallOk P B w0 f (call f)) (h : Rel B w0 μ m w) {nt : Nat} {s s' : Slots} {a : Act} (hs : SRel μ nt s a) {ops : Array Oper} {i : Nat} {o : Oper}
    (ho : ops[i]? = some o) (hok : opOk nt o = true) {m' : Mem} (hp : stepOp C call ops o s m = some (s', m')) {Q : Exit → Act → World → Prop} {K : Act → World → Prop}
    (hK : ∀ a' w' μ', SRel μ' nt s' a' → Rel B w0 μ' m' w' → Ext μ m μ' m' → K a' w') : wpOp P ops Q i K a w := by
  obtain ⟨hx, hd⟩ := opOk_spec hok
  unfold wpOp
  rw [ho]
  simp only
  unfold stepOp at hp
  cases hw : wanted ops s o with
  | none => rw [hw] at hp; cases hp
  | some b =>
    rw [hw] at hp
    have hwr := wanted_rel (fun t _ => hs.rel t) hw
    simp only [Option.bind_some] at hp
    cases b with
    | true =>
      rw [hwr]
      simp only [cond_true, if_true] at hp ⊢
      cases hop : oper C call s.eval o.op m with
      | none => rw [hop] at hp; cases hp
      | some r =>
        obtain ⟨v, m2⟩ := r
        rw [hop] at hp
        simp only [Option.bind_some, Option.some.injEq, Prod.mk.injEq] at hp
        obtain ⟨rfl, rfl⟩ := hp
        refine .inl (oper_wp hC hE hcall h (fun x hxx => eval_rel hs (hx x hxx)) hop ?_)
        intro v' w' μ' h1 h2 h3
        exact hK _ w' μ' ((hs.mono h3.le).put hd h1) h2 h3
    | false =>
      rw [hwr]
      simp only [cond_false, Option.some.injEq, Prod.mk.injEq] at hp
      obtain ⟨rfl, rfl⟩ := hp
      simp only [Bool.false_eq_true, if_false]
      exact hK _ w μ (hs.put hd VRel.undef) h (Ext.refl _ _)

/-- operations one behind the other -/
theorem idx_wp (hC : C.Ok P) (hE : C.EqOk P) {call : CallF} (hcall : ∀ f, CallOk P B w0 f (call f)) {nt : Nat} {ops : Array Oper} (hok : ∀ (i : Nat) (o : Oper), ops[i]? = some o → opOk nt o = true) {Q : Exit → Act → World → Prop} :
    ∀ (l : List Nat) {μ : Mu} {m m' : Mem} {w : World} {s s' : Slots} {a : Act}, Rel B w0 μ m w → SRel μ nt s a → runIdx C call ops l s m = some (s', m') →
      (∀ a' w' μ', SRel μ' nt s' a' → Rel B w0 μ' m' w' → Ext μ m μ' m' → Q .normal a' w') → wpOps P ops Q l a w
  | [], μ, m, m', w, s, s', a, h, hs, hp, hQ => by
    simp only [runIdx, Option.some.injEq, Prod.mk.injEq] at hp
    obtain ⟨rfl, rfl⟩ := hp
    exact hQ a w μ hs h (Ext.refl _ _)
  | i :: r, μ, m, m', w, s, s', a, h, hs, hp, hQ => by
    simp only [runIdx] at hp
    cases ho : ops[i]? with
    | none => rw [ho] at hp; cases hp
    | some o =>
      rw [ho] at hp
      simp only at hp
      cases hst : stepOp C call ops o s m with
      | none => rw [hst] at hp; cases hp
      | some sm =>
        obtain ⟨s1, m1⟩ := sm
        rw [hst] at hp
        simp only [Option.bind_some] at hp
        rw [wpOps_cons]
        refine step_wp hC hE hcall h hs ho (hok i o ho) hst ?_
        intro a1 w1 μ1 h1 h2 h3
        exact idx_wp hC hE hcall hok r h2 h1 hp fun a' w' μ' q1 q2 q3 => hQ a' w' μ' q1 q2 (h3.trans q3)

theorem runOps_eq {call : CallF} {ops : Array Oper} : ∀ (k : Nat) (s : Slots) (m : Mem), runOps C call ops (ops.toList.drop (ops.size - k)) s m = runIdx C call ops (List.range' (ops.size - k) (ops.size - (ops.size - k))) s m
  | 0, s, m => by
    have e : ops.toList.drop ops.size = [] := List.drop_of_length_le (by simp)
    simp only [Nat.sub_zero, e, Nat.sub_self, List.range'_zero, runOps, runIdx]
  | k + 1, s, m => by
    by_cases hk : k + 1 ≤ ops.size
    · have hlt : ops.size - (k + 1) < ops.toList.length := by simp; omega
      rw [List.drop_eq_getElem_cons hlt]
      rw [show ops.size - (ops.size - (k + 1)) = (ops.size - (ops.size - k)) + 1 from by omega, List.range'_succ]
      have hget : ops[ops.size - (k + 1)]? = some ops.toList[ops.size - (k + 1)] := by
        rw [← Array.getElem?_toList, List.getElem?_eq_getElem hlt]
      simp only [runOps, runIdx, hget]
      congr 1
      funext sm
      obtain ⟨s1, m1⟩ := sm
      simp only
      rw [show ops.size - (k + 1) + 1 = ops.size - k from by omega]
      exact runOps_eq k s1 m1
    · have e : ops.size - (k + 1) = ops.size - k := by omega
      rw [e]
      exact runOps_eq k s m

theorem runOps_all {call : CallF} {ops : Array Oper} (s : Slots) (m : Mem) : runOps C call ops ops.toList s m = runIdx C call ops (List.range ops.size) s m := by
  have := runOps_eq (C := C) (call := call) (ops := ops) ops.size s m
  simpa [List.range_eq_range'] using this

end
end Go.Ev
