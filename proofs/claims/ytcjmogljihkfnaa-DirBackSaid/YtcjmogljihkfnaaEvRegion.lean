/- A part of an evaluator of the model and of the proof that what it answers the model does; no condition. -/
import Derived.Test.YtcjmogljihkfnaaEvAllocB
set_option linter.unusedVariables false
set_option linter.unusedSimpArgs false
namespace Go.Ev
set_option linter.unusedSectionVars false
variable [Atoms]
open Go.RowKit (Below)

/-! regions whose order is drawn -/

def bit (m i : Nat) : Bool := Nat.testBit m i

def inL : List Nat → Nat → Bool
  | [], _ => false
  | a :: r, n => bif Nat.beq a n then true else inL r n

theorem inL_iff {l : List Nat} {n : Nat} : inL l n = true ↔ n ∈ l := by
  induction l with
  | nil => simp [inL]
  | cons a r ih =>
    unfold inL
    cases h : Nat.beq a n with
    | true => simp [Nat.eq_of_beq_eq_true h]
    | false =>
      simp only [cond_false, ih, List.mem_cons]
      have : n ≠ a := fun e => by subst e; simp at h
      simp [this]

/-- a float: it writes no memory -/
def isFl (C : Ctx) (o : Oper) : Bool := match cls C o.op with | .eff => false | _ => true

/-- float i is run before float q: when both wait, q sees nothing of i, and i nothing of q -/
def fl (ops : Array Oper) (bef : Nat → Nat) (i q : Nat) : Bool :=
  match ops[i]?, ops[q]? with
  | some oi, some oq => match oi.dst, oq.dst with
    | some di, some dq => !Nat.beq di dq && (!inL (oi.looksAt ops) dq && (!inL (oq.looksAt ops) di || bit (bef q) i))
    | _, _ => false
  | _, _ => false

/-- float i waits while e runs -/
def ef (ops : Array Oper) (i e : Nat) : Bool :=
  match ops[i]?, ops[e]? with
  | some oi, some oe => match oi.dst with
    | some di => !inL (oe.looksAt ops) di && (match oe.dst with | some de => !Nat.beq di de && !inL (oi.looksAt ops) de | none => true)
    | none => false
  | _, _ => false

def selfOk (C : Ctx) (ops : Array Oper) (q : Nat) : Bool :=
  match ops[q]? with
  | some o => isFl C o && (match o.dst with | some d => !inL (o.looksAt ops) d | none => false)
  | none => false

def okFloats (C : Ctx) (ops : Array Oper) (bef : Nat → Nat) (M : Nat) : List Nat → List Nat → Bool
  | _, [] => true
  | D, q :: r => selfOk C ops q && D.all (fun i => bit M i || fl ops bef i q) && okFloats C ops bef M (q :: D) r

def isRead (C : Ctx) (ops : Array Oper) (i : Nat) : Bool := match ops[i]? with
  | some o => (match cls C o.op with | .read => true | _ => false)
  | none => false

def okReads (C : Ctx) (ops : Array Oper) (M : Nat) (ag : List Nat) (D : List Nat) : Bool :=
  D.all fun i => bit M i || (!isRead C ops i || inL ag i)

def rem : List Phase → List Nat
  | [] => []
  | p :: r => p.eff :: (p.ops ++ rem r)

def okRest (C : Ctx) (ops : Array Oper) (bef : Nat → Nat) : List Nat → List Phase → Bool
  | _, [] => true
  | D, p :: r => D.all (fun i => bit (bef p.eff) i || ef ops i p.eff) && okFloats C ops bef (bef p.eff) D p.ops && okReads C ops (bef p.eff) p.again (p.ops.reverse ++ D) &&
      (p.ops ++ rem r).all (fun i => bit (bef i) p.eff) && okRest C ops bef (p.ops.reverse ++ D) r

section
variable {B : Nat} {w0 : World} {μ : Mu} {m : Mem} {w : World} {P : Program} {C : Ctx} {ops : Array Oper} {bef : Nat → Nat} {nt : Nat}

structure SRelX (μ : Mu) (nt : Nat) (s : Slots) (a : Act) (X : Nat → Prop) : Prop where
  size : a.tmps.size = nt
  rel : ∀ t, ¬ X t → VRel μ (s.get t) (a.tmps.getD t undef)
  defers : a.defers = []

theorem SRelX.mono {μ ν : Mu} (h : Mu.le μ ν) {s : Slots} {a : Act} {X : Nat → Prop} (hs : SRelX μ nt s a X) : SRelX ν nt s a X := ⟨hs.size, fun t ht => (hs.rel t ht).mono h, hs.defers⟩

theorem SRelX.of {s : Slots} {a : Act} (h : SRel μ nt s a) (X : Nat → Prop) : SRelX μ nt s a X := ⟨h.size, fun t _ => h.rel t, h.defers⟩

theorem SRelX.all {s : Slots} {a : Act} {X : Nat → Prop} (h : SRelX μ nt s a X) (hX : ∀ t, ¬ X t) : SRel μ nt s a := ⟨h.size, fun t => h.rel t (hX t), h.defers⟩

theorem Act.getD_put {a : Act} {d t : Nat} {v : Value} (hd : d < a.tmps.size) : (a.put (some d) v).tmps.getD t undef = if t = d then v else a.tmps.getD t undef := by
  unfold Act.put
  by_cases h : t = d
  · subst h
    rw [if_pos rfl]
    simp [Array.getD_eq_getD_getElem?, hd]
  · rw [if_neg h]
    simp [Array.getD_eq_getD_getElem?, Array.getElem?_setIfInBounds_ne (Ne.symm h)]

/-- what waited is run -/
theorem SRelX.fill {s : Slots} {a : Act} {X Y : Nat → Prop} (hs : SRelX μ nt s a X) {d : Nat} (hd : d < nt) {v' : Value} (hv : VRel μ (s.get d) v') (hXY : ∀ t, X t → t = d ∨ Y t) : SRelX μ nt s (a.put (some d) v') Y where
  size := by simp [Act.put, hs.size]
  defers := hs.defers
  rel t ht := by
    rw [Act.getD_put (by rw [hs.size]; exact hd)]
    by_cases h : t = d
    · subst h; rw [if_pos rfl]; exact hv
    · rw [if_neg h]
      exact hs.rel t fun hx => (hXY t hx).elim h ht

theorem SRelX.put {s : Slots} {a : Act} {X : Nat → Prop} (hs : SRelX μ nt s a X) {d : Option Nat} (hd : ∀ t, d = some t → t < nt) {v v' : Value} (hv : VRel μ v v') : SRelX μ nt (s.put d v) (a.put d v') X := by
  cases d with
  | none => exact hs
  | some d =>
    refine ⟨by simp [Act.put, hs.size], fun t ht => ?_, hs.defers⟩
    rw [Act.getD_put (by rw [hs.size]; exact hd d rfl)]
    simp only [Slots.put, Slots.get_set]
    by_cases h : t = d
    · rw [if_pos h, if_pos h]; exact hv
    · rw [if_neg h, if_neg h]; exact hs.rel t ht

/-- it is run ahead of its turn -/
theorem SRelX.ahead {s : Slots} {a : Act} {X Y : Nat → Prop} (hs : SRelX μ nt s a X) {d : Nat} (v : Value) (hY : ∀ t, t = d ∨ X t → Y t) : SRelX μ nt (s.put (some d) v) a Y := by
  refine ⟨hs.size, fun t ht => ?_, hs.defers⟩
  simp only [Slots.put, Slots.get_set]
  rw [if_neg fun e => ht (hY t (.inl e))]
  exact hs.rel t fun hx => ht (hY t (.inr hx))

theorem eval_relX {s : Slots} {a : Act} {o : Oper} (hs : ∀ t ∈ o.looksAt ops, VRel μ (s.get t) (a.tmps.getD t undef)) (hok : ∀ x ∈ o.op.operands.toList, opndOk x = true) :
    ∀ x ∈ o.op.operands.toList, VRel μ (s.eval x) (a.eval x) := by
  intro x hx
  have hk := hok x hx
  cases x with
  | tmp t => exact hs t (opnd_looks hx)
  | const v => exact plainV_rel hk μ
  | global g => cases hk
  | func f => exact .func (as := []) (bs := []) (cs := []) (ds := []) rfl (fun i u v h => by simp at h) rfl (fun i u v h => by simp at h)

theorem eval_congr {s s' : Slots} {o : Oper} (h : ∀ t ∈ o.looksAt ops, s'.get t = s.get t) : ∀ x ∈ o.op.operands.toList, s'.eval x = s.eval x := by
  intro x hx
  cases x with
  | tmp t => exact h t (opnd_looks hx)
  | const v => rfl
  | global g => rfl
  | func f => rfl

theorem wanted_congr {s s' : Slots} {o : Oper} (h : ∀ t ∈ o.looksAt ops, s'.get t = s.get t) : wanted ops s' o = wanted ops s o := by
  unfold wanted
  cases hg : o.guard with
  | none => rfl
  | some jw =>
    obtain ⟨j, want⟩ := jw
    simp only
    cases hd : (ops[j]?).bind (·.dst) with
    | none => rfl
    | some d => simp only [h d (guard_looks hg hd)]

/-- a step with some slots ahead -/
theorem step_wpX (hC : C.Ok P) (hE : C.EqOk P) {call : CallF} (hcall : ∀ f, CallOk P B w0 f (call f)) (h : Rel B w0 μ m w) {s s' : Slots} {a : Act} {X : Nat → Prop} (hs : SRelX μ nt s a X) {i : Nat} {o : Oper}
    (ho : ops[i]? = some o) (hok : opOk nt o = true) (hX : ∀ t ∈ o.looksAt ops, ¬ X t) {m' : Mem} (hp : stepOp C call ops o s m = some (s', m')) {Q : Exit → Act → World → Prop} {K : Act → World → Prop}
    (hK : ∀ a' w' μ', SRelX μ' nt s' a' X → Rel B w0 μ' m' w' → Ext μ m μ' m' → K a' w') : wpOp P ops Q i K a w := by
  obtain ⟨hx, hd⟩ := opOk_spec hok
  have hl : ∀ t ∈ o.looksAt ops, VRel μ (s.get t) (a.tmps.getD t undef) := fun t ht => hs.rel t (hX t ht)
  unfold wpOp
  rw [ho]
  simp only
  unfold stepOp at hp
  cases hw : wanted ops s o with
  | none => rw [hw] at hp; cases hp
  | some b =>
    rw [hw] at hp
    have hwr := wanted_rel hl hw
    simp only [Option.bind_some] at hp
    cases b with
    | true =>
      rw [hwr]
      simp only [cond_true, if_true] at hp ⊢
      cases hop : oper C call s.eval o.op m with
      | none => rw [hop] at hp; cases hp
      | some r =>
        obtain ⟨v, m2⟩ := r
        rw [hop] at hp
        simp only [Option.bind_some, Option.some.injEq, Prod.mk.injEq] at hp
        obtain ⟨rfl, rfl⟩ := hp
        refine .inl (oper_wp hC hE hcall h (eval_relX hl hx) hop ?_)
        intro v' w' μ' h1 h2 h3
        exact hK _ w' μ' ((hs.mono h3.le).put hd h1) h2 h3
    | false =>
      rw [hwr]
      simp only [cond_false, Option.some.injEq, Prod.mk.injEq] at hp
      obtain ⟨rfl, rfl⟩ := hp
      simp only [Bool.false_eq_true, if_false]
      exact hK _ w μ (hs.put hd VRel.undef) h (Ext.refl _ _)

/-- a float that waits -/
def Pend (C : Ctx) (ops : Array Oper) (μ : Mu) (n0 : Nat) (s : Slots) (m : Mem) (i : Nat) (ph : Option Nat) : Prop :=
  ∃ o d, ops[i]? = some o ∧ o.dst = some d ∧ d ∉ o.looksAt ops ∧
   ((wanted ops s o = some false ∧ s.get d = .tuple ⟨[]⟩ ∧ ph = none) ∨
    (wanted ops s o = some true ∧ cls C o.op = .pure ∧ (∀ m2, prim C s.eval o.op m2 = some (s.get d, m2)) ∧ ph = none) ∨
    (wanted ops s o = some true ∧ cls C o.op = .read ∧ ph = none) ∨
    (wanted ops s o = some true ∧ cls C o.op = .alloc ∧ ∃ id m1 m1', ph = some id ∧ prim C s.eval o.op m1 = some (s.get d, m1') ∧ m1.next = id ∧ m.get id = m1'.get id ∧ n0 ≤ id ∧ id < m.next ∧ μ id = none ∧
      ∀ a : Bool, m.get id ≠ some (.group a)))

/-- what was read is still so -/
def ReadOk (C : Ctx) (ops : Array Oper) (s : Slots) (m : Mem) (i : Nat) : Prop :=
  ∀ o d, ops[i]? = some o → o.dst = some d → cls C o.op = .read → wanted ops s o = some true → prim C s.eval o.op m = some (s.get d, m)

theorem Pend.move {n0 : Nat} {s s' : Slots} {m' : Mem} {μ' : Mu} {i : Nat} {ph : Option Nat} (h : Pend C ops μ n0 s m i ph)
    (hs : ∀ o, ops[i]? = some o → (∀ t ∈ o.looksAt ops, s'.get t = s.get t) ∧ ∀ d, o.dst = some d → s'.get d = s.get d)
    (hm : ∀ id, ph = some id → id < m.next → μ id = none → (∀ a : Bool, m.get id ≠ some (.group a)) → m'.get id = m.get id ∧ μ' id = none ∧ id < m'.next) : Pend C ops μ' n0 s' m' i ph := by
  obtain ⟨o, d, h1, h2, h3, h4⟩ := h
  obtain ⟨k1, k2⟩ := hs o h1
  have k3 := k2 d h2
  refine ⟨o, d, h1, h2, h3, ?_⟩
  rw [wanted_congr k1, k3]
  have hpc : ∀ m2, prim C s'.eval o.op m2 = prim C s.eval o.op m2 := fun m2 => prim_congr (eval_congr k1) m2
  simp only [hpc]
  rcases h4 with h4 | h4 | h4 | ⟨q1, q2, id, m1, m1', q3, q4, q5, q6, q7, q8, q9, q10⟩
  · exact .inl h4
  · exact .inr (.inl h4)
  · exact .inr (.inr (.inl h4))
  · obtain ⟨r1, r2, r3⟩ := hm id q3 q8 q9 q10
    exact .inr (.inr (.inr ⟨q1, q2, id, m1, m1', q3, q4, q5, r1.trans q6, q7, r3, r2, by rw [r1]; exact q10⟩))

/-- a float is run ahead -/
theorem Pend.enter {call : CallF} {n0 : Nat} {s s' : Slots} {m' : Mem} {i : Nat} {o : Oper} (ho : ops[i]? = some o) (hsf : selfOk C ops i = true) (h : Rel B w0 μ m w) (hn : n0 ≤ m.next)
    (hp : stepOp C call ops o s m = some (s', m')) :
    ∃ ph d v, o.dst = some d ∧ s' = s.put (some d) v ∧ Pend C ops μ n0 s' m' i ph ∧ (m' = m ∨ ∃ x, m' = m.new x) ∧ (∀ id, ph = some id → id = m.next) := by
  unfold selfOk at hsf
  rw [ho] at hsf
  simp only [Bool.and_eq_true] at hsf
  obtain ⟨hf, hd⟩ := hsf
  cases hdst : o.dst with
  | none => rw [hdst] at hd; cases hd
  | some d =>
    rw [hdst] at hd
    have hnl : d ∉ o.looksAt ops := by
      intro q
      simp only [inL_iff.2 q] at hd
      cases hd
    have hcl : cls C o.op ≠ .eff := by
      intro q
      simp [isFl, q] at hf
    have looks : ∀ v, ∀ t ∈ o.looksAt ops, (s.put (some d) v).get t = s.get t := fun v t ht => by
      simp only [Slots.put, Slots.get_set]
      rw [if_neg]
      rintro rfl
      exact hnl ht
    have here : ∀ v, (s.put (some d) v).get d = v := fun v => by simp only [Slots.put, Slots.get_set, if_pos]
    unfold stepOp at hp
    cases hw : wanted ops s o with
    | none => rw [hw] at hp; cases hp
    | some b =>
      rw [hw] at hp
      simp only [Option.bind_some] at hp
      cases b with
      | false =>
        simp only [cond_false, hdst, Option.some.injEq, Prod.mk.injEq] at hp
        obtain ⟨rfl, rfl⟩ := hp
        exact ⟨none, d, _, rfl, rfl, ⟨o, d, ho, hdst, hnl, .inl ⟨by rw [wanted_congr (looks _)]; exact hw, here _, rfl⟩⟩, .inl rfl, fun id q => by cases q⟩
      | true =>
        simp only [cond_true, oper_prim hcl] at hp
        cases hop : prim C s.eval o.op m with
        | none => rw [hop] at hp; cases hp
        | some r =>
          obtain ⟨v, m2⟩ := r
          rw [hop] at hp
          simp only [Option.bind_some, hdst, Option.some.injEq, Prod.mk.injEq] at hp
          obtain ⟨rfl, rfl⟩ := hp
          have hw' : wanted ops (s.put (some d) v) o = some true := by rw [wanted_congr (looks _)]; exact hw
          have hpc : ∀ m2, prim C (s.put (some d) v).eval o.op m2 = prim C s.eval o.op m2 := fun m2 => prim_congr (eval_congr (looks v)) m2
          cases hc : cls C o.op with
          | eff => exact absurd hc hcl
          | pure =>
            obtain ⟨e, q⟩ := pure_indep hc hop
            exact ⟨none, d, _, rfl, rfl, ⟨o, d, ho, hdst, hnl, .inr (.inl ⟨hw', hc, fun m2 => by rw [hpc, here]; exact q m2, rfl⟩)⟩, .inl e, fun id q => by cases q⟩
          | read =>
            have e := read_same hc hop
            exact ⟨none, d, _, rfl, rfl, ⟨o, d, ho, hdst, hnl, .inr (.inr (.inl ⟨hw', hc, rfl⟩))⟩, .inl e, fun id q => by cases q⟩
          | alloc =>
            obtain ⟨mk, x, e1, e2, e3, e4⟩ := alloc_new hc hop
            refine ⟨some m.next, d, _, rfl, rfl, ⟨o, d, ho, hdst, hnl, .inr (.inr (.inr ⟨hw', hc, m.next, m, m2, rfl, by rw [hpc, here]; exact hop, rfl, rfl, hn, ?_, h.unnamed (Nat.le_refl _), ?_⟩))⟩, .inr ⟨x, e2⟩, fun id q => by cases q; rfl⟩
            · rw [e2]; simp
            · rw [e2, Mem.get_new, if_pos rfl]
              exact fun a q => e3 a (Option.some.inj q)

/-- what waited is run at last -/
theorem Pend.leave (hC : C.Ok P) (hE : C.EqOk P) {call : CallF} (hcall : ∀ f, CallOk P B w0 f (call f)) {n0 : Nat} {s : Slots} {a : Act} {i : Nat} {ph : Option Nat} (hp : Pend C ops μ n0 s m i ph) (hr : ReadOk C ops s m i)
    (h : Rel B w0 μ m w) (hok : ∀ o, ops[i]? = some o → opOk nt o = true) {X : Nat → Prop} (hs : SRelX μ nt s a X) (hX : ∀ o, ops[i]? = some o → ∀ t ∈ o.looksAt ops, ¬ X t) {Q : Exit → Act → World → Prop} {K : Act → World → Prop}
    (hK : ∀ d a' w' μ', (∃ o, ops[i]? = some o ∧ o.dst = some d) → (∀ Y : Nat → Prop, (∀ t, X t → t = d ∨ Y t) → SRelX μ' nt s a' Y) → Rel B w0 μ' m w' → Mu.le μ μ' → (∀ k, (∃ l, μ k = some l) ∨ (ph ≠ some k) → μ' k = μ k) → K a' w') : wpOp P ops Q i K a w := by
  obtain ⟨o, d, ho, hdst, hnl, hcase⟩ := hp
  obtain ⟨hx, hd⟩ := opOk_spec (hok o ho)
  have hl : ∀ t ∈ o.looksAt ops, VRel μ (s.get t) (a.tmps.getD t undef) := fun t ht => hs.rel t (hX o ho t ht)
  have hlt := hd d hdst
  have via : ∀ {v'} {w'} {μ'}, VRel μ' (s.get d) v' → Rel B w0 μ' m w' → Mu.le μ μ' → (∀ k, (∃ l, μ k = some l) ∨ (ph ≠ some k) → μ' k = μ k) → K (a.put o.dst v') w' := by
    intro v' w' μ' h1 h2 h3 h4
    rw [hdst]
    exact hK d _ w' μ' ⟨o, ho, hdst⟩ (fun Y hY => (hs.mono h3).fill hlt h1 hY) h2 h3 h4
  have same : ∀ {v' w' μ'}, VRel μ' (s.get d) v' → Rel B w0 μ' m w' → Ext μ m μ' m → K (a.put o.dst v') w' := by
    intro v' w' μ' h1 h2 h3
    refine via h1 h2 h3.le fun k _ => ?_
    by_cases hk : k < m.next
    · exact h3.mu k hk
    · rw [h2.unnamed (by omega), h.unnamed (by omega)]
  unfold wpOp
  rw [ho]
  simp only
  rcases hcase with ⟨hw, hv, _⟩ | ⟨hw, hc, hv, _⟩ | ⟨hw, hc, _⟩ | ⟨hw, hc, id, m1, m1', hph, q1, q2, q3, q4, q5, q6, q7⟩
  · rw [wanted_rel hl hw]
    simp only [Bool.false_eq_true, if_false]
    exact same (by rw [hv]; exact VRel.undef) h (Ext.refl _ _)
  · rw [wanted_rel hl hw]
    simp only [if_true]
    have := hv m
    rw [← oper_prim (call := call) (by rw [hc]; intro q; cases q)] at this
    exact .inl (oper_wp hC hE hcall h (eval_relX hl hx) this fun v' w' μ' h1 h2 h3 => same h1 h2 h3)
  · rw [wanted_rel hl hw]
    simp only [if_true]
    have := hr o d ho hdst hc hw
    rw [← oper_prim (call := call) (by rw [hc]; intro q; cases q)] at this
    exact .inl (oper_wp hC hE hcall h (eval_relX hl hx) this fun v' w' μ' h1 h2 h3 => same h1 h2 h3)
  · rw [wanted_rel hl hw]
    simp only [if_true]
    obtain ⟨mk1, x1, e1, e2, e3, e4⟩ := alloc_new hc q1
    have hnow := e4 m
    obtain ⟨mk, x, f1, f2, f3, f4, sem, f5, f6⟩ := alloc_shape (ρ' := a.eval) hC h (eval_relX hl hx) hc hnow
    obtain ⟨hmk, hxx⟩ := NewObj.inj e4 f4 id
    subst hxx
    obtain ⟨v', w', l, g1, g2, g3, g4, g5⟩ := f5
    have hget : m.get id = some x1 := by
      rw [q3, e2, Mem.get_new, if_pos q2.symm]
    have hb := g5 id (μ.set id l) m (Mu.set_same _ _ _) (Mu.le_set l q6)
    refine .inl ?_
    unfold Oper.wp
    rw [f6]
    simp only [Sem.run_bind, g1, Result.andThen_ok, Sem.run_pure, Oper.upon]
    refine via (μ' := μ.set id l) ?_ (h.bind q5 q6 g2 g3 g4 (by rw [hget]; exact hb.2)) (Mu.le_set l q6) fun k hk => ?_
    · rw [e1, q2, hmk]; exact hb.1
    · rw [Mu.set_other]
      rintro rfl
      rcases hk with ⟨l', hl'⟩ | hk
      · rw [q6] at hl'; cases hl'
      · exact hk hph

end
end Go.Ev
